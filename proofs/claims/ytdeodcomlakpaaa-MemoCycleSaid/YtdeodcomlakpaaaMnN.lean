/- GetUntil. -/
import Derived.Test.YtdeodcomlakpaaaMnM
namespace Go.Proofs.Ytdeodcomlakpaaa
open Go.RowKit Go.ChangeMaps Go.MapKept
set_option linter.unusedVariables false
set_option linter.unusedSimpArgs false
/-- what an operation on the database leaves: its state d', idle -/
structure After (b : Nat) (w w' : World) (d d' : Dm) : Prop where
  mem : DmAt w' b d'
  chg : ChgP (fun g => g ∈ d.muts b) w w'
  muts : ∀ g ∈ d'.muts b, g ∈ d.muts b ∨ w.heap.size ≤ g
  imms : ∀ g ∈ d'.imms, g ∈ d.imms ∨ w.heap.size ≤ g
  comp : d'.comp = d.comp
  stop : d'.stop = .nilFunc
def PS.idle (s : PS) : PS := { s with act := [] }
/-- what GetUntil brings -/
def GPost (U : PS → QK → Except Int Unit × PS) (b : Nat) (k : QK) (w : World) (d : Dm) (e : Ending) (w' : World) : Prop :=
  ∃ d', After b w w' d d' ∧ d'.pl = (U d.pl k).2.idle ∧ match (U d.pl k).1 with
    | .ok _ => ∃ a c, e = .returned (.tuple #[.agg #[.slice a ((U d.pl k).2.res k).xs.length c, .string ⟨#[]⟩], .int .i64 0]) ∧ Inp.Ints w' (.slice a ((U d.pl k).2.res k).xs.length c) ((U d.pl k).2.res k).xs
    | .error x => e = .returned (.tuple #[.agg #[.slice none 0 0, .string ⟨#[]⟩], .int .i64 x])
section
variable {w0 : World} {RO : Nat → Prop} {b : Nat} {comp : Value} {U : PS → QK → Except Int Unit × PS}
set_option maxRecDepth 100000 in
set_option maxHeartbeats 4000000 in
theorem getUntil_any (stopv : Value) (hform : stopv = .nilFunc ∨ ∃ f fi ca, stopv = .func (.func f) fi ca) (key : QK) (hkey : key.1 ≠ 0)
    (w : World) (d : Dm) (h : Env w0 RO b w d) (hup : ∀ w' d', Env w0 RO b w' d' → d'.comp = d.comp → d'.stop = stopv → d'.pl = d.pl → Calls Try.prog 68 #[.pointer (some ⟨b, 0, none⟩), i3v key] w' (UPost U chI b key w' d')) :
    Calls Try.prog 34 #[.pointer (some ⟨b, 0, none⟩), i3v key, stopv] w (GPost U b key w d) := by
  obtain ⟨k1, k2, k3⟩ := key
  have b0 : (k1 == 0) = false := by simpa using hkey
  have q4 : w.cell? ⟨b, 4, none⟩ = some d.stop := cell_of_heap h.mem.blk rfl
  have f4 := frozen_of_heap h.mem.blk (i := 4)
  have lb : b < w.heap.size := lt_of_cell q4
  have nb := World.new_ne w _ q4
  have lb1 : b < w.heap.size + 1 := by omega
  have lb2 : b < w.heap.size + 1 + 1 := by omega
  have lb3 : b < w.heap.size + 1 + 1 + 1 := by omega
  have hmf : ∀ (fn : Fn) (first cap : Array Value) (w : World), (Instr.makeFunc fn first cap).run Try.prog w = .ok (.func fn first cap) w := fun _ _ _ _ => rfl
  have H := Lib.hid h
  have Hup := Lib.hid hup
  clear h hup hkey
  rcases hform with rfl | ⟨f, fi, ca, rfl⟩
  · skip
    unfold i3v
    go_enter_defers Try.func34, Try.ntmps34
    go_wp2_with fail
    have hcs : ChgP (fun g => g = b) w (w.setCell ⟨b, 4, none⟩ .nilFunc) := (ChgP.refl (fun g => g = b) w).setCell (p := ⟨b, 4, none⟩) (Or.inl rfl) _
    have hm0 := H.out.mem.setHead (stop' := .nilFunc) (cnt' := d.cnt) (clk' := d.clk) hcs ((heap_setCell_same H.out.mem.blk _).trans rfl)
    have hsz : (w.setCell ⟨b, 4, none⟩ .nilFunc).heap.size = w.heap.size := by simp [World.setCell]
    obtain ⟨wa, hwa⟩ : ∃ x, x = (((((w.setCell ⟨b, 4, none⟩ .nilFunc).alloc (.cells #[.pointer (some ⟨b, 0, none⟩)] 24)).alloc (.cells #[.int .i64 k1, .int .i64 k2, .int .i64 k3] 27)).alloc (.cells #[.slice none 0 0, .string ⟨#[]⟩] 31)).alloc (.cells #[.int .i64 0] 34)) := ⟨_, rfl⟩
    have hca : Chg [] (w.setCell ⟨b, 4, none⟩ .nilFunc) wa := by rw [hwa]; exact ((((Chg.refl [] _).alloc _).alloc _).alloc _).alloc _
    have hasz : wa.heap.size = w.heap.size + 4 := by rw [hwa]; simp [World.setCell]
    have hb1 : wa.heap[w.heap.size]? = some (.cells #[.pointer (some ⟨b, 0, none⟩)] 24 (0, 0)) := by rw [hwa]; exact (heap_past _ _ _ (by simp [hsz]; omega)).trans ((heap_past _ _ _ (by simp [hsz]; omega)).trans ((heap_past _ _ _ (by simp [hsz])).trans (heap_at _ _ _ hsz.symm)))
    have hb3 : wa.heap[w.heap.size + 1 + 1]? = some (.cells #[.slice none 0 0, .string ⟨#[]⟩] 31 (0, 0)) := by rw [hwa]; exact (heap_past _ _ _ (by simp [hsz])).trans (heap_at _ _ _ (by simp [hsz]))
    have hb4 : wa.heap[w.heap.size + 1 + 1 + 1]? = some (.cells #[.int .i64 0] 34 (0, 0)) := by rw [hwa]; exact heap_at _ _ _ (by simp [hsz])
    rw [← hwa]
    clear hwa hsz
    have hnm : ∀ g, w.heap.size ≤ g → g ∉ d.muts b ∧ g ∉ d.imms := fun g hg => ⟨fun hm => by have := H.out.mem.lt g hm; omega, fun hm => by have := H.out.mem.bound g hm; omega⟩
    have hwch : ChgP (fun g => g ∈ d.muts b) w wa := (hcs.mono fun g hg => by subst hg; simp [Dm.muts]).new hca
    have henv : Env w0 RO b wa { d with stop := .nilFunc } := ⟨hm0.new hca, fun g hg => by
      obtain ⟨h1, h2, h3⟩ := H.out.ro g hg
      exact ⟨by omega, (hwch.block g h1 h3).trans h2, h3⟩⟩
    have Hcall := Lib.hid (Hup.out wa { d with stop := .nilFunc } henv rfl rfl rfl)
    have Hb := Lib.hid (And.intro hb1 (And.intro hb3 hb4))
    have Hnm := Lib.hid hnm
    have Hwch := Lib.hid hwch
    have Hasz := Lib.hid hasz
    unfold i3v at Hcall
    clear hcs hm0 hca hb1 hb3 hb4 hnm hwch henv hasz q4 f4 nb lb1 lb2 lb3
    refine Hcall.out.mono ?_
    rintro e w1 hp
    rcases hu : U d.pl (k1, k2, k3) with ⟨x | y, s'⟩
    · obtain ⟨d2, rfl, hn, rfl⟩ := hp.err hu
      have Hu := Lib.hid hu
      have o1 := hn.other (lt_of_obj Hb.out.1) (Hnm.out _ (Nat.le_refl _)).1
      have o3 := hn.other (lt_of_obj Hb.out.2.1) (Hnm.out _ (by omega)).1
      have o4 := hn.other (lt_of_obj Hb.out.2.2) (Hnm.out _ (by omega)).1
      have i3 : w.heap.size + 1 + 1 ∉ d2.imms := fun hm => (hn.imms _ hm).elim (Hnm.out _ (by omega)).2 fun h => by have := Hasz.out; omega
      have i4 : w.heap.size + 1 + 1 + 1 ∉ d2.imms := fun hm => (hn.imms _ hm).elim (Hnm.out _ (by omega)).2 fun h => by have := Hasz.out; omega
      have hcat := catch_panic w1 d2 w.heap.size (w.heap.size + 1 + 1) (w.heap.size + 1 + 1 + 1) x hn.mem (o1.1.trans Hb.out.1) o1.2.1 (o3.1.trans Hb.out.2.1) o3.2.1 (o4.1.trans Hb.out.2.2) o4.2.1 ⟨i3, i4⟩
      have Hn := Lib.hid hn
      clear hu hp hn o1 o3 o4 i3 i4
      refine leaves_cons (f := 66) (args := #[.pointer (some ⟨w.heap.size, 0, none⟩), .pointer (some ⟨w.heap.size + 1 + 1, 0, none⟩), .pointer (some ⟨w.heap.size + 1 + 1 + 1, 0, none⟩)]) (by simp) (by simp [go_sem]) ?_
      refine hcat.mono ?_
      rintro e u' w2 ⟨rfl, rfl, hcau, hv, he⟩
      have v0 := cell_of_heap hv (i := 0) rfl
      have v1 := cell_of_heap hv (i := 1) rfl
      have e0 := cell_of_heap he (i := 0) rfl
      have hfin : GPost U b (k1, k2, k3) w d (.returned (.tuple #[.agg #[.slice none 0 0, .string ⟨#[]⟩], .int .i64 x])) w2 := by
        refine ⟨d2.idle, ⟨hcau.mem, (Hwch.out.trans Hn.out.chg).comp hcau.chg fun g hg => ?_, fun g hg => ?_, fun g hg => ?_, Hn.out.comp, rfl⟩, ?_, ?_⟩
        · rcases hg with hg | rfl | rfl
          · exact (Hn.out.muts g hg).imp id fun h => by have := Hasz.out; omega
          · right; omega
          · right; omega
        · exact (Hn.out.muts g hg).imp id fun h => by have := Hasz.out; omega
        · exact (Hn.out.imms g hg).imp id fun h => by have := Hasz.out; omega
        · rw [Hu.out]; rfl
        · rw [Hu.out]
      simp [Leaves, settle, results, Try.results34, go_sem, v0, v1, e0]
      exact hfin
    · obtain ⟨d2, r, rfl, hn, rfl, hr⟩ := hp.ok hu
      have Hu := Lib.hid hu
      have o1 := hn.other (lt_of_obj Hb.out.1) (Hnm.out _ (Nat.le_refl _)).1
      have o3 := hn.other (lt_of_obj Hb.out.2.1) (Hnm.out _ (by omega)).1
      have o4 := hn.other (lt_of_obj Hb.out.2.2) (Hnm.out _ (by omega)).1
      have hrs := hn.mem.rs hr
      have r0 : w1.cell? ⟨r.blk, 0, none⟩ = some (.slice r.a r.xs.length r.cap) := cell_of_heap hrs.blk rfl
      have r1 : w1.cell? ⟨r.blk, 1, none⟩ = some (.string ⟨#[]⟩) := cell_of_heap hrs.blk rfl
      have Hcl := Lib.hid (Inp.memoClone w1 _ ⟨#[]⟩ r.xs hrs.nums hrs.size)
      have i3 : w.heap.size + 1 + 1 ∉ d2.imms := fun hm => (hn.imms _ hm).elim (Hnm.out _ (by omega)).2 fun h => by have := Hasz.out; omega
      have i4 : w.heap.size + 1 + 1 + 1 ∉ d2.imms := fun hm => (hn.imms _ hm).elim (Hnm.out _ (by omega)).2 fun h => by have := Hasz.out; omega
      have Hn := Lib.hid hn
      have Hr := Lib.hid hr
      have Ho := Lib.hid (And.intro (And.intro (o1.1.trans Hb.out.1) o1.2.1) (And.intro (And.intro (o3.1.trans Hb.out.2.1) (And.intro o3.2.1 i3)) (And.intro (o4.1.trans Hb.out.2.2) (And.intro o4.2.1 i4))))
      clear hu hp hn hr hrs o1 o3 o4 i3 i4
      unfold Rs.val
      go_wp2_with fail
      refine Hcl.out.mono ?_
      rintro e w3 ⟨a3, c3, rfl, hi3, hn3, hc3⟩
      have b1 := (hc3.block _ (lt_of_obj Ho.out.1.1) (by simp)).trans Ho.out.1.1
      have b3 := (hc3.block _ (lt_of_obj Ho.out.2.1.1) (by simp)).trans Ho.out.2.1.1
      have b4 := (hc3.block _ (lt_of_obj Ho.out.2.2.1) (by simp)).trans Ho.out.2.2.1
      have v0 := cell_of_heap b3 (i := 0) rfl
      have v1 := cell_of_heap b3 (i := 1) rfl
      have fv0 := frozen_of_heap b3 (i := 0)
      have fv1 := frozen_of_heap b3 (i := 1)
      have e0 := cell_of_heap b4 (i := 0) rfl
      have fe0 := frozen_of_heap b4 (i := 0)
      have hz3 := Hn.out.chg.size
      have hz4 := hc3.size
      have HB := Lib.hid (And.intro b1 (And.intro b3 b4))
      have Hi3 := Lib.hid hi3
      have Hn3 := Lib.hid hn3
      have Hc3 := Lib.hid hc3
      have Hz := Lib.hid (And.intro hz3 hz4)
      clear b1 b3 b4 hi3 hn3 hc3 r0 r1 hz3 hz4
      go_wp2_with fail
      obtain ⟨w4, hw4⟩ : ∃ x, x = (((w3.setCell ⟨w.heap.size + 1 + 1, 0, none⟩ (.slice a3 r.xs.length c3)).setCell ⟨w.heap.size + 1 + 1, 1, none⟩ (.string ⟨#[]⟩)).setCell ⟨w.heap.size + 1 + 1 + 1, 0, none⟩ (.int .i64 0)) := ⟨_, rfl⟩
      rw [← hw4]
      have hcw : ChgP (fun g => g = w.heap.size + 1 + 1 ∨ g = w.heap.size + 1 + 1 + 1) w3 w4 := by
        rw [hw4]
        exact (((ChgP.refl (fun g => g = w.heap.size + 1 + 1 ∨ g = w.heap.size + 1 + 1 + 1) w3).setCell (p := ⟨w.heap.size + 1 + 1, 0, none⟩) (Or.inl (Or.inl rfl)) _).setCell (p := ⟨w.heap.size + 1 + 1, 1, none⟩) (Or.inl (Or.inl rfl)) _).setCell (p := ⟨w.heap.size + 1 + 1 + 1, 0, none⟩) (Or.inl (Or.inr rfl)) _
      have hb1 := (hcw.block _ (lt_of_obj HB.out.1) (by omega)).trans HB.out.1
      have hb3 : w4.heap[w.heap.size + 1 + 1]? = some (.cells #[.slice a3 r.xs.length c3, .string ⟨#[]⟩] 31 (0, 0)) := by
        rw [hw4]
        exact (heap_setCell_ne _ _ _ _ (by simp only; omega)).trans ((heap_setCell_same (heap_setCell_same HB.out.2.1 _) _).trans rfl)
      have hb4 : w4.heap[w.heap.size + 1 + 1 + 1]? = some (.cells #[.int .i64 0] 34 (0, 0)) := by
        rw [hw4]
        exact (heap_setCell_same ((heap_setCell_ne _ _ _ _ (by simp only; omega)).trans ((heap_setCell_ne _ _ _ _ (by simp only; omega)).trans HB.out.2.2)) _).trans rfl
      have hm4 : DmAt w4 b d2 := (Hn.out.mem.new Hc3.out).kept hcw (fun g hg e => e.elim (fun e => Ho.out.2.1.2.1 (e ▸ hg)) fun e => Ho.out.2.2.2.1 (e ▸ hg)) (fun g hg e => e.elim (fun e => Ho.out.2.1.2.2 (e ▸ hg)) fun e => Ho.out.2.2.2.2 (e ▸ hg))
      have hi4 : Inp.Ints w4 (.slice a3 r.xs.length c3) r.xs := intsKept' Hi3.out fun g hg => by
        have hl : w1.heap.size ≤ g := by
          cases a3 with
          | none => simp [oblk] at hg
          | some ad => simp [oblk] at hg; subst hg; exact Hn3.out ad rfl
        have hl3 : g < w3.heap.size := by
          rcases Hi3.out with ⟨e, _⟩ | ⟨g', off, cap, cc, fr, e, _, _, hh, _⟩
          · simp only [Value.slice.injEq] at e; rw [e.1] at hg; simp [oblk] at hg
          · simp only [Value.slice.injEq] at e; rw [e.1] at hg; simp [oblk] at hg; subst hg; exact lt_of_obj hh
        exact hcw.block g hl3 (by have h1 := Hz.out.1; have h2 := Hasz.out; omega)
      clear hw4 v0 v1 fv0 fv1 e0 fe0
      have hcat := catch_idle w4 d2 w.heap.size (w.heap.size + 1 + 1) (w.heap.size + 1 + 1 + 1) hm4 hb1 Ho.out.1.2
      refine leaves_cons (f := 66) (args := #[.pointer (some ⟨w.heap.size, 0, none⟩), .pointer (some ⟨w.heap.size + 1 + 1, 0, none⟩), .pointer (some ⟨w.heap.size + 1 + 1 + 1, 0, none⟩)]) (by simp) (by simp [go_sem]) ?_
      refine hcat.mono ?_
      rintro e u' w5 ⟨rfl, rfl, hm5, hch5⟩
      have hb35 := (hch5.block _ (lt_of_obj hb3) Ho.out.2.1.2.1).trans hb3
      have hb45 := (hch5.block _ (lt_of_obj hb4) Ho.out.2.2.2.1).trans hb4
      have v0 := cell_of_heap hb35 (i := 0) rfl
      have v1 := cell_of_heap hb35 (i := 1) rfl
      have e0 := cell_of_heap hb45 (i := 0) rfl
      have hfin : GPost U b (k1, k2, k3) w d (.returned (.tuple #[.agg #[.slice a3 r.xs.length c3, .string ⟨#[]⟩], .int .i64 0])) w5 := by
        refine ⟨d2.idle, ⟨hm5, (((Hwch.out.trans Hn.out.chg).new Hc3.out).comp hcw fun g hg => ?_).comp hch5 fun g hg => ?_, fun g hg => ?_, fun g hg => ?_, Hn.out.comp, rfl⟩, ?_, ?_⟩
        · right; omega
        · exact (Hn.out.muts g hg).imp id fun h => by have := Hasz.out; omega
        · exact (Hn.out.muts g hg).imp id fun h => by have := Hasz.out; omega
        · exact (Hn.out.imms g hg).imp id fun h => by have := Hasz.out; omega
        · rw [Hu.out]; rfl
        · rw [Hu.out]
          refine ⟨a3, c3, ?_, ?_⟩
          · show _ = Ending.returned (.tuple #[.agg #[.slice a3 (d2.pl.res (k1, k2, k3)).xs.length c3, _], _])
            rw [Dm.res_pl Hr.out]; rfl
          · show Inp.Ints w5 (.slice a3 (d2.pl.res (k1, k2, k3)).xs.length c3) (d2.pl.res (k1, k2, k3)).xs
            rw [Dm.res_pl Hr.out]
            refine intsKept' hi4 fun g hg => hch5.block g ?_ fun hm => ?_
            · rcases hi4 with ⟨e, _⟩ | ⟨g', off, cap, cc, fr, e, _, _, hh, _⟩
              · simp only [Value.slice.injEq] at e; rw [e.1] at hg; simp [oblk] at hg
              · simp only [Value.slice.injEq] at e; rw [e.1] at hg; simp [oblk] at hg; subst hg; exact lt_of_obj hh
            · have h1 := Hn.out.mem.lt g hm
              cases a3 with
              | none => simp [oblk] at hg
              | some ad => simp [oblk] at hg; subst hg; have := Hn3.out ad rfl; omega
      simp [Leaves, settle, results, Try.results34, go_sem, v0, v1, e0]
      exact hfin
  · skip
    unfold i3v
    go_enter_defers Try.func34, Try.ntmps34
    go_wp2_with fail
    have hcs : ChgP (fun g => g = b) w (w.setCell ⟨b, 4, none⟩ (.func (.func f) fi ca)) := (ChgP.refl (fun g => g = b) w).setCell (p := ⟨b, 4, none⟩) (Or.inl rfl) _
    have hm0 := H.out.mem.setHead (stop' := (.func (.func f) fi ca)) (cnt' := d.cnt) (clk' := d.clk) hcs ((heap_setCell_same H.out.mem.blk _).trans rfl)
    have hsz : (w.setCell ⟨b, 4, none⟩ (.func (.func f) fi ca)).heap.size = w.heap.size := by simp [World.setCell]
    obtain ⟨wa, hwa⟩ : ∃ x, x = (((((w.setCell ⟨b, 4, none⟩ (.func (.func f) fi ca)).alloc (.cells #[.pointer (some ⟨b, 0, none⟩)] 24)).alloc (.cells #[.int .i64 k1, .int .i64 k2, .int .i64 k3] 27)).alloc (.cells #[.slice none 0 0, .string ⟨#[]⟩] 31)).alloc (.cells #[.int .i64 0] 34)) := ⟨_, rfl⟩
    have hca : Chg [] (w.setCell ⟨b, 4, none⟩ (.func (.func f) fi ca)) wa := by rw [hwa]; exact ((((Chg.refl [] _).alloc _).alloc _).alloc _).alloc _
    have hasz : wa.heap.size = w.heap.size + 4 := by rw [hwa]; simp [World.setCell]
    have hb1 : wa.heap[w.heap.size]? = some (.cells #[.pointer (some ⟨b, 0, none⟩)] 24 (0, 0)) := by rw [hwa]; exact (heap_past _ _ _ (by simp [hsz]; omega)).trans ((heap_past _ _ _ (by simp [hsz]; omega)).trans ((heap_past _ _ _ (by simp [hsz])).trans (heap_at _ _ _ hsz.symm)))
    have hb3 : wa.heap[w.heap.size + 1 + 1]? = some (.cells #[.slice none 0 0, .string ⟨#[]⟩] 31 (0, 0)) := by rw [hwa]; exact (heap_past _ _ _ (by simp [hsz])).trans (heap_at _ _ _ (by simp [hsz]))
    have hb4 : wa.heap[w.heap.size + 1 + 1 + 1]? = some (.cells #[.int .i64 0] 34 (0, 0)) := by rw [hwa]; exact heap_at _ _ _ (by simp [hsz])
    rw [← hwa]
    clear hwa hsz
    have hnm : ∀ g, w.heap.size ≤ g → g ∉ d.muts b ∧ g ∉ d.imms := fun g hg => ⟨fun hm => by have := H.out.mem.lt g hm; omega, fun hm => by have := H.out.mem.bound g hm; omega⟩
    have hwch : ChgP (fun g => g ∈ d.muts b) w wa := (hcs.mono fun g hg => by subst hg; simp [Dm.muts]).new hca
    have henv : Env w0 RO b wa { d with stop := (.func (.func f) fi ca) } := ⟨hm0.new hca, fun g hg => by
      obtain ⟨h1, h2, h3⟩ := H.out.ro g hg
      exact ⟨by omega, (hwch.block g h1 h3).trans h2, h3⟩⟩
    have Hcall := Lib.hid (Hup.out wa { d with stop := (.func (.func f) fi ca) } henv rfl rfl rfl)
    have Hb := Lib.hid (And.intro hb1 (And.intro hb3 hb4))
    have Hnm := Lib.hid hnm
    have Hwch := Lib.hid hwch
    have Hasz := Lib.hid hasz
    unfold i3v at Hcall
    clear hcs hm0 hca hb1 hb3 hb4 hnm hwch henv hasz q4 f4 nb lb1 lb2 lb3
    refine Hcall.out.mono ?_
    rintro e w1 hp
    rcases hu : U d.pl (k1, k2, k3) with ⟨x | y, s'⟩
    · obtain ⟨d2, rfl, hn, rfl⟩ := hp.err hu
      have Hu := Lib.hid hu
      have o1 := hn.other (lt_of_obj Hb.out.1) (Hnm.out _ (Nat.le_refl _)).1
      have o3 := hn.other (lt_of_obj Hb.out.2.1) (Hnm.out _ (by omega)).1
      have o4 := hn.other (lt_of_obj Hb.out.2.2) (Hnm.out _ (by omega)).1
      have i3 : w.heap.size + 1 + 1 ∉ d2.imms := fun hm => (hn.imms _ hm).elim (Hnm.out _ (by omega)).2 fun h => by have := Hasz.out; omega
      have i4 : w.heap.size + 1 + 1 + 1 ∉ d2.imms := fun hm => (hn.imms _ hm).elim (Hnm.out _ (by omega)).2 fun h => by have := Hasz.out; omega
      have hcat := catch_panic w1 d2 w.heap.size (w.heap.size + 1 + 1) (w.heap.size + 1 + 1 + 1) x hn.mem (o1.1.trans Hb.out.1) o1.2.1 (o3.1.trans Hb.out.2.1) o3.2.1 (o4.1.trans Hb.out.2.2) o4.2.1 ⟨i3, i4⟩
      have Hn := Lib.hid hn
      clear hu hp hn o1 o3 o4 i3 i4
      refine leaves_cons (f := 66) (args := #[.pointer (some ⟨w.heap.size, 0, none⟩), .pointer (some ⟨w.heap.size + 1 + 1, 0, none⟩), .pointer (some ⟨w.heap.size + 1 + 1 + 1, 0, none⟩)]) (by simp) (by simp [go_sem]) ?_
      refine hcat.mono ?_
      rintro e u' w2 ⟨rfl, rfl, hcau, hv, he⟩
      have v0 := cell_of_heap hv (i := 0) rfl
      have v1 := cell_of_heap hv (i := 1) rfl
      have e0 := cell_of_heap he (i := 0) rfl
      have hfin : GPost U b (k1, k2, k3) w d (.returned (.tuple #[.agg #[.slice none 0 0, .string ⟨#[]⟩], .int .i64 x])) w2 := by
        refine ⟨d2.idle, ⟨hcau.mem, (Hwch.out.trans Hn.out.chg).comp hcau.chg fun g hg => ?_, fun g hg => ?_, fun g hg => ?_, Hn.out.comp, rfl⟩, ?_, ?_⟩
        · rcases hg with hg | rfl | rfl
          · exact (Hn.out.muts g hg).imp id fun h => by have := Hasz.out; omega
          · right; omega
          · right; omega
        · exact (Hn.out.muts g hg).imp id fun h => by have := Hasz.out; omega
        · exact (Hn.out.imms g hg).imp id fun h => by have := Hasz.out; omega
        · rw [Hu.out]; rfl
        · rw [Hu.out]
      simp [Leaves, settle, results, Try.results34, go_sem, v0, v1, e0]
      exact hfin
    · obtain ⟨d2, r, rfl, hn, rfl, hr⟩ := hp.ok hu
      have Hu := Lib.hid hu
      have o1 := hn.other (lt_of_obj Hb.out.1) (Hnm.out _ (Nat.le_refl _)).1
      have o3 := hn.other (lt_of_obj Hb.out.2.1) (Hnm.out _ (by omega)).1
      have o4 := hn.other (lt_of_obj Hb.out.2.2) (Hnm.out _ (by omega)).1
      have hrs := hn.mem.rs hr
      have r0 : w1.cell? ⟨r.blk, 0, none⟩ = some (.slice r.a r.xs.length r.cap) := cell_of_heap hrs.blk rfl
      have r1 : w1.cell? ⟨r.blk, 1, none⟩ = some (.string ⟨#[]⟩) := cell_of_heap hrs.blk rfl
      have Hcl := Lib.hid (Inp.memoClone w1 _ ⟨#[]⟩ r.xs hrs.nums hrs.size)
      have i3 : w.heap.size + 1 + 1 ∉ d2.imms := fun hm => (hn.imms _ hm).elim (Hnm.out _ (by omega)).2 fun h => by have := Hasz.out; omega
      have i4 : w.heap.size + 1 + 1 + 1 ∉ d2.imms := fun hm => (hn.imms _ hm).elim (Hnm.out _ (by omega)).2 fun h => by have := Hasz.out; omega
      have Hn := Lib.hid hn
      have Hr := Lib.hid hr
      have Ho := Lib.hid (And.intro (And.intro (o1.1.trans Hb.out.1) o1.2.1) (And.intro (And.intro (o3.1.trans Hb.out.2.1) (And.intro o3.2.1 i3)) (And.intro (o4.1.trans Hb.out.2.2) (And.intro o4.2.1 i4))))
      clear hu hp hn hr hrs o1 o3 o4 i3 i4
      unfold Rs.val
      go_wp2_with fail
      refine Hcl.out.mono ?_
      rintro e w3 ⟨a3, c3, rfl, hi3, hn3, hc3⟩
      have b1 := (hc3.block _ (lt_of_obj Ho.out.1.1) (by simp)).trans Ho.out.1.1
      have b3 := (hc3.block _ (lt_of_obj Ho.out.2.1.1) (by simp)).trans Ho.out.2.1.1
      have b4 := (hc3.block _ (lt_of_obj Ho.out.2.2.1) (by simp)).trans Ho.out.2.2.1
      have v0 := cell_of_heap b3 (i := 0) rfl
      have v1 := cell_of_heap b3 (i := 1) rfl
      have fv0 := frozen_of_heap b3 (i := 0)
      have fv1 := frozen_of_heap b3 (i := 1)
      have e0 := cell_of_heap b4 (i := 0) rfl
      have fe0 := frozen_of_heap b4 (i := 0)
      have hz3 := Hn.out.chg.size
      have hz4 := hc3.size
      have HB := Lib.hid (And.intro b1 (And.intro b3 b4))
      have Hi3 := Lib.hid hi3
      have Hn3 := Lib.hid hn3
      have Hc3 := Lib.hid hc3
      have Hz := Lib.hid (And.intro hz3 hz4)
      clear b1 b3 b4 hi3 hn3 hc3 r0 r1 hz3 hz4
      go_wp2_with fail
      obtain ⟨w4, hw4⟩ : ∃ x, x = (((w3.setCell ⟨w.heap.size + 1 + 1, 0, none⟩ (.slice a3 r.xs.length c3)).setCell ⟨w.heap.size + 1 + 1, 1, none⟩ (.string ⟨#[]⟩)).setCell ⟨w.heap.size + 1 + 1 + 1, 0, none⟩ (.int .i64 0)) := ⟨_, rfl⟩
      rw [← hw4]
      have hcw : ChgP (fun g => g = w.heap.size + 1 + 1 ∨ g = w.heap.size + 1 + 1 + 1) w3 w4 := by
        rw [hw4]
        exact (((ChgP.refl (fun g => g = w.heap.size + 1 + 1 ∨ g = w.heap.size + 1 + 1 + 1) w3).setCell (p := ⟨w.heap.size + 1 + 1, 0, none⟩) (Or.inl (Or.inl rfl)) _).setCell (p := ⟨w.heap.size + 1 + 1, 1, none⟩) (Or.inl (Or.inl rfl)) _).setCell (p := ⟨w.heap.size + 1 + 1 + 1, 0, none⟩) (Or.inl (Or.inr rfl)) _
      have hb1 := (hcw.block _ (lt_of_obj HB.out.1) (by omega)).trans HB.out.1
      have hb3 : w4.heap[w.heap.size + 1 + 1]? = some (.cells #[.slice a3 r.xs.length c3, .string ⟨#[]⟩] 31 (0, 0)) := by
        rw [hw4]
        exact (heap_setCell_ne _ _ _ _ (by simp only; omega)).trans ((heap_setCell_same (heap_setCell_same HB.out.2.1 _) _).trans rfl)
      have hb4 : w4.heap[w.heap.size + 1 + 1 + 1]? = some (.cells #[.int .i64 0] 34 (0, 0)) := by
        rw [hw4]
        exact (heap_setCell_same ((heap_setCell_ne _ _ _ _ (by simp only; omega)).trans ((heap_setCell_ne _ _ _ _ (by simp only; omega)).trans HB.out.2.2)) _).trans rfl
      have hm4 : DmAt w4 b d2 := (Hn.out.mem.new Hc3.out).kept hcw (fun g hg e => e.elim (fun e => Ho.out.2.1.2.1 (e ▸ hg)) fun e => Ho.out.2.2.2.1 (e ▸ hg)) (fun g hg e => e.elim (fun e => Ho.out.2.1.2.2 (e ▸ hg)) fun e => Ho.out.2.2.2.2 (e ▸ hg))
      have hi4 : Inp.Ints w4 (.slice a3 r.xs.length c3) r.xs := intsKept' Hi3.out fun g hg => by
        have hl : w1.heap.size ≤ g := by
          cases a3 with
          | none => simp [oblk] at hg
          | some ad => simp [oblk] at hg; subst hg; exact Hn3.out ad rfl
        have hl3 : g < w3.heap.size := by
          rcases Hi3.out with ⟨e, _⟩ | ⟨g', off, cap, cc, fr, e, _, _, hh, _⟩
          · simp only [Value.slice.injEq] at e; rw [e.1] at hg; simp [oblk] at hg
          · simp only [Value.slice.injEq] at e; rw [e.1] at hg; simp [oblk] at hg; subst hg; exact lt_of_obj hh
        exact hcw.block g hl3 (by have h1 := Hz.out.1; have h2 := Hasz.out; omega)
      clear hw4 v0 v1 fv0 fv1 e0 fe0
      have hcat := catch_idle w4 d2 w.heap.size (w.heap.size + 1 + 1) (w.heap.size + 1 + 1 + 1) hm4 hb1 Ho.out.1.2
      refine leaves_cons (f := 66) (args := #[.pointer (some ⟨w.heap.size, 0, none⟩), .pointer (some ⟨w.heap.size + 1 + 1, 0, none⟩), .pointer (some ⟨w.heap.size + 1 + 1 + 1, 0, none⟩)]) (by simp) (by simp [go_sem]) ?_
      refine hcat.mono ?_
      rintro e u' w5 ⟨rfl, rfl, hm5, hch5⟩
      have hb35 := (hch5.block _ (lt_of_obj hb3) Ho.out.2.1.2.1).trans hb3
      have hb45 := (hch5.block _ (lt_of_obj hb4) Ho.out.2.2.2.1).trans hb4
      have v0 := cell_of_heap hb35 (i := 0) rfl
      have v1 := cell_of_heap hb35 (i := 1) rfl
      have e0 := cell_of_heap hb45 (i := 0) rfl
      have hfin : GPost U b (k1, k2, k3) w d (.returned (.tuple #[.agg #[.slice a3 r.xs.length c3, .string ⟨#[]⟩], .int .i64 0])) w5 := by
        refine ⟨d2.idle, ⟨hm5, (((Hwch.out.trans Hn.out.chg).new Hc3.out).comp hcw fun g hg => ?_).comp hch5 fun g hg => ?_, fun g hg => ?_, fun g hg => ?_, Hn.out.comp, rfl⟩, ?_, ?_⟩
        · right; omega
        · exact (Hn.out.muts g hg).imp id fun h => by have := Hasz.out; omega
        · exact (Hn.out.muts g hg).imp id fun h => by have := Hasz.out; omega
        · exact (Hn.out.imms g hg).imp id fun h => by have := Hasz.out; omega
        · rw [Hu.out]; rfl
        · rw [Hu.out]
          refine ⟨a3, c3, ?_, ?_⟩
          · show _ = Ending.returned (.tuple #[.agg #[.slice a3 (d2.pl.res (k1, k2, k3)).xs.length c3, _], _])
            rw [Dm.res_pl Hr.out]; rfl
          · show Inp.Ints w5 (.slice a3 (d2.pl.res (k1, k2, k3)).xs.length c3) (d2.pl.res (k1, k2, k3)).xs
            rw [Dm.res_pl Hr.out]
            refine intsKept' hi4 fun g hg => hch5.block g ?_ fun hm => ?_
            · rcases hi4 with ⟨e, _⟩ | ⟨g', off, cap, cc, fr, e, _, _, hh, _⟩
              · simp only [Value.slice.injEq] at e; rw [e.1] at hg; simp [oblk] at hg
              · simp only [Value.slice.injEq] at e; rw [e.1] at hg; simp [oblk] at hg; subst hg; exact lt_of_obj hh
            · have h1 := Hn.out.mem.lt g hm
              cases a3 with
              | none => simp [oblk] at hg
              | some ad => simp [oblk] at hg; subst hg; have := Hn3.out ad rfl; omega
      simp [Leaves, settle, results, Try.results34, go_sem, v0, v1, e0]
      exact hfin
end
end Go.Proofs.Ytdeodcomlakpaaa
