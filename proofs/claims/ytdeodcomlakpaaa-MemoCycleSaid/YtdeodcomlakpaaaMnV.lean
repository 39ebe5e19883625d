/- The cycle's compute function: what it computes (plain). -/
import Derived.Test.YtdeodcomlakpaaaMnU
namespace Go.Proofs.Ytdeodcomlakpaaa
open Go.RowKit Go.ChangeMaps Go.MapKept
set_option linter.unusedVariables false
set_option linter.unusedSimpArgs false
/-- the next key of the cycle -/
def nextC (L : Int) (k : QK) : QK := (2, modI (k.2.1 + 1) L, 0)
def cycC (L : Int) (key : QK) (G : GS → QK → Except Int (List Int) × GS) (s : GS) : Except Int (List Int) × GS :=
  if key.1 = 2 then G s (nextC L key) else (.ok [key.2.1], s)
/-- the keys that the law asks for -/
def CycK (L : Int) (k : QK) : Prop := (k.1 = 2 ∧ 0 ≤ k.2.1 ∧ k.2.1 < L ∧ k.2.2 = 0) ∨ k = (3, 8, 0)
def UC (L : Int) : Nat → PS → QK → Except Int Unit × PS
  | 0 => fun s _ => (.ok (), s)
  | n + 1 => updP (UC L n) (cycC L) (fun _ => false)
/-- how many keys of the cycle are not under way -/
def freeC (L : Int) (s : PS) : Nat := ((List.range L.toNat).filter fun (i : Nat) => s.busy (2, (i : Int), 0) == 0).length
structure InvC (L : Int) (s : PS) : Prop where
  es : ∀ k r, aget s.es k = some r → k = (3, 8, 0) ∧ (0 ≤ r.dur ∧ r.dur ≤ 2) ∧ r.deps = []
  act : ∀ k v, aget s.act k = some v → v = 1
  rev : s.rev = 0
  l0 : s.l0 = 0
  l1 : s.l1 = 0
  l2 : s.l2 = 0
def KC (L : Int) (n : Nat) (s : PS) (k : QK) : Prop := CycK L k ∧ InvC L s ∧ freeC L s < n
theorem nextC_in {L : Int} (hL : 1 ≤ L) (k : QK) : CycK L (nextC L k) := by
  have := modI_bd (k.2.1 + 1) L hL
  exact Or.inl ⟨rfl, this.1, this.2, rfl⟩
theorem busy_beg (s : PS) (k k' : QK) : (begP s k).busy k' = if k = k' then 1 else s.busy k' := by
  unfold PS.busy begP
  simp only [aget_ups]
  split <;> rfl
theorem filter_lt {α : Type} {p q : α → Bool} : ∀ {l : List α}, (∀ x ∈ l, q x = true → p x = true) → (∃ x ∈ l, p x = true ∧ q x = false) → (l.filter q).length < (l.filter p).length := by
  intro l
  induction l with
  | nil => rintro _ ⟨x, hx, _⟩; simp at hx
  | cons a l ih =>
    intro h hx
    have hle : (l.filter q).length ≤ (l.filter p).length := by
      have h' : ∀ x ∈ l, q x = true → p x = true := fun x hx => h x (by simp [hx])
      clear ih hx h
      induction l with
      | nil => simp
      | cons b l ihl =>
        have hb := h' b (by simp)
        have := ihl fun x hx => h' x (by simp [hx])
        simp only [List.filter_cons]
        by_cases h1 : q b = true
        · simp [h1, hb h1]; exact this
        · by_cases h2 : p b = true <;> simp [h1, h2] <;> omega
    simp only [List.filter_cons]
    obtain ⟨x, hm, h1, h2⟩ := hx
    rcases List.mem_cons.1 hm with rfl | hm
    · simp [h1, h2]; omega
    · have hlt := ih (fun y hy => h y (by simp [hy])) ⟨x, hm, h1, h2⟩
      by_cases h3 : q a = true
      · simp [h3, h a (by simp) h3]; exact hlt
      · by_cases h4 : p a = true <;> simp [h3, h4] <;> omega
theorem free_beg {L : Int} {s : PS} {k : QK} (hk : k.1 = 2 ∧ 0 ≤ k.2.1 ∧ k.2.1 < L ∧ k.2.2 = 0) (h0 : s.busy k = 0) : freeC L (begP s k) < freeC L s := by
  obtain ⟨a, b, c⟩ := k
  obtain ⟨h1, h2, h3, h4⟩ := hk
  simp only at h1 h2 h3 h4
  subst h1 h4
  unfold freeC
  refine filter_lt (fun i _ hi => ?_) ⟨b.toNat, by simp; omega, ?_, ?_⟩
  · rw [busy_beg] at hi
    split at hi
    · simp at hi
    · exact hi
  · rw [Int.toNat_of_nonneg h2]; simpa using h0
  · rw [busy_beg, Int.toNat_of_nonneg h2, if_pos rfl]; rfl
theorem invC_beg {L : Int} {s : PS} (h : InvC L s) (k : QK) : InvC L (begP s k) :=
  ⟨h.es, fun k' v hv => by
    unfold begP at hv
    simp only [aget_ups] at hv
    split at hv
    · cases hv; rfl
    · exact h.act k' v hv, h.rev, h.l0, h.l1, h.l2⟩
/-- a key of the cycle is always an error: the next one is under way in the end -/
theorem cyc_err {L : Int} (hL : 1 ≤ L) : ∀ n s (k : QK), InvC L s → (k.1 = 2 ∧ 0 ≤ k.2.1 ∧ k.2.1 < L ∧ k.2.2 = 0) → freeC L s < n → ∃ s', UC L n s k = (.error 8, s') ∧ InvC L s' ∧ s'.es = s.es ∧ s'.cnt = s.cnt ∧ (∀ k, s.busy k ≠ 0 → s'.busy k ≠ 0) := by
  intro n
  induction n with
  | zero => intro s k _ _ h; omega
  | succ n ih =>
    intro s k hi hk hf
    show ∃ s', updP (UC L n) (cycC L) (fun _ => false) s k = (.error 8, s') ∧ _
    by_cases h0 : s.busy k = 0
    · have hn : aget s.es k = none := by
        cases he : aget s.es k with
        | none => rfl
        | some r => have := (hi.es k r he).1; rw [this] at hk; exact absurd hk.1 (by decide)
      rw [updP_none h0 hn]
      have hlt := free_beg hk h0
      have hnx := nextC_in hL k
      rcases hnx with hnx | hnx
      · obtain ⟨s', h1, h2, h3, h4, h5⟩ := ih (begP s k) (nextC L k) (invC_beg hi k) hnx (by omega)
        refine ⟨s', ?_, h2, h3, h4, fun k' hk' => h5 k' (by rw [busy_beg]; split <;> simp_all)⟩
        unfold recompP
        rw [if_neg (by simp)]
        have hc : cycC L k (getP (UC L n)) (begP s k, [], 2) = (.error 8, (s', [], 2)) := by
          unfold cycC getP
          rw [if_pos hk.1, if_neg (by unfold nextC; simp), h1]
        rw [hc]
        rfl
      · exact absurd (congrArg Prod.fst hnx) (by unfold nextC; simp)
    · rw [updP_busy h0]
      exact ⟨s, rfl, hi, rfl, rfl, fun _ h => h⟩
theorem free_le {L : Int} (hL : L ≤ 9) (s : PS) : freeC L s < 10 := by
  have h : freeC L s ≤ (List.range L.toNat).length := List.length_filter_le _ _
  rw [List.length_range] at h
  omega
/-- the number 8 -/
theorem cyc_num {L : Int} (n : Nat) (s : PS) (hi : InvC L s) (h0 : s.busy (3, 8, 0) = 0) (hes : aget s.es (3, 8, 0) = none) : ∃ s', UC L (n + 1) s (3, 8, 0) = (.ok (), s') ∧ InvC L s' ∧ (s'.res (3, 8, 0)).xs = [8] ∧ s'.cnt = wrap64 (s.cnt + 1) ∧ ∀ k, k ≠ (3, 8, 0) → s'.busy k = s.busy k := by
  show ∃ s', updP (UC L n) (cycC L) (fun _ => false) s (3, 8, 0) = (.ok (), s') ∧ _
  rw [updP_none h0 hes]
  have hr : recompP (UC L n) (cycC L) (fun _ => false) (begP s (3, 8, 0)) (3, 8, 0) = (.ok (), { begP s (3, 8, 0) with es := ups (begP s (3, 8, 0)).es (3, 8, 0) (newRes (begP s (3, 8, 0)) (3, 8, 0) (begP s (3, 8, 0)).rev [8] [] 2), cnt := wrap64 ((begP s (3, 8, 0)).cnt + 1) }) := by
    unfold recompP
    rw [if_neg (by simp)]
    have hc : cycC L (3, 8, 0) (getP (UC L n)) (begP s (3, 8, 0), [], 2) = (.ok [8], (begP s (3, 8, 0), [], 2)) := by
      unfold cycC
      rw [if_neg (by decide)]
    rw [hc]
  rw [hr]
  refine ⟨_, rfl, ?_, ?_, rfl, ?_⟩
  · refine ⟨fun k r hr => ?_, fun k v hv => ?_, hi.rev, hi.l0, hi.l1, hi.l2⟩
    · unfold finP PS.res at hr
      simp only [aget_ups, if_pos, Option.getD_some] at hr
      split at hr
      · rename_i e
        cases hr
        exact ⟨e.symm, ⟨by unfold newRes; simp, by unfold newRes; simp⟩, rfl⟩
      · exact hi.es k r hr
    · unfold finP begP at hv
      simp only [aget_adel, aget_ups] at hv
      split at hv
      · cases hv
      · exact hi.act k v hv
  · unfold finP PS.res
    simp only [aget_ups, if_pos, Option.getD_some]
    rfl
  · intro k hk
    unfold finP PS.busy begP
    simp only [aget_adel, aget_ups]
    rw [if_neg (Ne.symm hk), if_neg (Ne.symm hk)]
/-! ### the compute function -/
theorem enterCyc (args : Array Value) (w : World) : (callFunc 17 args).run Try.prog w = .ok (.enter 17 args) w := by go_simp
set_option maxRecDepth 100000 in
set_option maxHeartbeats 4000000 in
theorem cycle_any {ch : Int → List PanicEntry} {L : Int} {RO' : Nat → Prop} {bl : Nat} {fn : Nat} {gcaps : Array Value} {I : (Nat → Prop) → GS → World → Prop} {G : GS → QK → Except Int (List Int) × GS} {F : Nat → Prop} {s : GS} {w : World} {key : QK}
    (hL : 1 ≤ L ∧ L ≤ 9) (hk : CycK L key) (hbl : w.heap[bl]? = some (.cells #[.int .i64 L] 3 (0, 0))) (hro : RO' bl) (fam : VFam fn gcaps I RO' G ch (fun k => key.1 = 2 ∧ k = nextC L key)) (hI : I F s w) :
    Calls Try.prog 17 (#[i3v key, .func (.func fn) #[] gcaps] ++ #[.pointer (some ⟨bl, 0, none⟩)]) w (CPost I RO' ch F (cycC L key G s) w) := by
  obtain ⟨k1, k2, k3⟩ := key
  obtain ⟨wa, hwa⟩ : ∃ x, x = (w.alloc (.cells #[.int .i64 k1, .int .i64 k2, .int .i64 k3] 27)).alloc (.cells #[.slice none 0 0, .string ⟨#[]⟩] 31) := ⟨_, rfl⟩
  have hca : Chg [] w wa := by rw [hwa]; exact ((Chg.refl [] w).alloc _).alloc _
  have hsa : wa.heap.size = w.heap.size + 2 := by rw [hwa]; simp
  have hrb : wa.heap[w.heap.size + 1]? = some (.cells #[.slice none 0 0, .string ⟨#[]⟩] 31 (0, 0)) := by
    rw [hwa]
    exact heap_at _ _ _ (by simp)
  have lb := lt_of_obj hbl
  have lb1 : bl < w.heap.size + 1 := by omega
  have qw : w.cell? ⟨bl, 0, none⟩ = some (.int .i64 L) := cell_of_heap hbl rfl
  have hnr : ¬ RO' (w.heap.size + 1) := fun h => by have := fam.ro hI _ h; omega
  have hIa := fam.keep hI (hca.p (S := fun g => F g ∧ ¬ RO' g))
  have hI2 : I (fun g => F g ∨ g = w.heap.size + 1) s wa := fam.anti hIa fun g hg => by
    rcases hg with hg | rfl
    · exact Or.inl hg
    · exact Or.inr ⟨by omega, by omega⟩
  have henter := fam.enter
  have Hnr := Lib.hid hnr
  have Hca := Lib.hid hca
  have Fam := Lib.hid fam
  have HI := Lib.hid hI
  have HI2 := Lib.hid hI2
  have Hrb := Lib.hid hrb
  have Hsa := Lib.hid hsa
  have hLb : 1 ≤ L ∧ L ≤ 9 := hL
  obtain ⟨hL1, hL9⟩ := hLb
  clear hL hbl hro fam hI hIa hI2 hca hrb hnr hsa
  unfold i3v
  by_cases h2 : k1 = 2
  · subst h2
    obtain ⟨h2a, h2b, h2c⟩ : 0 ≤ k2 ∧ k2 < L ∧ k3 = 0 := by
      rcases hk with ⟨_, h⟩ | h
      · exact h
      · exact absurd (congrArg Prod.fst h) (by simp)
    subst h2c
    have Hcall := Lib.hid (Fam.out.call _ s wa (nextC L (2, k2, 0)) ⟨rfl, rfl⟩ HI2.out)
    unfold nextC i3v at Hcall
    simp only at Hcall
    have Hcyc := Lib.hid (show cycC L (2, k2, 0) G s = G s (nextC L (2, k2, 0)) by unfold cycC; rw [if_pos rfl])
    have hw1 : k2 + 1 ≤ 9223372036854775807 := by omega
    have hw2 : -9223372036854775808 ≤ k2 + 1 := by omega
    clear hk
    go_enter Try.func17, Try.ntmps17
    go_wp2_with fail
    refine (mod_any (k2 + 1) L _ hL1 (by omega)).mono ?_
    rintro e w' ⟨rfl, hw'⟩
    obtain rfl : w' = wa := by rw [hwa]; exact hw'.symm
    clear hw' hwa
    go_wp2_with fail
    refine Hcall.out.mono ?_
    intro e w3 hpost
    rcases hg : G s (2, modI (k2 + 1) L, 0) with ⟨x | xs, s'⟩
    · obtain ⟨rfl, hI3, hc3⟩ := hpost.err hg
      refine ⟨rfl, ?_⟩
      unfold CPost
      rw [Hcyc.out]
      unfold nextC
      rw [hg]
      exact ⟨rfl, Fam.out.anti hI3 fun k h => Or.inl h, (Hca.out.p (S := fun k => ¬ F k ∧ ¬ RO' k)).comp hc3 fun k hk => Or.inl ⟨fun h => hk.1 (Or.inl h), hk.2⟩⟩
    obtain ⟨a, c, rfl, hi3, hlen, hI3, hc3⟩ := hpost.ok hg
    have hrb3 := (hc3.block _ (lt_of_obj Hrb.out) (fun h => h.1 (Or.inr rfl))).trans Hrb.out
    have Hints := Lib.hid hi3
    have HI3 := Lib.hid hI3
    have Hc3 := Lib.hid hc3
    have Hlen := Lib.hid hlen
    have Hg := Lib.hid (Hcyc.out.trans (by unfold nextC; exact hg))
    have Hrb3 := Lib.hid hrb3
    have c0 : w3.cell? ⟨w.heap.size + 1, 0, none⟩ = some (.slice none 0 0) := cell_of_heap hrb3 (i := 0) rfl
    have c1 : w3.cell? ⟨w.heap.size + 1, 1, none⟩ = some (.string ⟨#[]⟩) := cell_of_heap hrb3 (i := 1) rfl
    have f0 : w3.frozen? ⟨w.heap.size + 1, 0, none⟩ = false := frozen_of_heap (i := 0) hrb3
    have f1 : w3.frozen? ⟨w.heap.size + 1, 1, none⟩ = false := frozen_of_heap (i := 1) hrb3
    have lr : w.heap.size + 1 < w3.heap.size := lt_of_obj hrb3
    clear hrb3
    clear hpost hg hi3 hI3 hc3 hlen Hcall
    go_wp2_with fail
    obtain ⟨w4, hw4⟩ : ∃ x, x = (w3.setCell ⟨w.heap.size + 1, 0, none⟩ (.slice a xs.length c)).setCell ⟨w.heap.size + 1, 1, none⟩ (.string ⟨#[]⟩) := ⟨_, rfl⟩
    have hch : ChgP (fun k => k = w.heap.size + 1) w3 w4 := by
      rw [hw4]
      exact ((ChgP.refl (fun k => k = w.heap.size + 1) w3).setCell (p := ⟨w.heap.size + 1, 0, none⟩) (Or.inl rfl) _).setCell (p := ⟨w.heap.size + 1, 1, none⟩) (Or.inl rfl) _
    have hres : w4.heap[w.heap.size + 1]? = some (.cells #[.slice a xs.length c, .string ⟨#[]⟩] 31 (0, 0)) := by
      rw [hw4]
      exact (heap_setCell_same (heap_setCell_same Hrb3.out _) _).trans rfl
    rw [← hw4]
    have d0 : w4.cell? ⟨w.heap.size + 1, 0, none⟩ = some (.slice a xs.length c) := cell_of_heap hres (i := 0) rfl
    have d1 : w4.cell? ⟨w.heap.size + 1, 1, none⟩ = some (.string ⟨#[]⟩) := cell_of_heap hres (i := 1) rfl
    have Hch := Lib.hid hch
    clear hw4 hch hres c0 c1 f0 f1
    refine bodyPost_ret (v := .agg #[.slice a xs.length c, .string ⟨#[]⟩]) (by simp [results, Try.results17, go_sem, d0, d1]) rfl ?_
    have hints : Inp.Ints w4 (.slice a xs.length c) xs := Inp.Ints.kept Hints.out (ChgP.toL (Hch.out.mono fun g (hg : g = w.heap.size + 1) => (by simpa using hg : g ∈ [w.heap.size + 1]))) fun k hk => by
      obtain rfl : k = w.heap.size + 1 := by simpa using hk
      intro c' fr hh
      exact absurd (Hrb3.out.symm.trans hh) (by simp)
    unfold CPost
    rw [Hg.out]
    refine ⟨⟨_, _, rfl, hints, Hlen.out⟩, ?_, ?_⟩
    · exact Fam.out.anti (Fam.out.keep HI3.out (Hch.out.mono (T := fun k => (F k ∨ k = w.heap.size + 1) ∧ ¬ RO' k) fun k hk => ⟨Or.inr hk, hk ▸ Hnr.out⟩)) fun k hk => Or.inl (Or.inl hk)
    · exact (((Hca.out.p (S := fun k => ¬ F k ∧ ¬ RO' k)).comp Hc3.out fun k hk => Or.inl ⟨fun h => hk.1 (Or.inl h), hk.2⟩)).comp Hch.out fun k hk => Or.inr (by omega)
  · have h8 : (k1, k2, k3) = (3, 8, 0) := hk.resolve_left fun h => h2 h.1
    simp only [Prod.mk.injEq] at h8
    obtain ⟨rfl, rfl, rfl⟩ := h8
    have Hcyc := Lib.hid (show cycC L (3, 8, 0) G s = (.ok [8], s) by unfold cycC; rw [if_neg (by decide)])
    clear hk
    go_enter Try.func17, Try.ntmps17
    go_wp2_with fail
    rw [← hwa]
    clear hwa
    refine (number_any 8 _).mono ?_
    rintro e w3 ⟨a, c, rfl, hi3, hc3⟩
    have hrb3 := (hc3.block _ (lt_of_obj Hrb.out) (by simp)).trans Hrb.out
    have Hints := Lib.hid hi3
    have Hc3 := Lib.hid hc3
    have Hrb3 := Lib.hid hrb3
    have c0 : w3.cell? ⟨w.heap.size + 1, 0, none⟩ = some (.slice none 0 0) := cell_of_heap hrb3 (i := 0) rfl
    have c1 : w3.cell? ⟨w.heap.size + 1, 1, none⟩ = some (.string ⟨#[]⟩) := cell_of_heap hrb3 (i := 1) rfl
    have f0 : w3.frozen? ⟨w.heap.size + 1, 0, none⟩ = false := frozen_of_heap (i := 0) hrb3
    have f1 : w3.frozen? ⟨w.heap.size + 1, 1, none⟩ = false := frozen_of_heap (i := 1) hrb3
    have lr : w.heap.size + 1 < w3.heap.size := lt_of_obj hrb3
    clear hrb3
    clear hi3 hc3
    go_wp2_with fail
    obtain ⟨w4, hw4⟩ : ∃ x, x = (w3.setCell ⟨w.heap.size + 1, 0, none⟩ (.slice a 1 c)).setCell ⟨w.heap.size + 1, 1, none⟩ (.string ⟨#[]⟩) := ⟨_, rfl⟩
    have hch : ChgP (fun k => k = w.heap.size + 1) w3 w4 := by
      rw [hw4]
      exact ((ChgP.refl (fun k => k = w.heap.size + 1) w3).setCell (p := ⟨w.heap.size + 1, 0, none⟩) (Or.inl rfl) _).setCell (p := ⟨w.heap.size + 1, 1, none⟩) (Or.inl rfl) _
    have hres : w4.heap[w.heap.size + 1]? = some (.cells #[.slice a 1 c, .string ⟨#[]⟩] 31 (0, 0)) := by
      rw [hw4]
      exact (heap_setCell_same (heap_setCell_same Hrb3.out _) _).trans rfl
    rw [← hw4]
    have d0 : w4.cell? ⟨w.heap.size + 1, 0, none⟩ = some (.slice a 1 c) := cell_of_heap hres (i := 0) rfl
    have d1 : w4.cell? ⟨w.heap.size + 1, 1, none⟩ = some (.string ⟨#[]⟩) := cell_of_heap hres (i := 1) rfl
    have Hch := Lib.hid hch
    clear hw4 hch hres c0 c1 f0 f1
    refine bodyPost_ret (v := .agg #[.slice a 1 c, .string ⟨#[]⟩]) (by simp [results, Try.results17, go_sem, d0, d1]) rfl ?_
    have hints : Inp.Ints w4 (.slice a 1 c) [8] := Inp.Ints.kept Hints.out (ChgP.toL (Hch.out.mono fun g (hg : g = w.heap.size + 1) => (by simpa using hg : g ∈ [w.heap.size + 1]))) fun k hk => by
      obtain rfl : k = w.heap.size + 1 := by simpa using hk
      intro c' fr hh
      exact absurd (Hrb3.out.symm.trans hh) (by simp)
    unfold CPost
    rw [Hcyc.out]
    refine ⟨⟨_, _, rfl, hints, by simp⟩, ?_, ?_⟩
    · exact Fam.out.anti (Fam.out.keep HI2.out ((Hc3.out.p (S := fun k => (F k ∨ k = w.heap.size + 1) ∧ ¬ RO' k)).trans (Hch.out.mono fun k hk => ⟨Or.inr hk, hk ▸ Hnr.out⟩))) fun k hk => Or.inl (Or.inl hk)
    · exact ((Hca.out.trans Hc3.out).p (S := fun k => ¬ F k ∧ ¬ RO' k)).comp Hch.out fun k hk => Or.inr (by omega)
end Go.Proofs.Ytdeodcomlakpaaa
