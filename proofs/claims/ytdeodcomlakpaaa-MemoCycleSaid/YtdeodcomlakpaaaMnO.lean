/- The database's New, Set, Get, Computations, ChangedAt. -/
import Derived.Test.YtdeodcomlakpaaaMnN
namespace Go.Proofs.Ytdeodcomlakpaaa
open Go.RowKit Go.ChangeMaps Go.MapKept
set_option linter.unusedVariables false
set_option linter.unusedSimpArgs false
/-- behind number t: an address, a copy, a part -/
theorem anyT_late {P : Program} {ops : Array Oper} {Q : Exit → Act → World → Prop} {md : Region.Mode} {S : World → Prop} {t i f : Nat} {oi : Oper} {v : Value} {listed : Array Bool} {a : Act} {w : World} (hi : ops[i]? = some oi) (hb : (Region.noSelect ops && Region.free md ops listed i && (Region.ready md ops listed).contains i && !decide (i = t) && listed.getD t true) = true)
    (hQ : ∀ c a w, Q (.panic c) (a.put oi.dst v) w → Q (.panic c) a w) (hy : YieldsIf P ops (fun _ => True) oi v a)
    (h : anyT P md ops Q S t f (listed.setIfInBounds i true) (a.put oi.dst v) w) : anyT P md ops Q S t (f + 1) listed a w := by
  simp only [Bool.and_eq_true, Bool.not_eq_true', decide_eq_false_iff_not] at hb
  obtain ⟨⟨⟨⟨h1, h2⟩, h3⟩, h6⟩, h7⟩ := hb
  exact anyT_first (S' := fun _ => True) hi (Region.noSelect_spec h1) hQ (fun _ _ => trivial) h6 (Or.inl fun _ => trivial) f listed a w (Region.free_spec hi h2) (by simpa using h3) hy trivial (fun h => by rw [h7] at h; cases h) (Or.inl fun _ => trivial) h
/-- a database without inputs and results -/
def PS.empty : PS := ⟨0, 0, 0, 0, [], [], [], 0, 0⟩
set_option maxRecDepth 100000 in
set_option maxHeartbeats 1000000 in
theorem memoNew_any (f : Nat) (caps : Array Value) (w : World) : Calls Try.prog 16 #[.func (.func f) #[] caps] w fun e w' => ∃ b d, e = .returned (.pointer (some ⟨b, 0, none⟩)) ∧ DmAt w' b d ∧ d.pl = PS.empty ∧ d.comp = .func (.func f) #[] caps ∧ d.stop = .nilFunc ∧ Chg [] w w' ∧ ∀ g ∈ d.muts b ++ d.imms, w.heap.size ≤ g := by
  have hmm := @run_makeMap Try.prog
  have heq := run_eql_func_nil (P := Try.prog) w _ _ _ _ (.func f) #[] caps Try.underlying33
  go_enter Try.func16, Try.ntmps16
  go_wp2_with fail
  refine (Inp.new_any _).mono ?_
  rintro e w1 ⟨rfl, hst, c1⟩
  go_wp2
  go_ret
  have hs1 := c1.size
  have hlt := hst.map.lt
  have hlb := lt_of_obj hst.blk
  have hs2 : (w1.alloc (.map #[] 0)).heap.size = w1.heap.size + 1 := by simp
  have m1 : MapAt Try.prog 27 Inp.qk (w1.alloc (.map #[] 0)) w1.heap.size [] := MapAt.made Try.prog 27 Inp.qk w1
  have m2 := MapAt.made Try.prog 27 Inp.qk (w1.alloc (.map #[] 0))
  rw [hs2] at m2
  obtain ⟨o, ho⟩ : ∃ o : Obj, o = .cells #[.func (.func f) #[] caps, .pointer (some ⟨w.heap.size + 1, 0, none⟩), .map (some w1.heap.size), .map (some (w1.heap.size + 1)), .nilFunc, .int .i64 0, .int .i64 0] 88 := ⟨_, rfl⟩
  rw [← ho]
  have hc3 := (((Chg.refl [] w1).alloc (.map #[] 0)).alloc (.map #[] 0)).alloc o
  refine ⟨w1.heap.size + 1 + 1, ⟨w.heap.size + 1, w.heap.size, w1.heap.size, w1.heap.size + 1, .func (.func f) #[] caps, .nilFunc, ⟨0, 0, 0, 0, []⟩, [], [], 0, 0⟩, rfl, ⟨?_, hst.same hc3, by simp, ?_, ?_, by simp, ?_, by simp [Dm.imms], by simp [Dm.imms]⟩, rfl, rfl, rfl, c1.trans hc3, ?_⟩
  · rw [ho]; exact heap_at _ _ _ (by simp)
  · exact (m1.kept ((Chg.refl [] _).alloc (.map #[] 0)) (by simp)).kept ((Chg.refl [] _).alloc o) (by simp)
  · exact m2.kept ((Chg.refl [] _).alloc o) (by simp)
  · simp only [Dm.muts, List.map_nil, List.nodup_cons, List.mem_cons, List.not_mem_nil, not_or, or_false, not_false_eq_true, List.nodup_nil, and_true]
    omega
  · intro g hg
    simp only [Dm.muts, Dm.imms, List.map_nil, List.flatMap_nil, List.append_nil, List.mem_cons, List.not_mem_nil, or_false] at hg
    omega
theorem computations_any (w : World) (b : Nat) (d : Dm) (h : DmAt w b d) : Calls Try.prog 21 #[.pointer (some ⟨b, 0, none⟩)] w fun e w' => e = .returned (.int .i64 d.cnt) ∧ w' = w := by
  have q0 : w.cell? ⟨b, 5, none⟩ = some (.int .i64 d.cnt) := cell_of_heap h.blk rfl
  clear h
  go_enter Try.func21, Try.ntmps21
  go_wp2
  go_ret
  exact ⟨rfl, rfl⟩
theorem DmAt.notInt {w : World} {b : Nat} {d : Dm} (h : DmAt w b d) : ∀ g ∈ d.muts b, NotE 3 w g := by
  intro g hg c fr hh
  unfold Dm.muts at hg
  simp only [List.mem_cons, List.mem_map] at hg
  rcases hg with rfl | rfl | rfl | rfl | rfl | ⟨p, hp, rfl⟩
  · exact absurd (h.blk.symm.trans hh) (by simp)
  · exact absurd (h.store.blk.symm.trans hh) (by simp)
  · obtain ⟨arr, clock, h1, _⟩ := h.store.map; exact absurd (h1.symm.trans hh) (by simp)
  · obtain ⟨arr, clock, h1, _⟩ := h.res; exact absurd (h1.symm.trans hh) (by simp)
  · obtain ⟨arr, clock, h1, _⟩ := h.act; exact absurd (h1.symm.trans hh) (by simp)
  · exact absurd ((h.each p hp).blk.symm.trans hh) (by simp)
/-- a value read before stays as it was -/
theorem After.ints {b : Nat} {w w' : World} {d d' : Dm} (h : After b w w' d d') (hm : DmAt w b d) {v : Value} {xs : List Int} (hi : Inp.Ints w v xs) : Inp.Ints w' v xs := hi.kept (ChgP.toL h.chg) hm.notInt
/-- the plain Set -/
def setP (s : PS) (k : QK) (xs : List Int) (du : Int) : PS :=
  if (s.inp k).du = du ∧ (s.inp k).xs = xs then s
  else { s with rev := s.rev + 1, l0 := s.rev + 1, l1 := if 1 ≤ max (s.inp k).du du then s.rev + 1 else s.l1, l2 := if 2 ≤ max (s.inp k).du du then s.rev + 1 else s.l2, cells := ups s.cells k ⟨xs, s.rev + 1, du⟩ }
theorem Inp.St.set_pl {d : Dm} {k : QK} {a : Option Addr} {cap : Nat} {xs : List Int} {du : Int} (h : ¬ ((d.pl.inp k).du = du ∧ (d.pl.inp k).xs = xs)) :
    ({ d with S := d.S.set k ⟨a, cap, xs, ⟨#[]⟩, d.S.rev + 1, du⟩ (max (d.S.at k).du du) } : Dm).pl = setP d.pl k xs du := by
  unfold setP
  rw [if_neg h, Dm.inp_pl]
  unfold Dm.pl Inp.St.set
  simp only
  rw [← ups_amap]
  rfl
theorem Inp.map_ups_imms {es : List (QK × Inp.CV)} {key : QK} {c : Inp.CV} {g : Nat} (h : g ∈ (ups es key c).flatMap (fun p => oblk p.2.a)) : g ∈ oblk c.a ∨ g ∈ es.flatMap (fun p => oblk p.2.a) := by
  obtain ⟨p, hp, hg⟩ := List.mem_flatMap.1 h
  rcases mem_ups hp with rfl | hp
  · exact Or.inl hg
  · exact Or.inr (List.mem_flatMap.2 ⟨p, hp, hg⟩)
/-- another store -/
theorem DmAt.setStore {w w' : World} {b : Nat} {d : Dm} {k : QK} {c : Inp.CV} {m : Int} (h : DmAt w b d) (hc : Chg [d.bs, d.bsm] w w') (hs : Inp.StoreIs w' d.bs d.bsm (d.S.set k c m)) (ht : c.tx = ⟨#[]⟩) (hn : ∀ ad, c.a = some ad → w.heap.size ≤ ad.block) :
    After b w w' d { d with S := d.S.set k c m } ∨ d.stop ≠ .nilFunc := by
  by_cases hst : d.stop = .nilFunc
  · left
    obtain ⟨p1, p2, p3, p4, p5, p6, p7, p8, p9, p10, p11, _⟩ := Dm.parts h.nodup
    have m1 : d.bs ∈ d.muts b := by simp [Dm.muts]
    have m2 : d.bsm ∈ d.muts b := by simp [Dm.muts]
    have blk : ∀ g, g < w.heap.size → g ≠ d.bs → g ≠ d.bsm → w'.heap[g]? = w.heap[g]? := fun g hg h1 h2 => hc.block g hg (by simp [h1, h2])
    have himm : ∀ g ∈ d.imms, w'.heap[g]? = w.heap[g]? := fun g hg => blk g (h.bound g hg) (fun e => h.apart g hg (e ▸ m1)) (fun e => h.apart g hg (e ▸ m2))
    have hims : ∀ g ∈ ({ d with S := d.S.set k c m } : Dm).imms, g ∈ oblk c.a ∨ g ∈ d.imms := fun g hg => by
      rcases List.mem_append.1 hg with hg | hg
      · exact (Inp.map_ups_imms hg).imp id fun h => List.mem_append_left _ h
      · exact Or.inr (List.mem_append_right _ hg)
    have hnew : ∀ g ∈ oblk c.a, w.heap.size ≤ g := fun g hg => by
      cases hca : c.a with
      | none => rw [hca] at hg; simp [oblk] at hg
      | some ad => rw [hca] at hg; simp [oblk] at hg; subst hg; exact hn ad hca
    have hlt : ∀ g ∈ oblk c.a, g < w'.heap.size := fun g hg => by
      have hcat := (hs.vals (k, c) (by
        have : aget (ups d.S.es k c) k = some c := by rw [aget_ups, if_pos rfl]
        exact aget_mem this)).1
      rcases hcat with ⟨e, _⟩ | ⟨g', off, cap, cc, fr, e, _, _, hh, _⟩
      · simp only [Value.slice.injEq] at e; rw [e.1] at hg; simp [oblk] at hg
      · simp only [Value.slice.injEq] at e; rw [e.1] at hg; simp [oblk] at hg; subst hg; exact lt_of_obj hh
    refine ⟨⟨(blk _ (lt_of_obj h.blk) p1 p2).trans h.blk, hs, fun p hp => ?_, h.res.of_block (blk _ h.res.lt (Ne.symm p6) (Ne.symm p8)), h.act.of_block (blk _ h.act.lt (Ne.symm p7) (Ne.symm p9)), fun p hp => (h.each p hp).kept (blk _ (h.lt _ (Dm.mut_mem (b := b) hp)) (p11 p hp).2.1 (p11 p hp).2.2.1) fun g hg => himm g (Dm.imm_mem (d := d) hp hg), h.nodup, fun g hg hm => ?_, fun g hg => ?_⟩, hc.toP.mono fun g hg => ?_, fun g hg => Or.inl hg, fun g hg => (hims g hg).elim (fun h => Or.inr (hnew g h)) Or.inl, rfl, hst⟩
    · rcases mem_ups hp with rfl | hp
      · exact ht
      · exact h.text p hp
    · rcases hims g hg with h1 | h1
      · have := h.lt g hm; have := hnew g h1; omega
      · exact h.apart g h1 hm
    · exact (hims g hg).elim (hlt g) fun h1 => Nat.lt_of_lt_of_le (h.bound g h1) hc.size
    · simp only [List.mem_cons, List.not_mem_nil, or_false] at hg
      rcases hg with rfl | rfl
      · exact m1
      · exact m2
  · exact Or.inr hst
section
variable {w0 : World} {RO : Nat → Prop} {b : Nat} {U : PS → QK → Except Int Unit × PS}
set_option maxRecDepth 100000 in
set_option maxHeartbeats 1000000 in
theorem get_any (key : QK) (hkey : key.1 ≠ 0)
    (w : World) (d : Dm) (h : Env w0 RO b w d) (hup : ∀ w' d', Env w0 RO b w' d' → d'.comp = d.comp → d'.stop = .nilFunc → d'.pl = d.pl → Calls Try.prog 68 #[.pointer (some ⟨b, 0, none⟩), i3v key] w' (UPost U chI b key w' d')) :
    Calls Try.prog 19 #[.pointer (some ⟨b, 0, none⟩), i3v key] w (GPost U b key w d) := by
  have Hcall := Lib.hid (fun w' (hw : Chg [] w w') => getUntil_any .nilFunc (Or.inl rfl) key hkey w' d (h.new hw) hup)
  have Hm := Lib.hid h.mem
  clear h hup
  obtain ⟨k1, k2, k3⟩ := key
  unfold i3v at Hcall ⊢
  go_enter Try.func19, Try.ntmps19
  go_wp2_with fail
  obtain ⟨wa, hwa⟩ : ∃ x, x = (w.alloc (.cells #[.int .i64 k1, .int .i64 k2, .int .i64 k3] 27)).alloc (.cells #[.slice none 0 0, .string ⟨#[]⟩] 31) := ⟨_, rfl⟩
  rw [← hwa]
  have hca : Chg [] w wa := by rw [hwa]; exact ((Chg.refl [] w).alloc _).alloc _
  have hz : wa.heap.size = w.heap.size + 2 := by rw [hwa]; simp
  have hvb : wa.heap[w.heap.size + 1]? = some (.cells #[.slice none 0 0, .string ⟨#[]⟩] 31 (0, 0)) := by rw [hwa]; exact heap_at _ _ _ (by simp)
  have Hz := Lib.hid hz
  clear hwa hz
  refine (Hcall.out wa hca).mono ?_
  rintro e w1 ⟨d', haf, hpl, hmatch⟩
  have hnm : w.heap.size + 1 ∉ d.muts b ∧ w.heap.size + 1 ∉ d.imms := ⟨fun hm => by have := Hm.out.lt _ hm; omega, fun hm => by have := Hm.out.bound _ hm; omega⟩
  have hv1 := (haf.chg.block _ (lt_of_obj hvb) hnm.1).trans hvb
  have nm' : w.heap.size + 1 ∉ d'.muts b := fun hm => (haf.muts _ hm).elim hnm.1 fun h => by have := Hz.out; omega
  have ni' : w.heap.size + 1 ∉ d'.imms := fun hm => (haf.imms _ hm).elim hnm.2 fun h => by have := Hz.out; omega
  have v0 := cell_of_heap hv1 (i := 0) rfl
  have v1 := cell_of_heap hv1 (i := 1) rfl
  have fv0 := frozen_of_heap hv1 (i := 0)
  have fv1 := frozen_of_heap hv1 (i := 1)
  have hfin : ∀ x y, After b w ((w1.setCell ⟨w.heap.size + 1, 0, none⟩ x).setCell ⟨w.heap.size + 1, 1, none⟩ y) d d' := fun x y => by
    have hcv : ChgP (fun g => g = w.heap.size + 1) w1 ((w1.setCell ⟨w.heap.size + 1, 0, none⟩ x).setCell ⟨w.heap.size + 1, 1, none⟩ y) := ((ChgP.refl (fun g => g = w.heap.size + 1) w1).setCell (p := ⟨w.heap.size + 1, 0, none⟩) (Or.inl rfl) _).setCell (p := ⟨w.heap.size + 1, 1, none⟩) (Or.inl rfl) _
    exact ⟨haf.mem.kept hcv (fun g hg e => nm' (e ▸ hg)) (fun g hg e => ni' (e ▸ hg)), ((hca.p (S := fun g => g ∈ d.muts b)).trans haf.chg).comp hcv fun g hg => Or.inr (by omega), fun g hg => (haf.muts g hg).imp id fun h => by have := Hz.out; omega, fun g hg => (haf.imms g hg).imp id fun h => by have := Hz.out; omega, haf.comp, haf.stop⟩
  have Hfin := Lib.hid hfin
  have Hpl := Lib.hid hpl
  have Hv1 := Lib.hid hv1
  have Hnew := Lib.hid (And.intro nm' ni')
  have hzz := haf.chg.size
  clear hfin hpl hv1 hnm nm' ni' haf hca hvb
  rcases hu : U d.pl (k1, k2, k3) with ⟨x | y, s'⟩
  · rw [hu] at hmatch
    simp only at hmatch
    subst hmatch
    have Hu := Lib.hid hu
    clear hu
    go_wp2
    refine bodyPost_ret (v := .tuple #[.agg #[.slice none 0 0, .string ⟨#[]⟩], .int .i64 x]) (by simp [results, Try.results19, go_sem, v0, v1]) rfl ⟨d', Hfin.out _ _, by rw [Hpl.out], ?_⟩
    rw [Hu.out]
  · rw [hu] at hmatch
    simp only at hmatch
    obtain ⟨a, c, rfl, hi⟩ := hmatch
    have Hu := Lib.hid hu
    have Hi := Lib.hid hi
    clear hu hi
    go_wp2
    refine bodyPost_ret (v := .tuple #[.agg #[.slice a (s'.res (k1, k2, k3)).xs.length c, .string ⟨#[]⟩], .int .i64 0]) (by simp [results, Try.results19, go_sem, v0, v1]) rfl ⟨d', Hfin.out _ _, by rw [Hpl.out], ?_⟩
    rw [Hu.out]
    refine ⟨a, c, rfl, ?_⟩
    refine Inp.Ints.kept Hi.out (((Chg.refl [w.heap.size + 1] w1).setCell (Or.inl (by simp)) _).setCell (Or.inl (by simp)) _) fun k hk => ?_
    obtain rfl : k = w.heap.size + 1 := by simpa using hk
    intro c' fr hh
    exact absurd (Hv1.out.symm.trans hh) (by simp)
/-- the database's Set -/
def StPost (b : Nat) (k : QK) (xs : List Int) (du : Int) (w : World) (d : Dm) (e : Ending) (w' : World) : Prop :=
  ∃ d', After b w w' d d' ∧ d'.pl = setP d.pl k xs du ∧ e = .returned (.int .i64 0)
theorem inSet (w : World) (d : Dm) (k : QK) (v : Value) (xs : List Int) (du : Int) (h : DmAt w b d) (hst : d.stop = .nilFunc) (hk : Inp.QKok k) (h0 : k.1 = 0) (hv : Inp.Ints w v xs) (hx : xs.length * 8 ≤ 140737488355328) (hdu : 0 ≤ du ∧ du < 3) (hdo : 0 ≤ (d.pl.inp k).du ∧ (d.pl.inp k).du < 3) (hrev : 0 ≤ d.pl.rev ∧ d.pl.rev < 4611686018427387904) :
    Calls Try.prog 59 #[.pointer (some ⟨d.bs, 0, none⟩), i3v k, .agg #[v, .string ⟨#[]⟩], .int .i64 du] w fun e w' => ∃ ch d', e = .returned (.tuple #[.bool ch, .int .i64 0]) ∧ After b w w' d d' ∧ d'.pl = setP d.pl k xs du := by
  have e1 : (d.pl.inp k).du = (d.S.at k).du := by rw [Dm.inp_pl]; rfl
  have e2 : (d.pl.inp k).xs = (d.S.at k).xs := by rw [Dm.inp_pl]; rfl
  by_cases hs : d.S.same k xs ⟨#[]⟩ du
  · refine (Inp.set_same d.bs d.bsm d.S k v xs ⟨#[]⟩ du w h.store hk h0 hv hdu hs).mono ?_
    rintro e w' ⟨rfl, _, hc⟩
    refine ⟨false, d, rfl, ⟨h.new hc, hc.p, fun _ h => Or.inl h, fun _ h => Or.inl h, rfl, hst⟩, ?_⟩
    unfold setP
    rw [if_pos (by rw [e1, e2]; exact ⟨hs.1, hs.2.2⟩)]
  · refine (Inp.set_new d.bs d.bsm d.S k v xs ⟨#[]⟩ du w h.store hk h0 hv hx hdu (by rw [← e1]; exact hdo) hrev hs).mono ?_
    rintro e w' ⟨a, cap, rfl, hst', hc, hn⟩
    have hne : ¬ ((d.pl.inp k).du = du ∧ (d.pl.inp k).xs = xs) := fun h' => hs ⟨by rw [← e1]; exact h'.1, h.tx k, by rw [← e2]; exact h'.2⟩
    exact ⟨true, _, rfl, (h.setStore hc hst' rfl hn).resolve_right (by rw [hst]; simp), Inp.St.set_pl hne⟩
set_option maxRecDepth 100000 in
set_option maxHeartbeats 2000000 in
theorem dbSet_any (w : World) (d : Dm) (k : QK) (v : Value) (xs : List Int) (du : Int) (h : DmAt w b d) (hst : d.stop = .nilFunc) (hk : Inp.QKok k) (h0 : k.1 = 0) (hv : Inp.Ints w v xs) (hx : xs.length * 8 ≤ 140737488355328) (hdu : 0 ≤ du ∧ du < 3) (hdo : 0 ≤ (d.pl.inp k).du ∧ (d.pl.inp k).du < 3) (hrev : 0 ≤ d.pl.rev ∧ d.pl.rev < 4611686018427387904) :
    Calls Try.prog 24 #[.pointer (some ⟨b, 0, none⟩), i3v k, .agg #[v, .string ⟨#[]⟩], .int .i64 du] w (StPost b k xs du w d) := by
  obtain ⟨k1, k2, k3⟩ := k
  obtain ⟨av, cv, rfl⟩ := hv.shape
  obtain ⟨wa, hwa⟩ : ∃ x, x = (w.alloc (.cells #[.int .i64 k1, .int .i64 k2, .int .i64 k3] 27)).alloc (.cells #[.slice av xs.length cv, .string ⟨#[]⟩] 31) := ⟨_, rfl⟩
  have hca : Chg [] w wa := by rw [hwa]; exact ((Chg.refl [] w).alloc _).alloc _
  have hb1 : wa.heap[w.heap.size]? = some (.cells #[.int .i64 k1, .int .i64 k2, .int .i64 k3] 27 (0, 0)) := by rw [hwa]; exact (heap_past _ _ _ (by simp)).trans (heap_at _ _ _ rfl)
  have hb2 : wa.heap[w.heap.size + 1]? = some (.cells #[.slice av xs.length cv, .string ⟨#[]⟩] 31 (0, 0)) := by rw [hwa]; exact heap_at _ _ _ (by simp)
  have q1 : wa.cell? ⟨b, 1, none⟩ = some (.pointer (some ⟨d.bs, 0, none⟩)) := cell_of_heap (h.new hca).blk rfl
  have hcall := fun w' (hc : Chg [] wa w') => inSet w' d (k1, k2, k3) _ xs du (h.new (hca.trans hc)) hst hk h0 (hv.same (hca.trans hc)) hx hdu hdo hrev
  have Hcall := Lib.hid hcall
  have Hca := Lib.hid hca
  have hpl := hb1
  clear hcall h hst hk h0 hv hx hdu hdo hrev hca hpl
  unfold i3v at Hcall ⊢
  go_enter Try.func24, Try.ntmps24
  go_wp2_with fail
  rw [← hwa]
  clear hwa
  refine wp_region_T (fun w' => w'.cell? ⟨b, 1, none⟩ = some (.pointer (some ⟨d.bs, 0, none⟩)) ∧ w'.cell? ⟨w.heap.size, 0, none⟩ = some (.int .i64 k1) ∧ w'.cell? ⟨w.heap.size, 1, none⟩ = some (.int .i64 k2) ∧ w'.cell? ⟨w.heap.size, 2, none⟩ = some (.int .i64 k3) ∧ w'.cell? ⟨w.heap.size + 1, 0, none⟩ = some (.slice av xs.length cv) ∧ w'.cell? ⟨w.heap.size + 1, 1, none⟩ = some (.string ⟨#[]⟩)) 7 (by kernel_rfl) ?_
  intro wd hwd
  have hcd : Chg [] wa wd := by rw [hwd]; exact (Chg.refl _ _).drew
  have hSW : wd.cell? ⟨b, 1, none⟩ = some (.pointer (some ⟨d.bs, 0, none⟩)) ∧ wd.cell? ⟨w.heap.size, 0, none⟩ = some (.int .i64 k1) ∧ wd.cell? ⟨w.heap.size, 1, none⟩ = some (.int .i64 k2) ∧ wd.cell? ⟨w.heap.size, 2, none⟩ = some (.int .i64 k3) ∧ wd.cell? ⟨w.heap.size + 1, 0, none⟩ = some (.slice av xs.length cv) ∧ wd.cell? ⟨w.heap.size + 1, 1, none⟩ = some (.string ⟨#[]⟩) :=
    ⟨(hcd.cell (lt_of_cell q1) (by simp)).trans q1, cell_of_heap ((hcd.block _ (lt_of_obj hb1) (by simp)).trans hb1) rfl, cell_of_heap ((hcd.block _ (lt_of_obj hb1) (by simp)).trans hb1) rfl, cell_of_heap ((hcd.block _ (lt_of_obj hb1) (by simp)).trans hb1) rfl, cell_of_heap ((hcd.block _ (lt_of_obj hb2) (by simp)).trans hb2) rfl, cell_of_heap ((hcd.block _ (lt_of_obj hb2) (by simp)).trans hb2) rfl⟩
  have Hcall := Lib.hid (Hcall.out wd hcd)
  have Hcd := Lib.hid (Hca.out.trans hcd)
  clear hwd hcd q1 hb1 hb2
  refine anyT_pure (i := 0) (v := .pointer (some ⟨b, 0, none⟩)) rfl (by kernel_rfl) (fun _ _ _ h => h) (Or.inl ⟨by rfl, fun w' hS => by go_simp⟩) hSW ?_
  simp only [Act.put, List.setIfInBounds_toArray, List.set_cons_zero, List.set_cons_succ]
  refine anyT_pure (i := 1) (v := .pointer (some ⟨b, 0, none⟩)) rfl (by kernel_rfl) (fun _ _ _ h => h) (Or.inl ⟨by rfl, fun w' hS => by go_simp⟩) hSW ?_
  simp only [Act.put, List.setIfInBounds_toArray, List.set_cons_zero, List.set_cons_succ]
  refine anyT_pure (i := 2) (v := .pointer (some ⟨b, 1, none⟩)) rfl (by kernel_rfl) (fun _ _ _ h => h) (Or.inl ⟨by rfl, fun w' hS => by go_simp⟩) hSW ?_
  simp only [Act.put, List.setIfInBounds_toArray, List.set_cons_zero, List.set_cons_succ]
  refine anyT_take (i := 3) (v := .pointer (some ⟨d.bs, 0, none⟩)) rfl (by kernel_rfl) (fun _ _ _ h => h) (Or.inl ⟨by rfl, fun w' hS => by go_simp⟩) hSW ?_
  simp only [Act.put, List.setIfInBounds_toArray, List.set_cons_zero, List.set_cons_succ]
  refine anyT_take (i := 4) (v := .agg #[.int .i64 k1, .int .i64 k2, .int .i64 k3]) rfl (by kernel_rfl) (fun _ _ _ h => h) (Or.inl ⟨by rfl, fun w' hS => by go_simp⟩) hSW ?_
  simp only [Act.put, List.setIfInBounds_toArray, List.set_cons_zero, List.set_cons_succ]
  refine anyT_take (i := 5) (v := .agg #[.slice av xs.length cv, .string ⟨#[]⟩]) rfl (by kernel_rfl) (fun _ _ _ h => h) (Or.inl ⟨by rfl, fun w' hS => by go_simp⟩) hSW ?_
  simp only [Act.put, List.setIfInBounds_toArray, List.set_cons_zero, List.set_cons_succ]
  refine anyT_pure (i := 6) (v := .int .i64 du) rfl (by kernel_rfl) (fun _ _ _ h => h) (Or.inl ⟨by rfl, fun w' hS => by go_simp⟩) hSW ?_
  simp only [Act.put, List.setIfInBounds_toArray, List.set_cons_zero, List.set_cons_succ]
  refine anyT_one (k := 7) (by kernel_rfl) rfl (fun K hK => ?_)
  go_simp
  refine Hcall.out.mono ?_
  rintro e w1 ⟨ch, d', rfl, haf, hpl⟩
  have Hfin := Lib.hid (show StPost b (k1, k2, k3) xs du w d (.returned (.int .i64 0)) w1 from ⟨d', ⟨haf.mem, (Hcd.out.p (S := fun g => g ∈ d.muts b)).trans haf.chg, fun g hg => (haf.muts g hg).imp id fun h => Nat.le_trans Hcd.out.size h, fun g hg => (haf.imms g hg).imp id fun h => Nat.le_trans Hcd.out.size h, haf.comp, haf.stop⟩, hpl, rfl⟩)
  clear haf hpl hSW
  refine hK _ _ (fun h => by simp at h) ?_
  clear hK K
  refine anyT_late (i := 8) (v := .tuple #[.bool ch, .int .i64 0]) rfl (by kernel_rfl) (fun _ _ _ h => h) (Or.inl ⟨by rfl, fun w' hS => by go_simp⟩) ?_
  simp only [Act.put, List.setIfInBounds_toArray, List.set_cons_zero, List.set_cons_succ]
  refine anyT_late (i := 9) (v := .bool ch) rfl (by kernel_rfl) (fun _ _ _ h => h) (Or.inl ⟨by rfl, fun w' hS => by go_simp⟩) ?_
  simp only [Act.put, List.setIfInBounds_toArray, List.set_cons_zero, List.set_cons_succ]
  refine anyT_late (i := 10) (v := .int .i64 0) rfl (by kernel_rfl) (fun _ _ _ h => h) (Or.inl ⟨by rfl, fun w' hS => by go_simp⟩) ?_
  simp only [Act.put, List.setIfInBounds_toArray, List.set_cons_zero, List.set_cons_succ]
  refine anyT_late (i := 11) (v := .bool ch) rfl (by kernel_rfl) (fun _ _ _ h => h) (Or.inl ⟨by rfl, fun w' hS => by go_simp⟩) ?_
  simp only [Act.put, List.setIfInBounds_toArray, List.set_cons_zero, List.set_cons_succ]
  refine anyT_late (i := 12) (v := .int .i64 0) rfl (by kernel_rfl) (fun _ _ _ h => h) (Or.inl ⟨by rfl, fun w' hS => by go_simp⟩) ?_
  simp only [Act.put, List.setIfInBounds_toArray, List.set_cons_zero, List.set_cons_succ]
  refine anyT_done (by kernel_rfl) ?_
  go_wp2_with fail
  go_ret
  exact Hfin.out
end
end Go.Proofs.Ytdeodcomlakpaaa
