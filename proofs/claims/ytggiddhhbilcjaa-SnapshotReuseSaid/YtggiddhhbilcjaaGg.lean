/- The database's New, Set, Get, Computations, ChangedAt. -/
import Derived.Test.YtggiddhhbilcjaaGf
/- The database's New, Set, Get, Computations, ChangedAt. -/
namespace Go.Proofs.Ytggiddhhbilcjaa
open Go.RowKit Go.ChangeMaps Go.MapKept
set_option linter.unusedVariables false
set_option linter.unusedSimpArgs false
/-- behind number t: an address, a copy, a part -/
theorem anyT_late {P : Program} {ops : Array Oper} {Q : Exit → Act → World → Prop} {md : Region.Mode} {S : World → Prop} {t i f : Nat} {oi : Oper} {v : Value} {listed : Array Bool} {a : Act} {w : World} (hi : ops[i]? = some oi) (hb : (Region.noSelect ops && Region.free md ops listed i && (Region.ready md ops listed).contains i && !decide (i = t) && listed.getD t true) = true)
    (hQ : ∀ c a w, Q (.panic c) (a.put oi.dst v) w → Q (.panic c) a w) (hy : YieldsIf P ops (fun _ => True) oi v a)
    (h : anyT P md ops Q S t f (listed.setIfInBounds i true) (a.put oi.dst v) w) : anyT P md ops Q S t (f + 1) listed a w := by
  simp only [Bool.and_eq_true, Bool.not_eq_true', decide_eq_false_iff_not] at hb
  obtain ⟨⟨⟨⟨h1, h2⟩, h3⟩, h6⟩, h7⟩ := hb
  exact anyT_first (S' := fun _ => True) hi (Region.noSelect_spec h1) hQ (fun _ _ => trivial) h6 (Or.inl fun _ => trivial) f listed a w (Region.free_spec hi h2) (by simpa using h3) hy trivial (fun h => by rw [h7] at h; cases h) (Or.inl fun _ => trivial) h
/-- a database without inputs and results -/
def PS.empty : PS := ⟨0, 0, 0, 0, [], [], [], 0, 0⟩
set_option maxRecDepth 100000 in
set_option maxHeartbeats 1000000 in
theorem memoNew_any (f : Nat) (caps : Array Value) (w : World) : Calls Try.prog 21 #[.func (.func f) #[] caps] w fun e w' => ∃ b d, e = .returned (.pointer (some ⟨b, 0, none⟩)) ∧ DmAt w' b d ∧ d.pl = PS.empty ∧ d.comp = .func (.func f) #[] caps ∧ d.stop = .nilFunc ∧ Chg [] w w' ∧ ∀ g ∈ d.muts b ++ d.imms, w.heap.size ≤ g := by
  have hmm := @run_makeMap Try.prog
  have heq := run_eql_func_nil (P := Try.prog) w _ _ _ _ (.func f) #[] caps Try.underlying62
  go_enter Try.func21, Try.ntmps21
  go_wp2_with fail
  refine (Inp.new_any _).mono ?_
  rintro e w1 ⟨rfl, hst, c1⟩
  go_wp2
  go_ret
  have hs1 := c1.size
  have hlt := hst.map.lt
  have hlb := lt_of_obj hst.blk
  have hs2 : (w1.alloc (.map #[] 0)).heap.size = w1.heap.size + 1 := by simp
  have m1 : MapAt Try.prog 43 Inp.qk (w1.alloc (.map #[] 0)) w1.heap.size [] := MapAt.made Try.prog 43 Inp.qk w1
  have m2 := MapAt.made Try.prog 43 Inp.qk (w1.alloc (.map #[] 0))
  rw [hs2] at m2
  obtain ⟨o, ho⟩ : ∃ o : Obj, o = .cells #[.func (.func f) #[] caps, .pointer (some ⟨w.heap.size + 1, 0, none⟩), .map (some w1.heap.size), .map (some (w1.heap.size + 1)), .nilFunc, .int .i64 0, .int .i64 0] 115 := ⟨_, rfl⟩
  rw [← ho]
  have hc3 := (((Chg.refl [] w1).alloc (.map #[] 0)).alloc (.map #[] 0)).alloc o
  refine ⟨w1.heap.size + 1 + 1, ⟨w.heap.size + 1, w.heap.size, w1.heap.size, w1.heap.size + 1, .func (.func f) #[] caps, .nilFunc, ⟨0, 0, 0, 0, []⟩, [], [], 0, 0⟩, rfl, ⟨?_, hst.same hc3, by simp, ?_, ?_, by simp, ?_, by simp [Dm.imms], by simp [Dm.imms]⟩, rfl, rfl, rfl, c1.trans hc3, ?_⟩
  · rw [ho]; exact heap_at _ _ _ (by simp)
  · exact (m1.kept ((Chg.refl [] _).alloc (.map #[] 0)) (by simp)).kept ((Chg.refl [] _).alloc o) (by simp)
  · exact m2.kept ((Chg.refl [] _).alloc o) (by simp)
  · simp only [Dm.muts, List.map_nil, List.nodup_cons, List.mem_cons, List.not_mem_nil, not_or, or_false, not_false_eq_true, List.nodup_nil, and_true]
    omega
  · intro g hg
    simp only [Dm.muts, Dm.imms, List.map_nil, List.flatMap_nil, List.append_nil, List.mem_cons, List.not_mem_nil, or_false] at hg
    omega
theorem computations_any (w : World) (b : Nat) (d : Dm) (h : DmAt w b d) : Calls Try.prog 27 #[.pointer (some ⟨b, 0, none⟩)] w fun e w' => e = .returned (.int .i64 d.cnt) ∧ w' = w := by
  have q0 : w.cell? ⟨b, 5, none⟩ = some (.int .i64 d.cnt) := cell_of_heap h.blk rfl
  clear h
  go_enter Try.func27, Try.ntmps27
  go_wp2
  go_ret
  exact ⟨rfl, rfl⟩
theorem DmAt.notInt {w : World} {b : Nat} {d : Dm} (h : DmAt w b d) : ∀ g ∈ d.muts b, NotE 3 w g := by
  intro g hg c fr hh
  unfold Dm.muts at hg
  simp only [List.mem_cons, List.mem_map] at hg
  rcases hg with rfl | rfl | rfl | rfl | rfl | ⟨p, hp, rfl⟩
  · exact absurd (h.blk.symm.trans hh) (by simp)
  · exact absurd (h.store.blk.symm.trans hh) (by simp)
  · obtain ⟨arr, clock, h1, _⟩ := h.store.map; exact absurd (h1.symm.trans hh) (by simp)
  · obtain ⟨arr, clock, h1, _⟩ := h.res; exact absurd (h1.symm.trans hh) (by simp)
  · obtain ⟨arr, clock, h1, _⟩ := h.act; exact absurd (h1.symm.trans hh) (by simp)
  · exact absurd ((h.each p hp).blk.symm.trans hh) (by simp)
/-- a value read before stays as it was -/
theorem After.ints {b : Nat} {w w' : World} {d d' : Dm} (h : After b w w' d d') (hm : DmAt w b d) {v : Value} {xs : List Int} (hi : Inp.Ints w v xs) : Inp.Ints w' v xs := hi.kept (ChgP.toL h.chg) hm.notInt
/-- the plain Set -/
def setP (s : PS) (k : QK) (xs : List Int) (du : Int) : PS :=
  if (s.inp k).du = du ∧ (s.inp k).xs = xs then s
  else { s with rev := s.rev + 1, l0 := s.rev + 1, l1 := if 1 ≤ max (s.inp k).du du then s.rev + 1 else s.l1, l2 := if 2 ≤ max (s.inp k).du du then s.rev + 1 else s.l2, cells := ups s.cells k ⟨xs, s.rev + 1, du⟩ }
theorem Inp.St.set_pl {d : Dm} {k : QK} {a : Option Addr} {cap : Nat} {xs : List Int} {du : Int} (h : ¬ ((d.pl.inp k).du = du ∧ (d.pl.inp k).xs = xs)) :
    ({ d with S := d.S.set k ⟨a, cap, xs, ⟨#[]⟩, d.S.rev + 1, du⟩ (max (d.S.at k).du du) } : Dm).pl = setP d.pl k xs du := by
  unfold setP
  rw [if_neg h, Dm.inp_pl]
  unfold Dm.pl Inp.St.set
  simp only
  rw [← ups_amap]
  rfl
theorem Inp.map_ups_imms {es : List (QK × Inp.CV)} {key : QK} {c : Inp.CV} {g : Nat} (h : g ∈ (ups es key c).flatMap (fun p => oblk p.2.a)) : g ∈ oblk c.a ∨ g ∈ es.flatMap (fun p => oblk p.2.a) := by
  obtain ⟨p, hp, hg⟩ := List.mem_flatMap.1 h
  rcases mem_ups hp with rfl | hp
  · exact Or.inl hg
  · exact Or.inr (List.mem_flatMap.2 ⟨p, hp, hg⟩)
/-- another store -/
theorem DmAt.setStore {w w' : World} {b : Nat} {d : Dm} {k : QK} {c : Inp.CV} {m : Int} (h : DmAt w b d) (hc : Chg [d.bs, d.bsm] w w') (hs : Inp.StoreIs w' d.bs d.bsm (d.S.set k c m)) (ht : c.tx = ⟨#[]⟩) (hn : ∀ ad, c.a = some ad → w.heap.size ≤ ad.block) :
    After b w w' d { d with S := d.S.set k c m } ∨ d.stop ≠ .nilFunc := by
  by_cases hst : d.stop = .nilFunc
  · left
    obtain ⟨p1, p2, p3, p4, p5, p6, p7, p8, p9, p10, p11, _⟩ := Dm.parts h.nodup
    have m1 : d.bs ∈ d.muts b := by simp [Dm.muts]
    have m2 : d.bsm ∈ d.muts b := by simp [Dm.muts]
    have blk : ∀ g, g < w.heap.size → g ≠ d.bs → g ≠ d.bsm → w'.heap[g]? = w.heap[g]? := fun g hg h1 h2 => hc.block g hg (by simp [h1, h2])
    have himm : ∀ g ∈ d.imms, w'.heap[g]? = w.heap[g]? := fun g hg => blk g (h.bound g hg) (fun e => h.apart g hg (e ▸ m1)) (fun e => h.apart g hg (e ▸ m2))
    have hims : ∀ g ∈ ({ d with S := d.S.set k c m } : Dm).imms, g ∈ oblk c.a ∨ g ∈ d.imms := fun g hg => by
      rcases List.mem_append.1 hg with hg | hg
      · exact (Inp.map_ups_imms hg).imp id fun h => List.mem_append_left _ h
      · exact Or.inr (List.mem_append_right _ hg)
    have hnew : ∀ g ∈ oblk c.a, w.heap.size ≤ g := fun g hg => by
      cases hca : c.a with
      | none => rw [hca] at hg; simp [oblk] at hg
      | some ad => rw [hca] at hg; simp [oblk] at hg; subst hg; exact hn ad hca
    have hlt : ∀ g ∈ oblk c.a, g < w'.heap.size := fun g hg => by
      have hcat := (hs.vals (k, c) (by
        have : aget (ups d.S.es k c) k = some c := by rw [aget_ups, if_pos rfl]
        exact aget_mem this)).1
      rcases hcat with ⟨e, _⟩ | ⟨g', off, cap, cc, fr, e, _, _, hh, _⟩
      · simp only [Value.slice.injEq] at e; rw [e.1] at hg; simp [oblk] at hg
      · simp only [Value.slice.injEq] at e; rw [e.1] at hg; simp [oblk] at hg; subst hg; exact lt_of_obj hh
    refine ⟨⟨(blk _ (lt_of_obj h.blk) p1 p2).trans h.blk, hs, fun p hp => ?_, h.res.of_block (blk _ h.res.lt (Ne.symm p6) (Ne.symm p8)), h.act.of_block (blk _ h.act.lt (Ne.symm p7) (Ne.symm p9)), fun p hp => (h.each p hp).kept (blk _ (h.lt _ (Dm.mut_mem (b := b) hp)) (p11 p hp).2.1 (p11 p hp).2.2.1) fun g hg => himm g (Dm.imm_mem (d := d) hp hg), h.nodup, fun g hg hm => ?_, fun g hg => ?_⟩, hc.toP.mono fun g hg => ?_, fun g hg => Or.inl hg, fun g hg => (hims g hg).elim (fun h => Or.inr (hnew g h)) Or.inl, rfl, hst⟩
    · rcases mem_ups hp with rfl | hp
      · exact ht
      · exact h.text p hp
    · rcases hims g hg with h1 | h1
      · have := h.lt g hm; have := hnew g h1; omega
      · exact h.apart g h1 hm
    · exact (hims g hg).elim (hlt g) fun h1 => Nat.lt_of_lt_of_le (h.bound g h1) hc.size
    · simp only [List.mem_cons, List.not_mem_nil, or_false] at hg
      rcases hg with rfl | rfl
      · exact m1
      · exact m2
  · exact Or.inr hst
section
variable {w0 : World} {RO : Nat → Prop} {b : Nat} {U : PS → QK → Except Int Unit × PS}
set_option maxRecDepth 100000 in
set_option maxHeartbeats 1000000 in
theorem get_any (key : QK) (hkey : key.1 ≠ 0)
    (w : World) (d : Dm) (h : Env w0 RO b w d) (hup : ∀ w' d', Env w0 RO b w' d' → d'.comp = d.comp → d'.stop = .nilFunc → d'.pl = d.pl → Calls Try.prog 77 #[.pointer (some ⟨b, 0, none⟩), i3v key] w' (UPost U chI b key w' d')) :
    Calls Try.prog 25 #[.pointer (some ⟨b, 0, none⟩), i3v key] w (GPost U b key w d) := by
  have Hcall := Lib.hid (fun w' (hw : Chg [] w w') => getUntil_any .nilFunc (Or.inl rfl) key hkey w' d (h.new hw) hup)
  have Hm := Lib.hid h.mem
  clear h hup
  obtain ⟨k1, k2, k3⟩ := key
  unfold i3v at Hcall ⊢
  go_enter Try.func25, Try.ntmps25
  go_wp2_with fail
  obtain ⟨wa, hwa⟩ : ∃ x, x = (w.alloc (.cells #[.int .i64 k1, .int .i64 k2, .int .i64 k3] 43)).alloc (.cells #[.slice none 0 0, .string ⟨#[]⟩] 39) := ⟨_, rfl⟩
  rw [← hwa]
  have hca : Chg [] w wa := by rw [hwa]; exact ((Chg.refl [] w).alloc _).alloc _
  have hz : wa.heap.size = w.heap.size + 2 := by rw [hwa]; simp
  have hvb : wa.heap[w.heap.size + 1]? = some (.cells #[.slice none 0 0, .string ⟨#[]⟩] 39 (0, 0)) := by rw [hwa]; exact heap_at _ _ _ (by simp)
  have Hz := Lib.hid hz
  clear hwa hz
  refine (Hcall.out wa hca).mono ?_
  rintro e w1 ⟨d', haf, hpl, hmatch⟩
  have hnm : w.heap.size + 1 ∉ d.muts b ∧ w.heap.size + 1 ∉ d.imms := ⟨fun hm => by have := Hm.out.lt _ hm; omega, fun hm => by have := Hm.out.bound _ hm; omega⟩
  have hv1 := (haf.chg.block _ (lt_of_obj hvb) hnm.1).trans hvb
  have nm' : w.heap.size + 1 ∉ d'.muts b := fun hm => (haf.muts _ hm).elim hnm.1 fun h => by have := Hz.out; omega
  have ni' : w.heap.size + 1 ∉ d'.imms := fun hm => (haf.imms _ hm).elim hnm.2 fun h => by have := Hz.out; omega
  have v0 := cell_of_heap hv1 (i := 0) rfl
  have v1 := cell_of_heap hv1 (i := 1) rfl
  have fv0 := frozen_of_heap hv1 (i := 0)
  have fv1 := frozen_of_heap hv1 (i := 1)
  have hfin : ∀ x y, After b w ((w1.setCell ⟨w.heap.size + 1, 0, none⟩ x).setCell ⟨w.heap.size + 1, 1, none⟩ y) d d' := fun x y => by
    have hcv : ChgP (fun g => g = w.heap.size + 1) w1 ((w1.setCell ⟨w.heap.size + 1, 0, none⟩ x).setCell ⟨w.heap.size + 1, 1, none⟩ y) := ((ChgP.refl (fun g => g = w.heap.size + 1) w1).setCell (p := ⟨w.heap.size + 1, 0, none⟩) (Or.inl rfl) _).setCell (p := ⟨w.heap.size + 1, 1, none⟩) (Or.inl rfl) _
    exact ⟨haf.mem.kept hcv (fun g hg e => nm' (e ▸ hg)) (fun g hg e => ni' (e ▸ hg)), ((hca.p (S := fun g => g ∈ d.muts b)).trans haf.chg).comp hcv fun g hg => Or.inr (by omega), fun g hg => (haf.muts g hg).imp id fun h => by have := Hz.out; omega, fun g hg => (haf.imms g hg).imp id fun h => by have := Hz.out; omega, haf.comp, haf.stop⟩
  have Hfin := Lib.hid hfin
  have Hpl := Lib.hid hpl
  have Hv1 := Lib.hid hv1
  have Hnew := Lib.hid (And.intro nm' ni')
  have hzz := haf.chg.size
  clear hfin hpl hv1 hnm nm' ni' haf hca hvb
  rcases hu : U d.pl (k1, k2, k3) with ⟨x | y, s'⟩
  · rw [hu] at hmatch
    simp only at hmatch
    subst hmatch
    have Hu := Lib.hid hu
    clear hu
    go_wp2
    refine bodyPost_ret (v := .tuple #[.agg #[.slice none 0 0, .string ⟨#[]⟩], .int .i64 x]) (by simp [results, Try.results25, go_sem, v0, v1]) rfl ⟨d', Hfin.out _ _, by rw [Hpl.out], ?_⟩
    rw [Hu.out]
  · rw [hu] at hmatch
    simp only at hmatch
    obtain ⟨a, c, rfl, hi⟩ := hmatch
    have Hu := Lib.hid hu
    have Hi := Lib.hid hi
    clear hu hi
    go_wp2
    refine bodyPost_ret (v := .tuple #[.agg #[.slice a (s'.res (k1, k2, k3)).xs.length c, .string ⟨#[]⟩], .int .i64 0]) (by simp [results, Try.results25, go_sem, v0, v1]) rfl ⟨d', Hfin.out _ _, by rw [Hpl.out], ?_⟩
    rw [Hu.out]
    refine ⟨a, c, rfl, ?_⟩
    refine Inp.Ints.kept Hi.out (((Chg.refl [w.heap.size + 1] w1).setCell (Or.inl (by simp)) _).setCell (Or.inl (by simp)) _) fun k hk => ?_
    obtain rfl : k = w.heap.size + 1 := by simpa using hk
    intro c' fr hh
    exact absurd (Hv1.out.symm.trans hh) (by simp)
/-- the database's Set -/
def StPost (b : Nat) (k : QK) (xs : List Int) (du : Int) (w : World) (d : Dm) (e : Ending) (w' : World) : Prop :=
  ∃ d', After b w w' d d' ∧ d'.pl = setP d.pl k xs du ∧ e = .returned (.int .i64 0)
theorem inSet (w : World) (d : Dm) (k : QK) (v : Value) (xs : List Int) (du : Int) (h : DmAt w b d) (hst : d.stop = .nilFunc) (hk : Inp.QKok k) (h0 : k.1 = 0) (hv : Inp.Ints w v xs) (hx : xs.length * 8 ≤ 140737488355328) (hdu : 0 ≤ du ∧ du < 3) (hdo : 0 ≤ (d.pl.inp k).du ∧ (d.pl.inp k).du < 3) (hrev : 0 ≤ d.pl.rev ∧ d.pl.rev < 4611686018427387904) :
    Calls Try.prog 54 #[.pointer (some ⟨d.bs, 0, none⟩), i3v k, .agg #[v, .string ⟨#[]⟩], .int .i64 du] w fun e w' => ∃ ch d', e = .returned (.tuple #[.bool ch, .int .i64 0]) ∧ After b w w' d d' ∧ d'.pl = setP d.pl k xs du := by
  have e1 : (d.pl.inp k).du = (d.S.at k).du := by rw [Dm.inp_pl]; rfl
  have e2 : (d.pl.inp k).xs = (d.S.at k).xs := by rw [Dm.inp_pl]; rfl
  by_cases hs : d.S.same k xs ⟨#[]⟩ du
  · refine (Inp.set_same d.bs d.bsm d.S k v xs ⟨#[]⟩ du w h.store hk h0 hv hdu hs).mono ?_
    rintro e w' ⟨rfl, _, hc⟩
    refine ⟨false, d, rfl, ⟨h.new hc, hc.p, fun _ h => Or.inl h, fun _ h => Or.inl h, rfl, hst⟩, ?_⟩
    unfold setP
    rw [if_pos (by rw [e1, e2]; exact ⟨hs.1, hs.2.2⟩)]
  · refine (Inp.set_new d.bs d.bsm d.S k v xs ⟨#[]⟩ du w h.store hk h0 hv hx hdu (by rw [← e1]; exact hdo) hrev hs).mono ?_
    rintro e w' ⟨a, cap, rfl, hst', hc, hn⟩
    have hne : ¬ ((d.pl.inp k).du = du ∧ (d.pl.inp k).xs = xs) := fun h' => hs ⟨by rw [← e1]; exact h'.1, h.tx k, by rw [← e2]; exact h'.2⟩
    exact ⟨true, _, rfl, (h.setStore hc hst' rfl hn).resolve_right (by rw [hst]; simp), Inp.St.set_pl hne⟩
set_option maxRecDepth 100000 in
set_option maxHeartbeats 2000000 in
theorem dbSet_any (w : World) (d : Dm) (k : QK) (v : Value) (xs : List Int) (du : Int) (h : DmAt w b d) (hst : d.stop = .nilFunc) (hk : Inp.QKok k) (h0 : k.1 = 0) (hv : Inp.Ints w v xs) (hx : xs.length * 8 ≤ 140737488355328) (hdu : 0 ≤ du ∧ du < 3) (hdo : 0 ≤ (d.pl.inp k).du ∧ (d.pl.inp k).du < 3) (hrev : 0 ≤ d.pl.rev ∧ d.pl.rev < 4611686018427387904) :
    Calls Try.prog 24 #[.pointer (some ⟨b, 0, none⟩), i3v k, .agg #[v, .string ⟨#[]⟩], .int .i64 du] w (StPost b k xs du w d) := by
  obtain ⟨k1, k2, k3⟩ := k
  obtain ⟨av, cv, rfl⟩ := hv.shape
  obtain ⟨wa, hwa⟩ : ∃ x, x = (w.alloc (.cells #[.int .i64 k1, .int .i64 k2, .int .i64 k3] 43)).alloc (.cells #[.slice av xs.length cv, .string ⟨#[]⟩] 39) := ⟨_, rfl⟩
  have hca : Chg [] w wa := by rw [hwa]; exact ((Chg.refl [] w).alloc _).alloc _
  have hb1 : wa.heap[w.heap.size]? = some (.cells #[.int .i64 k1, .int .i64 k2, .int .i64 k3] 43 (0, 0)) := by rw [hwa]; exact (heap_past _ _ _ (by simp)).trans (heap_at _ _ _ rfl)
  have hb2 : wa.heap[w.heap.size + 1]? = some (.cells #[.slice av xs.length cv, .string ⟨#[]⟩] 39 (0, 0)) := by rw [hwa]; exact heap_at _ _ _ (by simp)
  have q1 : wa.cell? ⟨b, 1, none⟩ = some (.pointer (some ⟨d.bs, 0, none⟩)) := cell_of_heap (h.new hca).blk rfl
  have hcall := fun w' (hc : Chg [] wa w') => inSet w' d (k1, k2, k3) _ xs du (h.new (hca.trans hc)) hst hk h0 (hv.same (hca.trans hc)) hx hdu hdo hrev
  have Hcall := Lib.hid hcall
  have Hca := Lib.hid hca
  have hpl := hb1
  clear hcall h hst hk h0 hv hx hdu hdo hrev hca hpl
  unfold i3v at Hcall ⊢
  go_enter Try.func24, Try.ntmps24
  go_wp2_with fail
  rw [← hwa]
  clear hwa
  refine wp_region_T (fun w' => w'.cell? ⟨b, 1, none⟩ = some (.pointer (some ⟨d.bs, 0, none⟩)) ∧ w'.cell? ⟨w.heap.size, 0, none⟩ = some (.int .i64 k1) ∧ w'.cell? ⟨w.heap.size, 1, none⟩ = some (.int .i64 k2) ∧ w'.cell? ⟨w.heap.size, 2, none⟩ = some (.int .i64 k3) ∧ w'.cell? ⟨w.heap.size + 1, 0, none⟩ = some (.slice av xs.length cv) ∧ w'.cell? ⟨w.heap.size + 1, 1, none⟩ = some (.string ⟨#[]⟩)) 7 (by kernel_rfl) ?_
  intro wd hwd
  have hcd : Chg [] wa wd := by rw [hwd]; exact (Chg.refl _ _).drew
  have hSW : wd.cell? ⟨b, 1, none⟩ = some (.pointer (some ⟨d.bs, 0, none⟩)) ∧ wd.cell? ⟨w.heap.size, 0, none⟩ = some (.int .i64 k1) ∧ wd.cell? ⟨w.heap.size, 1, none⟩ = some (.int .i64 k2) ∧ wd.cell? ⟨w.heap.size, 2, none⟩ = some (.int .i64 k3) ∧ wd.cell? ⟨w.heap.size + 1, 0, none⟩ = some (.slice av xs.length cv) ∧ wd.cell? ⟨w.heap.size + 1, 1, none⟩ = some (.string ⟨#[]⟩) :=
    ⟨(hcd.cell (lt_of_cell q1) (by simp)).trans q1, cell_of_heap ((hcd.block _ (lt_of_obj hb1) (by simp)).trans hb1) rfl, cell_of_heap ((hcd.block _ (lt_of_obj hb1) (by simp)).trans hb1) rfl, cell_of_heap ((hcd.block _ (lt_of_obj hb1) (by simp)).trans hb1) rfl, cell_of_heap ((hcd.block _ (lt_of_obj hb2) (by simp)).trans hb2) rfl, cell_of_heap ((hcd.block _ (lt_of_obj hb2) (by simp)).trans hb2) rfl⟩
  have Hcall := Lib.hid (Hcall.out wd hcd)
  have Hcd := Lib.hid (Hca.out.trans hcd)
  clear hwd hcd q1 hb1 hb2
  refine anyT_pure (i := 0) (v := .pointer (some ⟨b, 0, none⟩)) rfl (by kernel_rfl) (fun _ _ _ h => h) (Or.inl ⟨by rfl, fun w' hS => by go_simp⟩) hSW ?_
  simp only [Act.put, List.setIfInBounds_toArray, List.set_cons_zero, List.set_cons_succ]
  refine anyT_pure (i := 1) (v := .pointer (some ⟨b, 0, none⟩)) rfl (by kernel_rfl) (fun _ _ _ h => h) (Or.inl ⟨by rfl, fun w' hS => by go_simp⟩) hSW ?_
  simp only [Act.put, List.setIfInBounds_toArray, List.set_cons_zero, List.set_cons_succ]
  refine anyT_pure (i := 2) (v := .pointer (some ⟨b, 1, none⟩)) rfl (by kernel_rfl) (fun _ _ _ h => h) (Or.inl ⟨by rfl, fun w' hS => by go_simp⟩) hSW ?_
  simp only [Act.put, List.setIfInBounds_toArray, List.set_cons_zero, List.set_cons_succ]
  refine anyT_take (i := 3) (v := .pointer (some ⟨d.bs, 0, none⟩)) rfl (by kernel_rfl) (fun _ _ _ h => h) (Or.inl ⟨by rfl, fun w' hS => by go_simp⟩) hSW ?_
  simp only [Act.put, List.setIfInBounds_toArray, List.set_cons_zero, List.set_cons_succ]
  refine anyT_take (i := 4) (v := .agg #[.int .i64 k1, .int .i64 k2, .int .i64 k3]) rfl (by kernel_rfl) (fun _ _ _ h => h) (Or.inl ⟨by rfl, fun w' hS => by go_simp⟩) hSW ?_
  simp only [Act.put, List.setIfInBounds_toArray, List.set_cons_zero, List.set_cons_succ]
  refine anyT_take (i := 5) (v := .agg #[.slice av xs.length cv, .string ⟨#[]⟩]) rfl (by kernel_rfl) (fun _ _ _ h => h) (Or.inl ⟨by rfl, fun w' hS => by go_simp⟩) hSW ?_
  simp only [Act.put, List.setIfInBounds_toArray, List.set_cons_zero, List.set_cons_succ]
  refine anyT_pure (i := 6) (v := .int .i64 du) rfl (by kernel_rfl) (fun _ _ _ h => h) (Or.inl ⟨by rfl, fun w' hS => by go_simp⟩) hSW ?_
  simp only [Act.put, List.setIfInBounds_toArray, List.set_cons_zero, List.set_cons_succ]
  refine anyT_one (k := 7) (by kernel_rfl) rfl (fun K hK => ?_)
  go_simp
  refine Hcall.out.mono ?_
  rintro e w1 ⟨ch, d', rfl, haf, hpl⟩
  have Hfin := Lib.hid (show StPost b (k1, k2, k3) xs du w d (.returned (.int .i64 0)) w1 from ⟨d', ⟨haf.mem, (Hcd.out.p (S := fun g => g ∈ d.muts b)).trans haf.chg, fun g hg => (haf.muts g hg).imp id fun h => Nat.le_trans Hcd.out.size h, fun g hg => (haf.imms g hg).imp id fun h => Nat.le_trans Hcd.out.size h, haf.comp, haf.stop⟩, hpl, rfl⟩)
  clear haf hpl hSW
  refine hK _ _ (fun h => by simp at h) ?_
  clear hK K
  refine anyT_late (i := 8) (v := .tuple #[.bool ch, .int .i64 0]) rfl (by kernel_rfl) (fun _ _ _ h => h) (Or.inl ⟨by rfl, fun w' hS => by go_simp⟩) ?_
  simp only [Act.put, List.setIfInBounds_toArray, List.set_cons_zero, List.set_cons_succ]
  refine anyT_late (i := 9) (v := .bool ch) rfl (by kernel_rfl) (fun _ _ _ h => h) (Or.inl ⟨by rfl, fun w' hS => by go_simp⟩) ?_
  simp only [Act.put, List.setIfInBounds_toArray, List.set_cons_zero, List.set_cons_succ]
  refine anyT_late (i := 10) (v := .int .i64 0) rfl (by kernel_rfl) (fun _ _ _ h => h) (Or.inl ⟨by rfl, fun w' hS => by go_simp⟩) ?_
  simp only [Act.put, List.setIfInBounds_toArray, List.set_cons_zero, List.set_cons_succ]
  refine anyT_late (i := 11) (v := .bool ch) rfl (by kernel_rfl) (fun _ _ _ h => h) (Or.inl ⟨by rfl, fun w' hS => by go_simp⟩) ?_
  simp only [Act.put, List.setIfInBounds_toArray, List.set_cons_zero, List.set_cons_succ]
  refine anyT_late (i := 12) (v := .int .i64 0) rfl (by kernel_rfl) (fun _ _ _ h => h) (Or.inl ⟨by rfl, fun w' hS => by go_simp⟩) ?_
  simp only [Act.put, List.setIfInBounds_toArray, List.set_cons_zero, List.set_cons_succ]
  refine anyT_done (by kernel_rfl) ?_
  go_wp2_with fail
  go_ret
  exact Hfin.out
end
end Go.Proofs.Ytggiddhhbilcjaa
/- querylang.Compile. -/
namespace Go.Proofs.Ytggiddhhbilcjaa
open Go.RowKit Go.ChangeMaps Go.MapKept
set_option linter.unusedVariables false
set_option linter.unusedSimpArgs false
theorem Try.infoOp : (Try.prog.info? 119).map (fun i => (i.zero, i.size, i.bytes)) = some (some (.agg #[.int .i64 0, .int .i64 0, .int .i64 0]), 3, 24) := by kernel_rfl
theorem Try.infoOps : (Try.prog.info? 116).map (fun i => (i.zero, i.size, i.bytes)) = some (some (.slice none 0 0), 1, 24) := by kernel_rfl
theorem flat3_cell {ks : List I3} {w : World} {g off : Nat} (h : ∀ j (h : j < ks.length), rdI3 w ⟨g, off + j * 3, none⟩ ks[j]) : ∀ j u, (flat3 ks)[j]? = some u → w.cell? ⟨g, off + j, none⟩ = some u := by
  intro j u hu
  have hj : j < ks.length * 3 := by
    have := (List.getElem?_eq_some_iff.1 hu).1
    rwa [flat3_len] at this
  obtain ⟨q, r, hr, rfl⟩ : ∃ q r, r < 3 ∧ j = q * 3 + r := ⟨j / 3, j % 3, by omega, by omega⟩
  have hq : q < ks.length := by omega
  obtain ⟨f0, f1, f2⟩ := flat3_get ks q hq
  obtain ⟨r0, r1, r2⟩ := h q hq
  rcases (by omega : r = 0 ∨ r = 1 ∨ r = 2) with rfl | rfl | rfl
  · rw [Nat.add_zero, f0] at hu; cases hu
    exact r0
  · rw [f1] at hu; cases hu
    exact r1
  · rw [f2] at hu; cases hu
    exact r2
/-- a row of three-field structs of the call's own, read -/
theorem i3s_of_row {E : TypeId} {w : World} {base : Nat} {v : Value} {n : Nat} {ks : List I3} (h : w.ownsRow base E 3 v n (flat3 ks)) (hn : n = ks.length) : I3s (fun g => base ≤ g ∧ g < w.heap.size) w v ks := by
  subst hn
  have h' := h
  rcases h.2 with ⟨rfl, h0⟩ | ⟨g, cap, cur, rfl, h1, h2, h3, h4, h5, h6⟩
  · have : ks = [] := List.eq_nil_of_length_eq_zero h0
    subst this
    exact SlR.nil _ _ _ _
  · refine ⟨_, cap, rfl, h3, h4, fun _ => ⟨g, 0, rfl, ⟨h1, lt_of_obj h2⟩, fun j hj => ?_⟩⟩
    obtain ⟨f0, f1, f2⟩ := flat3_get ks j hj
    have c0 := h'.cells (g := g) rfl _ _ f0
    have c1 := h'.cells (g := g) rfl _ _ f1
    have c2 := h'.cells (g := g) rfl _ _ f2
    rw [Addr.add_lit] at c0 c1 c2
    exact ⟨c0, c1, c2⟩
set_option maxHeartbeats 1000000 in
theorem opsClone_any (p : Nat → Prop) (w : World) (v : Value) (ops : List QO) (h : I3s p w v ops) (h0 : 0 < ops.length) (hl : ops.length ≤ 1000) :
    Calls Try.prog 49 #[v] w fun e w' => ∃ a c, e = .returned (.slice a ops.length c) ∧ I3s (fun g => w.heap.size ≤ g ∧ g < w'.heap.size) w' (.slice a ops.length c) ops ∧ Chg [] w w' := by
  obtain ⟨a, cap, rfl, h1, h2, h3⟩ := h
  obtain ⟨g, off, rfl, _, hc⟩ := h3 h0
  have hcell := flat3_cell hc
  obtain ⟨i0, hi, hz0, hz1, hz2⟩ := info_parts Try.infoOp
  have hnil := fun w : World => Lib.run_eql_slice_nil (P := Try.prog) w 116 119 (some ⟨g, off, none⟩) ops.length cap 0 0 Try.underlying116
  have hcs : ∀ j u, (flat3 ops)[j]? = some u → (w.alloc (.cells #[] 119)).cell? ((⟨g, off, none⟩ : Addr).add j) = some u := by
    intro j u hu
    have h1 := hcell j u hu
    rw [Addr.add_lit, World.cell?_alloc_past _ _ _ (lt_of_cell h1), h1]
  have h1c : ∀ u ∈ flat3 ops, u.oneCell' = true := by
    intro u hu
    unfold flat3 at hu
    obtain ⟨k, _, hu⟩ := List.mem_flatMap.1 hu
    simp only [List.mem_cons, List.not_mem_nil, or_false] at hu
    rcases hu with rfl | rfl | rfl <;> rfl
  have Hcs := Lib.hid hcs
  have H1c := Lib.hid h1c
  clear hc hcell hcs h1c h3
  go_enter Try.func49, Try.ntmps49
  go_wp2_with (at_builtin; refine wpList_append_own _ rfl _ _ 116 rfl w.heap.size 119 i0 (.agg #[.int .i64 0, .int .i64 0, .int .i64 0]) 3 24 Try.underlying116 hi hz0 hz1 hz2 rfl (by decide) (.slice (some ⟨w.heap.size, 0, none⟩) 0 0) 0 [] rfl (World.ownsRow_made w #[] 0 (Nat.le_refl _) (Nat.zero_le _) rfl) ⟨g, off, none⟩ ops.length cap (flat3 ops) rfl (flat3_len ops) Hcs.out H1c.out (by unfold maxLen; omega) (by omega) (by simp) ?_; intro v' w1 hown hgr _)
  go_ret
  simp only [Nat.zero_add, List.nil_append] at hown
  obtain ⟨a', c', rfl⟩ := ownsRow_shape hown
  exact ⟨a', c', rfl, i3s_of_row hown rfl, ((Chg.refl [] w).alloc _).grown hgr (by simp [Value.ownBlock])⟩
/-- the first k clones lie in the block bq -/
structure CompAt (w0 : World) (qs : List (List QO)) (g : Nat) (k : Nat) (us : List Value) (w : World) : Prop where
  len : us.length = k
  blk : w.heap[g]? = some (.cells (us ++ List.replicate (qs.length - k) (Value.slice none 0 0)).toArray 116 (0, 0))
  each : ∀ j (h : j < us.length), I3s (fun b => w0.heap.size ≤ b ∧ b < w.heap.size ∧ b ≠ g) w us[j] (qs.getD j [])
  shape : ∀ u ∈ us, ∃ a n c, u = Value.slice a n c
theorem CompAt.step {w0 : World} {qs : List (List QO)} {g k : Nat} {us : List Value} {w w' : World} {a : Option Addr} {c : Nat} (h : CompAt w0 qs g k us w) (hc : Chg [] w w') (hk : k < qs.length) (hw : w0.heap.size ≤ w.heap.size)
    (hi : I3s (fun b => w.heap.size ≤ b ∧ b < w'.heap.size) w' (.slice a (qs.getD k []).length c) (qs.getD k [])) : CompAt w0 qs g (k + 1) (us ++ [.slice a (qs.getD k []).length c]) (w'.setCell ⟨g, k, none⟩ (.slice a (qs.getD k []).length c)) := by
  have hg := lt_of_obj h.blk
  have hb := (hc.block g hg (by simp)).trans h.blk
  have hs : ChgP (fun b => b = g) w' (w'.setCell ⟨g, k, none⟩ (.slice a (qs.getD k []).length c)) := (ChgP.refl (fun b => b = g) w').setCell (p := ⟨g, k, none⟩) (Or.inl rfl) _
  have hz : (w'.setCell ⟨g, k, none⟩ (.slice a (qs.getD k []).length c)).heap.size = w'.heap.size := by simp [World.setCell]
  refine ⟨by simp [h.len], ?_, fun j hj => ?_, fun u hu => ?_⟩
  · refine (heap_setCell_same hb _).trans ?_
    have e : qs.length - k = (qs.length - (k + 1)) + 1 := by omega
    congr 2
    rw [e, List.replicate_succ]
    apply Array.ext
    · simp
    · intro i h1 h2
      simp only [List.setIfInBounds_toArray, List.getElem_toArray]
      have : (us ++ Value.slice none 0 0 :: List.replicate (qs.length - (k + 1)) (Value.slice none 0 0)).set k (.slice a (qs.getD k []).length c) = us ++ [.slice a (qs.getD k []).length c] ++ List.replicate (qs.length - (k + 1)) (Value.slice none 0 0) := by
        rw [List.set_append_right _ _ (by rw [h.len]; exact Nat.le_refl _), h.len, Nat.sub_self, List.set_cons_zero]
        simp
      simp only [this]
  · rw [hz]
    by_cases hj' : j < us.length
    · rw [List.getElem_append_left hj']
      exact ((h.each j hj').kept (hc.p (S := fun _ => False)) (fun _ _ h => h) |>.imp fun b hb => ⟨hb.1, Nat.lt_of_lt_of_le hb.2.1 hc.size, hb.2.2⟩).kept hs fun b hb e => hb.2.2 e
    · obtain rfl : j = us.length := by simp at hj; omega
      rw [List.getElem_append_right (Nat.le_refl _)]
      simp only [Nat.sub_self, List.getElem_cons_zero, h.len]
      exact (hi.imp (q := fun b => w0.heap.size ≤ b ∧ b < w'.heap.size ∧ b ≠ g) fun b hb => ⟨Nat.le_trans hw hb.1, hb.2, by omega⟩).kept hs fun b hb e => hb.2.2 e
  · rcases List.mem_append.1 hu with hu | hu
    · exact h.shape u hu
    · rw [List.mem_singleton.1 hu]; exact ⟨_, _, _, rfl⟩
/-- a compiled program's boxes -/
structure CompMem (RO : Nat → Prop) (bv bq : Nat) (qv : Value) (qs : List (List QO)) (w : World) : Prop where
  valid : w.heap[bv]? = some (.cells #[.bool true] 4 (0, 0))
  queries : w.heap[bq]? = some (.cells #[qv] 22 (0, 0))
  rows : I3ss RO w qv qs
  rbv : RO bv
  rbq : RO bq
def CompPost (inp : Int) (qs : List (List QO)) (w : World) (e : Ending) (w' : World) : Prop :=
  ∃ bv bq qv, e = .returned (.func (.func 50) #[] #[.pointer (some ⟨bv, 0, none⟩), .pointer (some ⟨bq, 0, none⟩)]) ∧ CompMem (fun g => w.heap.size ≤ g ∧ g < w'.heap.size) bv bq qv qs w' ∧ Chg [] w w'
set_option maxRecDepth 100000 in
set_option maxHeartbeats 4000000 in
theorem compile_any (p : Nat → Prop) (w : World) (inp : Int) (qs : List (List QO)) (v : Value) (hq : I3ss p w v qs) (hok : PrgOk ⟨inp, qs⟩) :
    Calls Try.prog 22 #[.agg #[.int .i64 inp, v]] w (CompPost inp qs w) := by
  obtain ⟨av, capv, rfl, hlm, hlc⟩ := hq.shape
  obtain ⟨wa, hwa⟩ : ∃ x, x = w.alloc (.cells #[.int .i64 inp, .slice av qs.length capv] 24) := ⟨_, rfl⟩
  have hca : Chg [] w wa := by rw [hwa]; exact (Chg.refl [] w).alloc _
  have hpb : wa.heap[w.heap.size]? = some (.cells #[.int .i64 inp, .slice av qs.length capv] 24 (0, 0)) := by rw [hwa]; exact heap_at _ _ _ rfl
  have Hq := Lib.hid (hq.kept (hca.p (S := fun _ => False)) (fun _ _ h => h))
  have Hchk := Lib.hid (checkP_any p wa inp qs _ Hq.out)
  have Hca := Lib.hid hca
  have Hok := Lib.hid hok
  have h40 := hok.size
  have c0 := cell_of_heap hpb (i := 0) rfl
  have c1 := cell_of_heap hpb (i := 1) rfl
  have Hpb := Lib.hid hpb
  have hmf : ∀ (fn : Fn) (first cap : Array Value) (w : World), (Instr.makeFunc fn first cap).run Try.prog w = .ok (.func fn first cap) w := fun _ _ _ _ => rfl
  have hmk := run_make_row' (P := Try.prog) 22 116 (.slice none 0 0) 24 Try.underlying22 Try.infoOps rfl .i64 .i64 qs.length (by simp only at h40; omega) (by simp only at h40; omega)
  have Hmk := Lib.hid hmk
  clear hq hok hca hpb hmk hmf
  go_enter Try.func22, Try.ntmps22
  go_wp2_with fail
  rw [← hwa]
  clear hwa
  refine Hchk.out.mono ?_
  rintro e w1 ⟨code, rfl, hcode, hc1⟩
  obtain rfl := hcode.2 Hok.out
  have c1' : w1.cell? ⟨w.heap.size, 1, none⟩ = some (.slice av qs.length capv) := (hc1.cell (lt_of_cell c1) (by simp)).trans c1
  have c0' : w1.cell? ⟨w.heap.size, 0, none⟩ = some (.int .i64 inp) := (hc1.cell (lt_of_cell c0) (by simp)).trans c0
  clear c0 c1
  clear hcode
  have hmk' := Hmk.out
  obtain ⟨x1, hx1⟩ : ∃ x, x = (w1.alloc (.cells #[.bool true] 4)).alloc (.cells (madeCells #[.slice none 0 0] qs.length) 116) := ⟨_, rfl⟩
  obtain ⟨x2, hx2⟩ : ∃ x, x = x1.alloc (.cells #[.slice (some ⟨w1.heap.size + 1, 0, none⟩) qs.length qs.length] 22) := ⟨_, rfl⟩
  have hsz1 : x1.heap.size = w1.heap.size + 2 := by rw [hx1]; simp
  have hsz2 : x2.heap.size = w1.heap.size + 3 := by rw [hx2]; simp [hsz1]
  have hcx : Chg [] w x2 := by
    rw [hx2, hx1]
    exact (((Hca.out.trans hc1).alloc _).alloc _).alloc _
  have hgv : x2.heap[w1.heap.size]? = some (.cells #[.bool true] 4 (0, 0)) := by
    rw [hx2, hx1]
    exact (heap_past _ _ _ (by simp; omega)).trans ((heap_past _ _ _ (by simp)).trans (heap_at _ _ _ rfl))
  have hgr : x2.heap[w1.heap.size + 1]? = some (.cells ([] ++ List.replicate (qs.length - 0) (Value.slice none 0 0)).toArray 116 (0, 0)) := by
    rw [hx2, hx1]
    refine (heap_past _ _ _ (by simp)).trans ((heap_at _ _ _ (by simp)).trans ?_)
    congr 2
    apply Array.ext
    · simp [madeCells]
    · intro i h1 h2
      simp [madeCells, Nat.mod_one]
  have hgq : x2.heap[w1.heap.size + 2]? = some (.cells #[.slice (some ⟨w1.heap.size + 1, 0, none⟩) qs.length qs.length] 22 (0, 0)) := by
    rw [hx2]
    exact heap_at _ _ _ hsz1.symm
  have hlw : w.heap.size ≤ w1.heap.size := (Hca.out.trans hc1).size
  have hl0 : w.heap.size < w1.heap.size := lt_of_cell c1'
  have HX := Lib.hid (And.intro hcx (And.intro hgv (And.intro hgr hgq)))
  have c1x : x2.cell? ⟨w.heap.size, 1, none⟩ = some (.slice av qs.length capv) := by
    rw [hx2, hx1]
    exact (((((Chg.refl [] w1).alloc _).alloc _).alloc _).cell (p := ⟨w.heap.size, 1, none⟩) hl0 (by simp)).trans c1'
  clear hcx hgv hgr hgq
  have Hc1 := Lib.hid hc1
  have hl1 : w.heap.size < w1.heap.size + 1 := by omega
  have hl2 : w.heap.size < w1.heap.size + 2 := by omega
  have hl3 : w.heap.size < w1.heap.size + 1 + 1 := by omega
  have hl4 : w.heap.size < w1.heap.size + 3 := by omega
  clear hc1
  go_wp2_with fail
  rw [← hx1, ← hx2]
  have Hx := Lib.hid (And.intro hx1 hx2)
  clear hx1 hx2 c1' c0' hl1 hl2 hl3 hl4 hmk' c1x
  go_loopw [17] (fun jj wr => ∃ (k : Nat) (us : List Value), k ≤ qs.length ∧ jj = .int .i64 (k : Nat) ∧ CompAt w qs (w1.heap.size + 1) k us wr ∧ wr.heap[w1.heap.size]? = some (.cells #[.bool true] 4 (0, 0)) ∧ wr.heap[w1.heap.size + 2]? = some (.cells #[.slice (some ⟨w1.heap.size + 1, 0, none⟩) qs.length qs.length] 22 (0, 0)) ∧ Chg [] wa wr) (fun jj _ => qs.length - (intOf jj).toNat)
  case atStart =>
    refine ⟨0, [], by omega, rfl, ⟨rfl, HX.out.2.2.1, fun j hj => absurd hj (by simp), fun u hu => absurd hu (by simp)⟩, HX.out.2.1, HX.out.2.2.2, ?_⟩
    rw [Hx.out.2, Hx.out.1]
    exact ((Hc1.out.alloc _).alloc _).alloc _
  case round =>
    obtain ⟨k, us, hk, rfl, hat, hgv, hgq, hcw⟩ := hrel
    have Hgv := Lib.hid hgv
    have Hat := Lib.hid hat
    have Hcw := Lib.hid hcw
    by_cases hlt : k < qs.length
    · have hk1 : (k : Int) < qs.length := by omega
      obtain ⟨g, off, rfl, hg, u, q0, hu⟩ := SlR.at (Hq.out.kept (hcw.p (S := fun _ => False)) (fun _ _ h => h)) k hlt []
      rw [Nat.mul_one] at q0
      obtain ⟨au, capu, rfl, hum, huc⟩ := hu.shape
      have lg := lt_of_cell q0
      have qq := cell_of_heap hgq (i := 0) rfl
      have Hgq := Lib.hid hgq
      have hqk := Hok.out.qs k hlt
      have hl20 := hqk.size
      simp only at hl20
      have hpos : 0 < (qs.getD k []).length := by
        rcases h : (qs.getD k []) with _ | ⟨o, r⟩
        · have := hqk.dep
          simp only [h] at this
          cases this
        · simp
      obtain ⟨ops, hops⟩ : ∃ x, x = qs.getD k [] := ⟨_, rfl⟩
      rw [← hops] at q0 hum huc hl20 hpos hu
      have Hops := Lib.hid hops
      have Hu := Lib.hid hu
      clear hat hgv hgq hcw hqk hu hops
      go_wp2_with fail
      refine wp_region_T (fun w' => w'.cell? ⟨w1.heap.size + 1 + 1, 0, none⟩ = some (.slice (some ⟨w1.heap.size + 1, 0, none⟩) qs.length qs.length)) 5 (by kernel_rfl) ?_
      intro wd hwd
      have hcd : Chg [] wr wd := by rw [hwd]; exact (Chg.refl _ _).drew
      have hSW : wd.cell? ⟨w1.heap.size + 1 + 1, 0, none⟩ = some (.slice (some ⟨w1.heap.size + 1, 0, none⟩) qs.length qs.length) := (hcd.cell (lt_of_cell qq) (by simp)).trans qq
      have Hcall := Lib.hid (opsClone_any p wd _ ops (Hu.out.kept (hcd.p (S := fun _ => False)) (fun _ _ h => h)) hpos (by omega))
      have Hcd := Lib.hid hcd
      clear hwd hcd qq q0 lg
      refine anyT_take (i := 0) (v := .slice (some ⟨w1.heap.size + 1, 0, none⟩) qs.length qs.length) rfl (by kernel_rfl) (fun _ _ _ h => h) (Or.inl ⟨by rfl, fun w' hS => by go_simp⟩) hSW ?_
      simp only [Act.put, List.setIfInBounds_toArray, List.set_cons_zero, List.set_cons_succ]
      refine anyT_pure (i := 1) (v := .int .i64 k) rfl (by kernel_rfl) (fun _ _ _ h => h) (Or.inl ⟨by rfl, fun w' hS => by go_simp⟩) hSW ?_
      simp only [Act.put, List.setIfInBounds_toArray, List.set_cons_zero, List.set_cons_succ]
      refine anyT_pure (i := 2) (v := .slice au ops.length capu) rfl (by kernel_rfl) (fun _ _ _ h => h) (Or.inl ⟨by rfl, fun w' hS => by go_simp⟩) hSW ?_
      simp only [Act.put, List.setIfInBounds_toArray, List.set_cons_zero, List.set_cons_succ]
      refine anyT_one (k := 3) (by kernel_rfl) rfl (fun K hK => ?_)
      go_simp
      refine Hcall.out.mono ?_
      rintro e w6 ⟨a', c', rfl, hi6, hc6⟩
      have hc6' := Hcd.out.trans hc6
      have hS6 := (hc6.cell (lt_of_cell hSW) (by simp)).trans hSW
      have hblk := (hc6'.block _ (lt_of_obj Hat.out.blk) (by simp)).trans Hat.out.blk
      have hblk' := hblk
      have ec : ((us ++ List.replicate (qs.length - k) (Value.slice none 0 0)).toArray)[k]? = some (Value.slice none 0 0) := by
        have := Hat.out.len
        simp only [List.getElem?_toArray]
        rw [List.getElem?_append_right (by omega), this, Nat.sub_self, List.getElem?_replicate_of_lt (by omega)]
      have ck := cell_of_heap hblk ec
      have fk := frozen_of_heap (i := k) hblk
      have lk : w1.heap.size + 1 < w6.heap.size := lt_of_obj hblk
      have hst := Hat.out.step (a := a') (c := c') hc6' hlt (Nat.le_trans (Hca.out.trans Hcw.out).size (Nat.le_refl _)) (by rw [← Hops.out]; exact hi6.imp fun b hb => ⟨Nat.le_trans Hcd.out.size hb.1, hb.2⟩)
      rw [← Hops.out] at hst
      have Hst := Lib.hid hst
      have Hgv6 := Lib.hid ((hc6'.block _ (lt_of_obj Hgv.out) (by simp)).trans Hgv.out)
      have Hgq6 := Lib.hid ((hc6'.block _ (lt_of_obj Hgq.out) (by simp)).trans Hgq.out)
      have Hc6 := Lib.hid (Hcw.out.trans hc6')
      clear hst hblk hblk' ec hi6 hc6 hc6'
      refine hK _ _ (fun _ => hS6) ?_
      clear hK K
      refine anyT_one (k := 4) (by kernel_rfl) rfl (fun K hK => ?_)
      go_simp
      refine hK _ _ (fun _ => hS6) ?_
      clear hK K
      refine anyT_one (k := 5) (by kernel_rfl) rfl (fun K hK => ?_)
      go_simp
      refine hK _ _ (fun h => by simp at h) ?_
      clear hK K
      refine anyT_done (by kernel_rfl) ?_
      go_wp2_with fail
      refine ⟨⟨k + 1, us ++ [.slice a' ops.length c'], by omega, by go_num, Hst.out, ?_, ?_, ?_⟩, ?_⟩
      · rw [heap_setCell_ne _ _ _ _ (by simp)]; exact Hgv6.out
      · rw [heap_setCell_ne _ _ _ _ (by simp)]; exact Hgq6.out
      · exact Hc6.out.setCell (Or.inr (by have := (Hc1.out).size; simp only; omega)) _
      · simp only [intOf]; omega
    · obtain rfl : k = qs.length := by omega
      have hk1 : ¬ ((qs.length : Int) < qs.length) := by omega
      have Hgq := Lib.hid hgq
      have hmf : ∀ (fn : Fn) (first cap : Array Value) (w : World), (Instr.makeFunc fn first cap).run Try.prog w = .ok (.func fn first cap) w := fun _ _ _ _ => rfl
      clear hat hgv hcw hgq
      go_wp2_with fail
      go_ret
      have hb := Hat.out.blk
      rw [Nat.sub_self, List.replicate_zero, List.append_nil] at hb
      refine ⟨w1.heap.size, w1.heap.size + 2, _, rfl, ⟨Hgv.out, Hgq.out, ⟨_, _, rfl, Nat.le_refl _, hlm, fun h0 => ⟨w1.heap.size + 1, 0, rfl, ⟨by omega, lt_of_obj hb⟩, fun j hj => ?_⟩⟩, ⟨hlw, lt_of_obj Hgv.out⟩, ⟨by omega, lt_of_obj Hgq.out⟩⟩, Hca.out.trans Hcw.out⟩
      have hlen := Hat.out.len
      have hj' : j < us.length := by omega
      have he := Hat.out.each j hj'
      refine ⟨us[j], ?_, ?_⟩
      · rw [Nat.zero_add, Nat.mul_one]
        exact cell_of_heap hb (by simp [hj'])
      · have : qs[j] = qs.getD j [] := by simp [hj]
        rw [this]
        exact he.imp fun b hb => ⟨hb.1, hb.2.1⟩
end Go.Proofs.Ytggiddhhbilcjaa
/- A compiled program's closures: get mapped to numbers, the compute function. -/
namespace Go.Proofs.Ytggiddhhbilcjaa
open Go.RowKit Go.ChangeMaps Go.MapKept
set_option linter.unusedVariables false
set_option linter.unusedSimpArgs false
/-- values as numbers -/
def gmap {σ : Type} (G : σ → QK → Except Int (List Int) × σ) (s : σ) (k : QK) : Except Int Int × σ :=
  match G s k with
  | (.ok xs, s') => (.ok (red (xs.getD 0 0)), s')
  | (.error x, s') => (.error x, s')
/-- a compiled program's query -/
def compQ {σ : Type} (qs : List (List QO)) (key : QK) (G : σ → QK → Except Int (List Int) × σ) (s : σ) : Except Int (List Int) × σ :=
  match runR (gmap G) key.2.1 (qs.getD key.2.1.toNat []) s with
  | (.ok n, s') => (.ok [n], s')
  | (.error x, s') => (.error x, s')
/-- a query's key -/
def QryK (N : Nat) (k : QK) : Prop := k.1 = 1 ∧ 0 ≤ k.2.1 ∧ k.2.1 < N ∧ k.2.2 = 0
theorem enterC1 (args : Array Value) (w : World) : (callFunc 52 args).run Try.prog w = .ok (.enter 52 args) w := by go_simp
theorem enterC (args : Array Value) (w : World) : (callFunc 50 args).run Try.prog w = .ok (.enter 50 args) w := by go_simp
theorem run_nums (x : Option Addr) (y z : Nat) (u : Value) (w : World) : (Instr.field 39 (.agg #[.slice x y z, u]) 0).run Try.prog w = .ok (.slice x y z) w := by kernel_rfl
section
variable {σ : Type} {fn : Nat} {gcaps : Array Value} {I : (Nat → Prop) → σ → World → Prop} {RO' : Nat → Prop} {G : σ → QK → Except Int (List Int) × σ} {ch : Int → List PanicEntry} {inp idx : Int} {Kk : QK → Prop}
/-- the closure's memory: the get's, and the box of get -/
def QI (fn : Nat) (gcaps : Array Value) (I : (Nat → Prop) → σ → World → Prop) (RO' : Nat → Prop) (bg : Nat) (F : Nat → Prop) (s : σ) (w : World) : Prop :=
  I (fun g => F g ∨ g = bg) s w ∧ w.heap[bg]? = some (.cells #[.func (.func fn) #[] gcaps] 109 (0, 0)) ∧ ¬ RO' bg
def QRO (RO' : Nat → Prop) (bg : Nat) : Nat → Prop := fun g => RO' g ∨ g = bg
set_option maxRecDepth 100000 in
set_option maxHeartbeats 1000000 in
theorem getq_any (fam : VFam fn gcaps I RO' G ch Kk) (bg : Nat) (F : Nat → Prop) (s : σ) (w : World) (k : QK) (hk : Kk k) (hI : QI fn gcaps I RO' bg F s w) :
    Calls Try.prog 52 (#[i3v k] ++ #[.pointer (some ⟨bg, 0, none⟩)]) w (GetPost (QI fn gcaps I RO' bg) (QRO RO' bg) (gmap G) ch F s k w) := by
  obtain ⟨k1, k2, k3⟩ := k
  obtain ⟨h1, hb, hr⟩ := hI
  obtain ⟨wa, hwa⟩ : ∃ x, x = w.alloc (.cells #[.int .i64 k1, .int .i64 k2, .int .i64 k3] 43) := ⟨_, rfl⟩
  have hca : Chg [] w wa := by rw [hwa]; exact (Chg.refl [] w).alloc _
  have lb := lt_of_obj hb
  have hIa := fam.keep h1 (hca.p (S := fun g => (F g ∨ g = bg) ∧ ¬ RO' g))
  have henter := fam.enter
  have hnums := run_nums
  have hba := (hca.block _ lb (by simp)).trans hb
  have q0 : wa.cell? ⟨bg, 0, none⟩ = some (.func (.func fn) #[] gcaps) := cell_of_heap hba (i := 0) rfl
  have q0w : w.cell? ⟨bg, 0, none⟩ = some (.func (.func fn) #[] gcaps) := cell_of_heap hb (i := 0) rfl
  have hkb : wa.heap[w.heap.size]? = some (.cells #[.int .i64 k1, .int .i64 k2, .int .i64 k3] 43 (0, 0)) := by rw [hwa]; exact heap_at _ _ _ rfl
  have e0 := cell_of_heap hkb (i := 0) rfl
  have e1 := cell_of_heap hkb (i := 1) rfl
  have e2 := cell_of_heap hkb (i := 2) rfl
  have Hcall := Lib.hid (fam.call _ s wa (k1, k2, k3) hk hIa)
  unfold i3v at Hcall
  unfold i3v
  have Hca := Lib.hid hca
  have Hba := Lib.hid hba
  have Hr := Lib.hid hr
  have Fam := Lib.hid fam
  clear hIa hba hkb h1 hb hr hk hca fam
  go_enter Try.func52, Try.ntmps52
  go_wp2_with fail
  rw [← hwa]
  refine Hcall.out.mono ?_
  intro e w2 hpost
  have hfin : ∀ s', I (fun k => (F k ∨ k = bg) ∨ (w.heap.size ≤ k ∧ k < wa.heap.size)) s' w2 → ChgP (fun k => ¬ ((F k ∨ k = bg) ∨ (w.heap.size ≤ k ∧ k < wa.heap.size)) ∧ ¬ RO' k) wa w2 → QI fn gcaps I RO' bg F s' w2 ∧ ChgP (fun k => ¬ F k ∧ ¬ QRO RO' bg k) w w2 := by
    intro s' hI2 hc2
    refine ⟨⟨Fam.out.anti hI2 fun k h => Or.inl h, (hc2.block bg (lt_of_obj Hba.out) (fun h => h.1 (Or.inl (Or.inr rfl)))).trans Hba.out, Hr.out⟩, (Hca.out.p (S := fun k => ¬ F k ∧ ¬ QRO RO' bg k)).comp hc2 fun g hg => Or.inl ⟨fun h => hg.1 (Or.inl (Or.inl h)), fun h => ?_⟩⟩
    rcases h with h | h
    · exact hg.2 h
    · exact hg.1 (Or.inl (Or.inr h))
  have Hfin := Lib.hid hfin
  clear hfin hwa q0 q0w e0 e1 e2 henter
  rcases hg : G s (k1, k2, k3) with ⟨_ | _, s'⟩
  · rename_i x
    obtain ⟨rfl, hI2, hc2⟩ := hpost.err hg
    have Hg := Lib.hid (show gmap G s (k1, k2, k3) = (.error x, s') by unfold gmap; rw [hg])
    obtain ⟨f1, f2⟩ := Hfin.out s' hI2 hc2
    exact ⟨rfl, by unfold GetPost; rw [Hg.out]; exact ⟨rfl, f1, f2⟩⟩
  · rename_i xs
    obtain ⟨a, c, rfl, hints, hlen, hI2, hc2⟩ := hpost.ok hg
    have Hg := Lib.hid (show gmap G s (k1, k2, k3) = (.ok (red (xs.getD 0 0)), s') by unfold gmap; rw [hg])
    have Hf := Lib.hid (Hfin.out s' hI2 hc2)
    have hcells := hints.cells
    clear hpost hg hI2 hc2 hints Hfin
    rcases hcells with ⟨h, rfl⟩ | ⟨g, off, cap, h, hlm, hc⟩
    · simp only [Value.slice.injEq] at h
      obtain ⟨rfl, _, rfl⟩ := h
      go_wp2_with fail
      go_ret
      unfold GetPost
      rw [Hg.out]
      exact ⟨rfl, Hf.out⟩
    · simp only [Value.slice.injEq, true_and] at h
      obtain ⟨rfl, rfl⟩ := h
      by_cases h0 : xs.length = 0
      · obtain rfl : xs = [] := List.eq_nil_of_length_eq_zero h0
        go_wp2_with fail
        go_ret
        unfold GetPost
        rw [Hg.out]
        exact ⟨rfl, Hf.out⟩
      · have hpos : 0 < xs.length := by omega
        have hz := hc 0 hpos
        have hne : ¬ ((xs.length : Int) = 0) := by omega
        have hpi : (0 : Int) < xs.length := by omega
        simp only [Nat.add_zero] at hz
        generalize xs.getD 0 0 = z at hz Hg
        clear hc
        go_wp2_with fail
        refine (reduce_any _ _).mono ?_
        rintro e w3 ⟨rfl, rfl⟩
        go_wp2_with fail
        go_ret
        unfold GetPost
        rw [Hg.out]
        exact ⟨rfl, Hf.out⟩
theorem getq_fam (fam : VFam fn gcaps I RO' G ch Kk) (bg : Nat) (hk : ∀ k, KeyIn inp idx k → Kk k) : GetFam 52 #[] #[.pointer (some ⟨bg, 0, none⟩)] (QI fn gcaps I RO' bg) (QRO RO' bg) (gmap G) ch inp idx where
  enter := enterC1
  keep := by
    rintro F s w w' ⟨h1, hb, hr⟩ hc
    have h2 := fam.keep h1 (hc.mono (T := fun g => (F g ∨ g = bg) ∧ ¬ RO' g) fun g hg => ⟨Or.inl hg.1, fun h => hg.2 (Or.inl h)⟩)
    exact ⟨fam.anti h2 fun g hg => by
      rcases hg with (h | h) | h
      · exact Or.inl (Or.inl h)
      · exact Or.inr h
      · exact Or.inl (Or.inr h), (hc.block bg (lt_of_obj hb) (fun h => h.2 (Or.inr rfl))).trans hb, hr⟩
  anti := by
    rintro F F' s w ⟨h1, hb, hr⟩ hF
    exact ⟨fam.anti h1 fun g hg => hg.imp (hF g) id, hb, hr⟩
  small := by
    intro s k n _ h
    unfold gmap at h
    split at h
    · simp only [Except.ok.injEq] at h; subst h; exact red_bd _
    · cases h
  call := fun F s w k hk' hI => getq_any fam bg F s w k (hk k hk') hI
end
theorem cell_same {w w' : World} {p : Addr} (h : w'.heap[p.block]? = w.heap[p.block]?) : w'.cell? p = w.cell? p := World.cell?_of_block (w := w) h
theorem I3s.same {p : Nat → Prop} {w w' : World} {v : Value} {xs : List I3} (h : I3s p w v xs) (hs : ∀ g, p g → w'.heap[g]? = w.heap[g]?) : I3s p w' v xs :=
  SlR.imp h (fun _ h => h) fun ad x hp hr => ⟨(cell_same (p := ad) (hs _ hp)).trans hr.1, (cell_same (p := ⟨ad.block, ad.off + 1, none⟩) (hs _ hp)).trans hr.2.1, (cell_same (p := ⟨ad.block, ad.off + 2, none⟩) (hs _ hp)).trans hr.2.2⟩
theorem I3ss.same {p : Nat → Prop} {w w' : World} {v : Value} {xs : List (List I3)} (h : I3ss p w v xs) (hs : ∀ g, p g → w'.heap[g]? = w.heap[g]?) : I3ss p w' v xs :=
  SlR.imp h (fun _ h => h) fun ad x hp hr => by
    obtain ⟨u, h1, h2⟩ := hr
    exact ⟨u, (cell_same (p := ad) (hs _ hp)).trans h1, I3s.same h2 hs⟩
theorem CompMem.same {RO : Nat → Prop} {bv bq : Nat} {qv : Value} {qs : List (List QO)} {w w' : World} (h : CompMem RO bv bq qv qs w) (hs : ∀ g, RO g → w'.heap[g]? = w.heap[g]?) : CompMem RO bv bq qv qs w' :=
  ⟨(hs _ h.rbv).trans h.valid, (hs _ h.rbq).trans h.queries, h.rows.same hs, h.rbv, h.rbq⟩
set_option maxRecDepth 100000 in
set_option maxHeartbeats 4000000 in
theorem compile1_any {σ : Type} {ch : Int → List PanicEntry} {inp : Int} {qs : List (List QO)} {RO RO' : Nat → Prop} {bv bq : Nat} {qv : Value} {fn : Nat} {gcaps : Array Value} {I : (Nat → Prop) → σ → World → Prop} {G : σ → QK → Except Int (List Int) × σ} {F : Nat → Prop} {s : σ} {w : World} {q : Nat}
    (hm : CompMem RO bv bq qv qs w) (hok : PrgOk ⟨inp, qs⟩) (hq : q < qs.length) (fam : VFam fn gcaps I RO' G ch (KeyIn inp (q : Int))) (hI : I F s w) (hRO : ∀ g, RO g → RO' g) :
    Calls Try.prog 50 (#[.agg #[.int .i64 1, .int .i64 (q : Int), .int .i64 0], .func (.func fn) #[] gcaps] ++ #[.pointer (some ⟨bv, 0, none⟩), .pointer (some ⟨bq, 0, none⟩)]) w (CPost I RO' ch F (compQ qs (1, (q : Int), 0) G s) w) := by
  obtain ⟨wa, hwa⟩ : ∃ x, x = ((w.alloc (.cells #[.int .i64 1, .int .i64 (q : Int), .int .i64 0] 43)).alloc (.cells #[.func (.func fn) #[] gcaps] 109)).alloc (.cells #[.slice none 0 0, .string ⟨#[]⟩] 39) := ⟨_, rfl⟩
  have hca : Chg [] w wa := by rw [hwa]; exact (((Chg.refl [] w).alloc _).alloc _).alloc _
  have hsa : wa.heap.size = w.heap.size + 3 := by rw [hwa]; simp
  have hbg : wa.heap[w.heap.size + 1]? = some (.cells #[.func (.func fn) #[] gcaps] 109 (0, 0)) := by
    rw [hwa]
    exact (heap_past _ _ _ (by simp)).trans (heap_at _ _ _ (by simp))
  have hkb : wa.heap[w.heap.size]? = some (.cells #[.int .i64 1, .int .i64 (q : Int), .int .i64 0] 43 (0, 0)) := by
    rw [hwa]
    exact (heap_past _ _ _ (by simp; omega)).trans ((heap_past _ _ _ (by simp)).trans (heap_at _ _ _ rfl))
  have hrb : wa.heap[w.heap.size + 2]? = some (.cells #[.slice none 0 0, .string ⟨#[]⟩] 39 (0, 0)) := by
    rw [hwa]
    exact heap_at _ _ _ (by simp)
  have hma : CompMem RO bv bq qv qs wa := hm.same fun g hg => hca.block g (Nat.lt_of_lt_of_le (fam.ro hI g (hRO g hg)) (Nat.le_refl _)) (by simp)
  have hIa := fam.keep hI (hca.p (S := fun g => F g ∧ ¬ RO' g))
  obtain ⟨av, capv, rfl, hlm, hlc⟩ := hm.rows.shape
  have lv := lt_of_obj hm.valid
  have lq := lt_of_obj hm.queries
  have lv1 : bv < w.heap.size + 1 := by omega
  have lv2 : bv < w.heap.size + 2 := by omega
  have lv3 : bv < w.heap.size + 1 + 1 := by omega
  have lq1 : bq < w.heap.size + 1 := by omega
  have lq2 : bq < w.heap.size + 2 := by omega
  have lq3 : bq < w.heap.size + 1 + 1 := by omega
  have v0w : w.cell? ⟨bv, 0, none⟩ = some (.bool true) := cell_of_heap hm.valid (i := 0) rfl
  have v1w : w.cell? ⟨bq, 0, none⟩ = some (.slice av qs.length capv) := cell_of_heap hm.queries (i := 0) rfl
  have v0 : wa.cell? ⟨bv, 0, none⟩ = some (.bool true) := cell_of_heap hma.valid (i := 0) rfl
  have v1 : wa.cell? ⟨bq, 0, none⟩ = some (.slice av qs.length capv) := cell_of_heap hma.queries (i := 0) rfl
  have e0 : wa.cell? ⟨w.heap.size, 0, none⟩ = some (.int .i64 1) := cell_of_heap hkb (i := 0) rfl
  have e1 : wa.cell? ⟨w.heap.size, 1, none⟩ = some (.int .i64 (q : Int)) := cell_of_heap hkb (i := 1) rfl
  have e2 : wa.cell? ⟨w.heap.size, 2, none⟩ = some (.int .i64 0) := cell_of_heap hkb (i := 2) rfl
  have hq1 : (q : Int) < qs.length := by omega
  have hq2 : ¬ ((q : Int) < 0) := by omega
  have hq3 : ¬ ((qs.length : Int) ≤ q) := by omega
  have Hma := Lib.hid hma
  have Hca := Lib.hid hca
  have Hm := Lib.hid hm
  have Hok := Lib.hid hok
  have Fam := Lib.hid fam
  have HIa := Lib.hid hIa
  have HI := Lib.hid hI
  have HRO := Lib.hid hRO
  have Hb := Lib.hid (And.intro hbg (And.intro hkb hrb))
  clear hma hca hm hok fam hIa hI hRO hbg hkb hrb
  go_enter Try.func50, Try.ntmps50
  go_wp2_with fail
  rw [← hwa]
  clear hwa lv1 lv2 lv3 lq1 lq2 lq3 v0w v1w
  obtain ⟨g, off, rfl, hg, u, q0, hu⟩ := SlR.at Hma.out.rows q hq []
  rw [Nat.mul_one] at q0
  obtain ⟨au, capu, rfl, hum, huc⟩ := hu.shape
  have hqk := Hok.out.qs q hq
  simp only at hqk
  obtain ⟨ops, hops⟩ : ∃ x, x = qs.getD q [] := ⟨_, rfl⟩
  rw [← hops] at q0 hum huc hu hqk
  have Hops := Lib.hid hops
  have Hu := Lib.hid hu
  have Hqk := Lib.hid hqk
  clear hu hqk hops
  refine wp_region_T (fun w' => w'.cell? ⟨bq, 0, none⟩ = some (.slice (some ⟨g, off, none⟩) qs.length capv) ∧ w'.cell? ⟨w.heap.size, 1, none⟩ = some (.int .i64 (q : Int)) ∧ w'.cell? ⟨g, off + q, none⟩ = some (.slice au ops.length capu)) 9 (by kernel_rfl) ?_
  intro wd hwd
  have hcd : Chg [] wa wd := by rw [hwd]; exact (Chg.refl _ _).drew
  have hSW := And.intro ((hcd.cell (lt_of_cell v1) (by simp)).trans v1) (And.intro ((hcd.cell (lt_of_cell e1) (by simp)).trans e1) ((hcd.cell (lt_of_cell q0) (by simp)).trans q0))
  have hbg : wd.heap[w.heap.size + 1]? = some (.cells #[.func (.func fn) #[] gcaps] 109 (0, 0)) := (hcd.block _ (by omega) (by simp)).trans Hb.out.1
  have hnr : ¬ RO' (w.heap.size + 1) := fun h => by have := Fam.out.ro HI.out _ h; omega
  have Hnr2 := Lib.hid (show ¬ RO' (w.heap.size + 2) from fun h => by have := Fam.out.ro HI.out _ h; omega)
  have hI1 := Fam.out.keep HIa.out (hcd.p (S := fun k => (F k ∨ (w.heap.size ≤ k ∧ k < wa.heap.size)) ∧ ¬ RO' k))
  have hI2 : I (fun g => (F g ∨ g = w.heap.size + 2 ∨ g = w.heap.size) ∨ g = w.heap.size + 1) s wd := Fam.out.anti hI1 fun k hk => by
    rcases hk with (hk | rfl | rfl) | rfl
    · exact Or.inl (Or.inl hk)
    · exact Or.inl (Or.inr ⟨by omega, by omega⟩)
    · exact Or.inl (Or.inr ⟨by omega, by omega⟩)
    · exact Or.inl (Or.inr ⟨by omega, by omega⟩)
  have hrun := run_any 52 #[] #[.pointer (some ⟨w.heap.size + 1, 0, none⟩)] _ _ _ _ inp (q : Int) (getq_fam Fam.out (w.heap.size + 1) (fun _ h => h)) ops Hqk.out RO (fun g => F g ∨ g = w.heap.size + 2 ∨ g = w.heap.size) s wd _ ⟨hI2, hbg, hnr⟩ (Hu.out.kept (hcd.p (S := fun _ => False)) (fun _ _ h => h)) (fun k hk => Or.inr (Or.inl (HRO.out k hk))) (fun k hk => by
    rcases hk with hk | rfl
    · exact Nat.lt_of_lt_of_le (Fam.out.ro HI.out _ hk) (Hca.out.trans hcd).size
    · exact lt_of_obj hbg)
  have Hrun := Lib.hid hrun
  have Hcd := Lib.hid (Hca.out.trans hcd)
  have Hrb := Lib.hid ((hcd.block _ (lt_of_obj Hb.out.2.2) (by simp)).trans Hb.out.2.2)
  have lx : w.heap.size < wd.heap.size := by have := hcd.size; omega
  have lg : g < wd.heap.size := lt_of_cell hSW.2.2
  have lq' : bq < wd.heap.size := lt_of_cell hSW.1
  have hmf : ∀ (fn : Fn) (first cap : Array Value) (w : World), (Instr.makeFunc fn first cap).run Try.prog w = .ok (.func fn first cap) w := fun _ _ _ _ => rfl
  clear hwd hcd hbg hnr hI1 hI2 hrun v0 v1 e0 e1 e2 q0 lv lq hq2 hq3
  refine anyT_take (i := 0) (v := .slice (some ⟨g, off, none⟩) qs.length capv) rfl (by kernel_rfl) (fun _ _ _ h => h) (Or.inl ⟨by rfl, fun w' hS => by go_simp⟩) hSW ?_
  simp only [Act.put, List.setIfInBounds_toArray, List.set_cons_zero, List.set_cons_succ]
  refine anyT_pure (i := 1) (v := .pointer (some ⟨w.heap.size, 1, none⟩)) rfl (by kernel_rfl) (fun _ _ _ h => h) (Or.inl ⟨by rfl, fun w' hS => by go_simp⟩) hSW ?_
  simp only [Act.put, List.setIfInBounds_toArray, List.set_cons_zero, List.set_cons_succ]
  refine anyT_take (i := 2) (v := .int .i64 (q : Int)) rfl (by kernel_rfl) (fun _ _ _ h => h) (Or.inl ⟨by rfl, fun w' hS => by go_simp⟩) hSW ?_
  simp only [Act.put, List.setIfInBounds_toArray, List.set_cons_zero, List.set_cons_succ]
  refine anyT_pure (i := 3) (v := .pointer (some ⟨g, off + q, none⟩)) rfl (by kernel_rfl) (fun _ _ _ h => h) (Or.inl ⟨by rfl, fun w' hS => by go_simp⟩) hSW ?_
  simp only [Act.put, List.setIfInBounds_toArray, List.set_cons_zero, List.set_cons_succ]
  refine anyT_take (i := 4) (v := .slice au ops.length capu) rfl (by kernel_rfl) (fun _ _ _ h => h) (Or.inl ⟨by rfl, fun w' hS => by go_simp⟩) hSW ?_
  simp only [Act.put, List.setIfInBounds_toArray, List.set_cons_zero, List.set_cons_succ]
  refine anyT_pure (i := 5) (v := .pointer (some ⟨w.heap.size, 1, none⟩)) rfl (by kernel_rfl) (fun _ _ _ h => h) (Or.inl ⟨by rfl, fun w' hS => by go_simp⟩) hSW ?_
  simp only [Act.put, List.setIfInBounds_toArray, List.set_cons_zero, List.set_cons_succ]
  refine anyT_take (i := 6) (v := .int .i64 (q : Int)) rfl (by kernel_rfl) (fun _ _ _ h => h) (Or.inl ⟨by rfl, fun w' hS => by go_simp⟩) hSW ?_
  simp only [Act.put, List.setIfInBounds_toArray, List.set_cons_zero, List.set_cons_succ]
  refine anyT_pure (i := 7) (v := .func (.func 52) #[] #[.pointer (some ⟨w.heap.size + 1, 0, none⟩)]) rfl (by kernel_rfl) (fun _ _ _ h => h) (Or.inl ⟨by rfl, fun w' hS => by go_simp⟩) hSW ?_
  simp only [Act.put, List.setIfInBounds_toArray, List.set_cons_zero, List.set_cons_succ]
  refine anyT_one (k := 8) (by kernel_rfl) rfl (fun K hK => ?_)
  go_simp
  refine Hrun.out.mono ?_
  intro e w6 hpost
  rcases hr : runR (gmap G) (q : Int) ops s with ⟨_ | _, s'⟩
  · rename_i x
    unfold RunPost at hpost
    rw [hr] at hpost
    obtain ⟨rfl, hI6, hc6⟩ := hpost
    refine ⟨rfl, ?_⟩
    have hC : compQ qs (1, (q : Int), 0) G s = (.error x, s') := by
      unfold compQ
      simp only [Int.toNat_natCast]
      rw [← Hops.out, hr]
    unfold CPost
    rw [hC]
    exact ⟨rfl, Fam.out.anti hI6.1 fun k h => Or.inl (Or.inl h), (Hcd.out.p (S := fun k => ¬ F k ∧ ¬ RO' k)).comp hc6 fun k hk => Or.inl ⟨fun h => hk.1 (Or.inl h), fun h => hk.2 (Or.inl h)⟩⟩
  · rename_i n
    unfold RunPost at hpost
    rw [hr] at hpost
    obtain ⟨⟨rfl, hsm⟩, hI6, hc6⟩ := hpost
    have hC : compQ qs (1, (q : Int), 0) G s = (.ok [n], s') := by
      unfold compQ
      simp only [Int.toNat_natCast]
      rw [← Hops.out, hr]
    have hrb := (hc6.block _ (lt_of_obj Hrb.out) (fun h => h.1 (Or.inr (Or.inl rfl)))).trans Hrb.out
    have Hrb6 := Lib.hid hrb
    have HC := Lib.hid hC
    have HI6 := Lib.hid hI6.1
    have Hc6 := Lib.hid hc6
    have c0 : w6.cell? ⟨w.heap.size + 1 + 1, 0, none⟩ = some (.slice none 0 0) := cell_of_heap hrb (i := 0) rfl
    have c1 : w6.cell? ⟨w.heap.size + 1 + 1, 1, none⟩ = some (.string ⟨#[]⟩) := cell_of_heap hrb (i := 1) rfl
    have f0 : w6.frozen? ⟨w.heap.size + 1 + 1, 0, none⟩ = false := frozen_of_heap (i := 0) hrb
    have f1 : w6.frozen? ⟨w.heap.size + 1 + 1, 1, none⟩ = false := frozen_of_heap (i := 1) hrb
    have lr : w.heap.size + 1 + 1 < w6.heap.size := lt_of_obj hrb
    have lr1 : w.heap.size + 1 + 1 < w6.heap.size + 1 := by omega
    have hS6 := And.intro ((hc6.cell (lt_of_cell hSW.1) (fun h => h.2 (Or.inl (HRO.out _ Hm.out.rbq)))).trans hSW.1) (And.intro ((hc6.cell (lt_of_cell hSW.2.1) (fun h => h.1 (Or.inr (Or.inr rfl)))).trans hSW.2.1) ((hc6.cell (lt_of_cell hSW.2.2) (fun h => h.2 (Or.inl (HRO.out _ hg)))).trans hSW.2.2))
    clear hrb hC hI6 hc6 hSW lx lg lq'
    refine hK _ _ (fun _ => hS6) ?_
    clear hK K hS6
    refine anyT_one (k := 9) (by kernel_rfl) rfl (fun K hK => ?_)
    go_simp
    refine hK _ _ (fun h => by simp at h) ?_
    clear hK K
    refine anyT_done (by kernel_rfl) ?_
    go_wp2_with fail
    obtain ⟨w7, hw7⟩ : ∃ x, x = ((w6.setCell ⟨w.heap.size + 1 + 1, 0, none⟩ (.slice (some ⟨w6.heap.size, 0, none⟩) 1 1)).setCell ⟨w.heap.size + 1 + 1, 1, none⟩ (.string ⟨#[]⟩)).alloc (.cells #[.int .i64 n] 3) := ⟨_, rfl⟩
    have hch : ChgP (fun k => k = w.heap.size + 2) w6 w7 := by
      rw [hw7]
      exact (((ChgP.refl (fun k => k = w.heap.size + 2) w6).setCell (p := ⟨w.heap.size + 1 + 1, 0, none⟩) (Or.inl rfl) _).setCell (p := ⟨w.heap.size + 1 + 1, 1, none⟩) (Or.inl rfl) _).alloc _
    have hrow : w7.heap[w6.heap.size]? = some (.cells #[.int .i64 n] 3 (0, 0)) := by
      rw [hw7]
      exact heap_at _ _ _ (by simp [World.setCell])
    have hres : w7.heap[w.heap.size + 2]? = some (.cells #[.slice (some ⟨w6.heap.size, 0, none⟩) 1 1, .string ⟨#[]⟩] 39 (0, 0)) := by
      rw [hw7]
      refine (heap_past _ _ _ (by simp [World.setCell]; omega)).trans ?_
      exact (heap_setCell_same (heap_setCell_same Hrb6.out _) _).trans rfl
    rw [← hw7]
    have d0 : w7.cell? ⟨w.heap.size + 1 + 1, 0, none⟩ = some (.slice (some ⟨w6.heap.size, 0, none⟩) 1 1) := cell_of_heap hres (i := 0) rfl
    have d1 : w7.cell? ⟨w.heap.size + 1 + 1, 1, none⟩ = some (.string ⟨#[]⟩) := cell_of_heap hres (i := 1) rfl
    have Hch := Lib.hid hch
    have Hrow := Lib.hid hrow
    clear hw7 hch hrow hres c0 c1 f0 f1
    refine bodyPost_ret (v := .agg #[.slice (some ⟨w6.heap.size, 0, none⟩) 1 1, .string ⟨#[]⟩]) (by simp [results, Try.results50, go_sem, d0, d1]) rfl ?_
    unfold CPost
    rw [HC.out]
    refine ⟨⟨_, _, rfl, Or.inr ⟨w6.heap.size, 0, 1, #[.int .i64 n], (0, 0), rfl, by simp, by unfold maxLen; omega, Hrow.out, by simp⟩, by simp⟩, ?_, ?_⟩
    · exact Fam.out.anti (Fam.out.keep HI6.out (Hch.out.mono (T := fun k => ((F k ∨ k = w.heap.size + 2 ∨ k = w.heap.size) ∨ k = w.heap.size + 1) ∧ ¬ RO' k) fun k hk => ⟨Or.inl (Or.inr (Or.inl hk)), hk ▸ Hnr2.out⟩)) fun k hk => Or.inl (Or.inl (Or.inl hk))
    · exact (((Hcd.out.p (S := fun k => ¬ F k ∧ ¬ RO' k)).comp Hc6.out fun k hk => Or.inl ⟨fun h => hk.1 (Or.inl h), fun h => hk.2 (Or.inl h)⟩)).comp Hch.out fun k hk => Or.inr (by omega)
end Go.Proofs.Ytggiddhhbilcjaa
