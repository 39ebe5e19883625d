/- Cached, Trim, evict.Get over a database under a script: which keys are cached, in which order. -/
import Derived.Test.YtdeodcomlakpaaaGn
import Derived.Test.YtdeodcomlakpaaaNx
namespace Go.Proofs.Ytdeodcomlakpaaa
open Go.RowKit Go.ChangeMaps Go.MapKept
set_option linter.unusedVariables false
set_option linter.unusedSimpArgs false
/-! ### plain -/
theorem sorted_eq {α : Type} (f : α → Int) : ∀ (l1 l2 : List α), l1.Perm l2 → l1.Pairwise (fun x y => f x ≤ f y) → l2.Pairwise (fun x y => f x ≤ f y) → (∀ x ∈ l1, ∀ y ∈ l1, f x = f y → x = y) → l1 = l2 := by
  intro l1
  induction l1 with
  | nil => intro l2 h _ _ _; exact h.nil_eq
  | cons a r ih =>
    intro l2 h h1 h2 hi
    cases l2 with
    | nil => exact absurd h.symm.nil_eq (by simp)
    | cons b s =>
      have ha : a ∈ b :: s := h.mem_iff.1 (by simp)
      have hb : b ∈ a :: r := h.mem_iff.2 (by simp)
      rw [List.pairwise_cons] at h1 h2
      have e : a = b := by
        rcases List.mem_cons.1 ha with e | ha
        · exact e
        · rcases List.mem_cons.1 hb with e | hb'
          · exact e.symm
          · have := h1.1 b hb'
            have := h2.1 a ha
            exact hi a (by simp) b hb (by omega)
      subst e
      rw [ih s ((List.perm_cons a).1 h) h1.2 h2.2 fun x hx y hy => hi x (by simp [hx]) y (by simp [hy])]
theorem filter_drop (l : List QK) (n : Nat) (h : l.Nodup) : l.filter (fun x => decide (x ∉ l.take n)) = l.drop n := by
  have e : l = l.take n ++ l.drop n := (List.take_append_drop n l).symm
  have hd : (l.take n ++ l.drop n).Nodup := by rw [← e]; exact h
  rw [List.nodup_append] at hd
  conv => lhs; arg 2; rw [e]
  rw [List.filter_append, List.filter_eq_nil_iff.2 (fun x hx => by simp [hx]), List.nil_append]
  exact List.filter_eq_self.2 fun x hx => by
    simp only [decide_eq_true_eq]
    exact fun hx' => hd.2.2 x hx' x hx rfl
def useP (s : PS) (k : QK) : Int := ((aget s.es k).map RV.use).getD 0
theorem useOf_pl (d : Dm) (k : QK) : useOf d k = useP d.pl k := by
  unfold useOf useP
  rw [Dm.aget_pl]
  cases aget d.es k <;> rfl
/-- the cached keys, least recently used first -/
structure IsC (s : PS) (ks : List QK) : Prop where
  perm : ks.Perm (s.es.map (·.1))
  sort : ks.Pairwise (fun x y => useP s x ≤ useP s y)
theorem IsC.of {d : Dm} {ks : List QK} (h1 : ks.Perm (d.es.map (·.1))) (h2 : ks.Pairwise (fun x y => useOf d x ≤ useOf d y)) : IsC d.pl ks :=
  ⟨by
    have e : d.pl.es.map (·.1) = d.es.map (·.1) := by show (amap Rs.pl d.es).map (·.1) = _; simp [amap]
    rw [e]; exact h1, h2.imp fun h => by rw [useOf_pl, useOf_pl] at h; exact h⟩
theorem mem_keys {s : PS} {k : QK} (h : k ∈ s.es.map (·.1)) : ∃ r, aget s.es k = some r := by
  obtain ⟨q, hq, rfl⟩ := List.mem_map.1 h
  cases hr : aget s.es q.1 with
  | none => exact absurd rfl (aget_none hr q hq)
  | some r => exact ⟨r, rfl⟩
theorem IsC.inj {s : PS} (hu : Us s) {ks : List QK} (h : IsC s ks) : ∀ x ∈ ks, ∀ y ∈ ks, useP s x = useP s y → x = y := by
  intro x hx y hy e
  obtain ⟨r, hr⟩ := mem_keys (h.perm.mem_iff.1 hx)
  obtain ⟨r', hr'⟩ := mem_keys (h.perm.mem_iff.1 hy)
  unfold useP at e
  rw [hr, hr'] at e
  exact hu.inj x y r r' hr hr' e
theorem IsC.unique {s : PS} (hu : Us s) {ks ks' : List QK} (h : IsC s ks) (h' : IsC s ks') : ks = ks' :=
  sorted_eq (useP s) ks ks' (h.perm.trans h'.perm.symm) h.sort h'.sort (h.inj hu)
theorem forgetAll_keys (zs : List QK) : ∀ s : PS, (forgetAll s zs).es.map (·.1) = (s.es.map (·.1)).filter fun x => decide (x ∉ zs) := by
  induction zs with
  | nil => intro s; exact (List.filter_eq_self.2 (by simp)).symm
  | cons z r ih =>
    intro s
    show (forgetAll (forgetP s z) r).es.map (·.1) = _
    rw [ih]
    unfold forgetP adel
    simp only
    generalize s.es = es
    induction es with
    | nil => rfl
    | cons p es ih2 =>
      by_cases hp : p.1 = z
      · simp [List.filter_cons, hp] at ih2 ⊢
        exact ih2
      · by_cases hr : p.1 ∈ r
        · simp [List.filter_cons, hp, hr] at ih2 ⊢
          exact ih2
        · simp [List.filter_cons, hp, hr] at ih2 ⊢
          exact ih2
theorem IsC.drop {s : PS} (hn : (s.es.map (·.1)).Nodup) {ks : List QK} (h : IsC s ks) (n : Nat) : IsC (forgetAll s (ks.take n)) (ks.drop n) := by
  have hkn : ks.Nodup := h.perm.nodup_iff.2 hn
  refine ⟨?_, ?_⟩
  · rw [forgetAll_keys, ← filter_drop ks n hkn]
    exact h.perm.filter _
  · have h2 := h.sort.sublist (List.drop_sublist n ks)
    have e : ks = ks.take n ++ ks.drop n := (List.take_append_drop n ks).symm
    have hd : (ks.take n ++ ks.drop n).Nodup := by rw [← e]; exact hkn
    rw [List.nodup_append] at hd
    have hu : ∀ x ∈ ks.drop n, useP (forgetAll s (ks.take n)) x = useP s x := fun x hx => by
      unfold useP
      rw [forgetAll_es, if_neg fun hx' => hd.2.2 x hx' x hx rfl]
    refine List.Pairwise.imp_of_mem (fun {x y} hx hy hxy => ?_) h2
    rw [hu x hx, hu y hy]
    exact hxy
/-! ### the calls -/
variable {p : Prg} {wb : World} {b gi n q : Nat} {w : World} {d : Dm} {ins : List Int}
def CachedPostR (d : Dm) (w : World) (e : Ending) (w' : World) : Prop :=
  ∃ v ks, e = .returned v ∧ I3s (fun g => w.heap.size ≤ g ∧ g < w'.heap.size) w' v ks ∧ IsC d.pl ks ∧ Chg [] w w' ∧ ks.length ≤ 80
theorem RunM.cached (hp : PrgOk p) (hM : RunM p wb b gi w d ins) (hR : RunP p n d.pl ins) (hn : n ≤ 1000) :
    Calls Try.prog 41 #[.pointer (some ⟨b, 0, none⟩)] w (CachedPostR d w) := by
  have hN := es_few hp hM.db.mem hM.db.inv
  refine (cached_any w b d hM.db.mem (by omega) (fun k r hr => qryKok ((hM.db.inv.es k r.pl (by rw [Dm.aget_pl, hr]; rfl)).1) hp.size) (hR.useB hn)).mono ?_
  rintro e w' ⟨v, ks, rfl, h1, h2, h3, h4⟩
  refine ⟨v, ks, rfl, h1, IsC.of h2 h3, h4, ?_⟩
  have := h2.length_eq
  rw [List.length_map] at this
  omega
theorem RunM.keys (hM : RunM p wb b gi w d ins) : (d.pl.es.map (·.1)).Nodup := by
  have e : d.pl.es.map (·.1) = d.es.map (·.1) := by show (amap Rs.pl d.es).map (·.1) = _; simp [amap]
  rw [e]; exact hM.db.mem.keys
def TrimPostR (p : Prg) (wb : World) (b gi n : Nat) (c : Int) (w : World) (d : Dm) (ins : List Int) (e : Ending) (w' : World) : Prop :=
  ∃ (ks : List QK) (d' : Dm), IsC d.pl ks ∧ e = .returned (.int .i64 (trimN ks.length c)) ∧ RunM p wb b gi w' d' ins ∧ RunP p n d'.pl ins ∧ After b w w' d d' ∧ IsC d'.pl (ks.drop (trimN ks.length c).toNat) ∧ ks.length ≤ 80
theorem RunM.trim (hp : PrgOk p) (hM : RunM p wb b gi w d ins) (hR : RunP p n d.pl ins) (hn : n ≤ 1000) (c : Int) (hc0 : 0 ≤ c) (hc1 : c ≤ 1000) :
    Calls Try.prog 42 #[.pointer (some ⟨b, 0, none⟩), .int .i64 c] w (TrimPostR p wb b gi n c w d ins) := by
  have hN := es_few hp hM.db.mem hM.db.inv
  refine (trim_any hp hM.db (by omega) (hR.useB hn) c hc0 hc1).mono ?_
  rintro e w' ⟨ks, d', h1, h2, rfl, h3, h4, h5⟩
  have hl : ks.length ≤ 80 := by
    have := h1.length_eq
    rw [List.length_map] at this
    omega
  exact ⟨ks, d', IsC.of h1 h2, rfl, hM.after h3 h4, by rw [h5]; exact hR.forgetAll _, h4, by rw [h5]; exact (IsC.of h1 h2).drop hM.keys _, hl⟩
/-- evict.Get -/
def EGetPost (p : Prg) (wb : World) (b gi n q : Nat) (c : Int) (w : World) (d : Dm) (ins : List Int) (e : Ending) (w' : World) : Prop :=
  ∃ d' a c' ks, e = .returned (.tuple #[.agg #[.slice a 1 c', .string ⟨#[]⟩], .int .i64 0]) ∧ Inp.Ints w' (.slice a 1 c') [val p ins q] ∧ RunM p wb b gi w' d' ins ∧ RunP p (n + 1) d'.pl ins ∧ After b w w' d d' ∧ IsC d'.pl ks ∧ (ks.length : Int) ≤ c
set_option maxRecDepth 100000 in
set_option maxHeartbeats 4000000 in
theorem evictGet_any (hp : PrgOk p) (hM : RunM p wb b gi w d ins) (hR : RunP p n d.pl ins) (hn : n ≤ 900) (hq : q < p.qs.length) (c : Int) (hc0 : 0 ≤ c) (hc1 : c ≤ 1000) :
    Calls Try.prog 44 #[.pointer (some ⟨b, 0, none⟩), i3v (1, (q : Int), 0), .int .i64 c] w (EGetPost p wb b gi n q c w d ins) := by
  have HM := Lib.hid hM
  have HR := Lib.hid hR
  have hlt := hM.lt
  clear hM hR
  unfold i3v
  obtain ⟨wa, hwa⟩ : ∃ x, x = (w.alloc (.cells #[.int .i64 1, .int .i64 (q : Int), .int .i64 0] 27)).alloc (.cells #[.slice none 0 0, .string ⟨#[]⟩] 31) := ⟨_, rfl⟩
  have hca : Chg [] w wa := by rw [hwa]; exact ((Chg.refl [] w).alloc _).alloc _
  have hvb : wa.heap[w.heap.size + 1]? = some (.cells #[.slice none 0 0, .string ⟨#[]⟩] 31 (0, 0)) := by rw [hwa]; exact heap_at _ _ _ (by simp)
  have hnm : w.heap.size + 1 ∉ d.muts b ∧ w.heap.size + 1 ∉ d.imms := ⟨fun hm => by have := HM.out.db.mem.lt _ hm; omega, fun hm => by have := HM.out.db.mem.bound _ hm; omega⟩
  have HMa := Lib.hid (HM.out.new hca)
  have HBa := Lib.hid (show Box b wa d (w.heap.size + 1) _ from ⟨hvb, hnm.1⟩)
  have Hca := Lib.hid hca
  have Hnm := Lib.hid hnm
  have Hlt := Lib.hid hlt
  clear hca hvb hnm hlt
  go_enter Try.func44, Try.ntmps44
  go_wp2_with fail
  rw [← hwa]
  clear hwa
  refine (HMa.out.get hp HR.out (by omega) hq).mono ?_
  rintro e w1 ⟨d1, a1, c1, r1, rfl, hi1, hM1, hR1, hf1, ha1⟩
  obtain ⟨w2, hw2⟩ : ∃ x, x = w1.alloc (.cells #[.slice a1 1 c1, .string ⟨#[]⟩] 31) := ⟨_, rfl⟩
  have c2 : Chg [] w1 w2 := by rw [hw2]; exact (Chg.refl [] w1).alloc _
  have HV2 := Lib.hid (show Box b w2 d1 w1.heap.size (.cells #[.slice a1 1 c1, .string ⟨#[]⟩] 31 (0, 0)) by rw [hw2]; exact Box.make hM1.db.mem _ _)
  have HM2 := Lib.hid (hM1.new c2)
  have HR2 := Lib.hid hR1
  have HB2 := Lib.hid ((HBa.out.after ha1).new c2)
  have Hi2 := Lib.hid (hi1.same c2)
  have Ha2 := Lib.hid (ha1.new c2)
  clear hi1 hM1 hR1 hf1 ha1 c2
  go_wp2_with fail
  rw [← hw2]
  clear hw2
  refine (HM2.out.trim hp HR2.out (by omega) c hc0 hc1).mono ?_
  rintro e w3 ⟨ks, d3, hk3, rfl, hM3, hR3, ha3, hk3', hl3⟩
  have hv3 := HV2.out.after ha3
  have hb3 := HB2.out.after ha3
  have v0 : w3.cell? ⟨w1.heap.size, 0, none⟩ = some (.slice a1 1 c1) := cell_of_heap hv3.blk rfl
  have v1 : w3.cell? ⟨w1.heap.size, 1, none⟩ = some (.string ⟨#[]⟩) := cell_of_heap hv3.blk rfl
  have z0 := cell_of_heap hb3.blk (i := 0) rfl
  have z1 := cell_of_heap hb3.blk (i := 1) rfl
  have y0 := frozen_of_heap hb3.blk (i := 0)
  have y1 := frozen_of_heap hb3.blk (i := 1)
  have HM3 := Lib.hid hM3
  have HR3 := Lib.hid hR3
  have HB3 := Lib.hid hb3
  have Ha3 := Lib.hid (Ha2.out.trans ha3)
  have Hk3 := Lib.hid hk3'
  have Hi3 := Lib.hid (ha3.ints HM2.out.db.mem Hi2.out)
  have Hl3 := Lib.hid hl3
  clear hk3 hM3 hR3 ha3 hk3' hv3 hb3 hl3
  go_wp2_with fail
  have hcv : ∀ x y, ChgP (fun g => g = w.heap.size + 1) w3 ((w3.setCell ⟨w.heap.size + 1, 0, none⟩ x).setCell ⟨w.heap.size + 1, 1, none⟩ y) := fun x y => ((ChgP.refl (fun g => g = w.heap.size + 1) w3).setCell (p := ⟨w.heap.size + 1, 0, none⟩) (Or.inl rfl) _).setCell (p := ⟨w.heap.size + 1, 1, none⟩) (Or.inl rfl) _
  have hz := Hca.out.size
  have hwz : wa.heap.size = w.heap.size + 2 ∨ w.heap.size + 2 ≤ wa.heap.size := Or.inr (by have := lt_of_obj HBa.out.blk; omega)
  have ni : w.heap.size + 1 ∉ d3.imms := fun hm => by
    have hz2 := lt_of_obj HBa.out.blk
    exact (Ha3.out.imms _ hm).elim Hnm.out.2 fun h => by omega
  have hM4 := fun x y => HM3.out.side (hcv x y) HB3.out.off ni (by have := Hlt.out; omega)
  refine bodyPost_ret (v := .tuple #[.agg #[.slice a1 1 c1, .string ⟨#[]⟩], .int .i64 0]) (by simp [results, Try.results44, go_sem, v0, v1, z0, z1, y0, y1]) rfl ⟨d3, a1, c1, _, rfl, ?_, hM4 _ _, HR3.out, ⟨(hM4 _ _).db.mem, ((Hca.out.p (S := fun g => g ∈ d.muts b)).trans Ha3.out.chg).comp (hcv _ _) fun g hg => Or.inr (by omega), fun g hg => (Ha3.out.muts g hg).imp id fun h => by omega, fun g hg => (Ha3.out.imms g hg).imp id fun h => by omega, Ha3.out.comp, Ha3.out.stop⟩, Hk3.out, ?_⟩
  · refine Inp.Ints.kept Hi3.out (((Chg.refl [w.heap.size + 1] w3).setCell (Or.inl (by simp)) _).setCell (Or.inl (by simp)) _) fun k hk => ?_
    obtain rfl : k = w.heap.size + 1 := by simpa using hk
    intro c' fr hh
    exact absurd (HB3.out.blk.symm.trans hh) (by simp)
  · rw [List.length_drop]
    unfold trimN
    omega
end Go.Proofs.Ytdeodcomlakpaaa
