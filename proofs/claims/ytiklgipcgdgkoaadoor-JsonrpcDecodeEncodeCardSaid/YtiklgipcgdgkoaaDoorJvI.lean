/- JSON values: Equal, Lookup. -/
import Derived.Test.YtiklgipcgdgkoaaDoorJvH
namespace Go.Proofs.YtiklgipcgdgkoaaDoor.Jv
open Go.RowKit Go.ChangeMaps Go.MapKept
set_option linter.unusedVariables false
set_option linter.unusedSimpArgs false
set_option maxRecDepth 100000 in
set_option maxHeartbeats 4000000 in
theorem Equal_any (p q : Nat → Prop) (f fb : Nat) (w : World) (A B : J) (va vb : Value) (ha : JV p f w va A) (hb : JV q fb w vb B) (hp : ∀ g, p g → g < w.heap.size) (hq : ∀ g, q g → g < w.heap.size) (hT : Tb w) :
    Calls Tryd.prog 14 #[va, vb] w (EqPost (A.equal u8 B) w) := by
  obtain ⟨ea, rfl⟩ := ha.ev'
  obtain ⟨eb, rfl⟩ := hb.ev'
  unfold Ev.val at *
  obtain ⟨w2, hw2⟩ : ∃ x, x = ((w.alloc (.cells #[.int .i64 ea.k, .int .i64 ea.n, .string ea.t, .slice ea.na ea.nl ea.nc, .slice ea.ia ea.il ea.ic] 25)).alloc (.cells #[.int .i64 eb.k, .int .i64 eb.n, .string eb.t, .slice eb.na eb.nl eb.nc, .slice eb.ia eb.il eb.ic] 25)) := ⟨_, rfl⟩
  have hc2 : Chg [] w w2 := by rw [hw2]; exact ((Chg.refl [] w).alloc _).alloc _
  obtain ⟨b, hbw⟩ : ∃ b, b = w.heap.size := ⟨_, rfl⟩
  have hb2 : w2.heap[b]? = some (.cells #[.int .i64 ea.k, .int .i64 ea.n, .string ea.t, .slice ea.na ea.nl ea.nc, .slice ea.ia ea.il ea.ic] 25 (0, 0)) := by
    rw [hw2, hbw, heap_past _ _ _ (by simp)]
    exact heap_at _ _ _ rfl
  have hd2 : w2.heap[b + 1]? = some (.cells #[.int .i64 eb.k, .int .i64 eb.n, .string eb.t, .slice eb.na eb.nl eb.nc, .slice eb.ia eb.il eb.ic] 25 (0, 0)) := by
    rw [hw2, hbw]
    exact heap_at _ _ _ (by simp)
  obtain ⟨b0, b1, b2, b3, b4⟩ := box_kept b hb2 (Chg.refl [] w2)
  obtain ⟨d0, d1, d2, d3, d4⟩ := box_kept (b + 1) hd2 (Chg.refl [] w2)
  have ld := lt_of_cell d0
  have lb := lt_of_cell b0
  have Ha := Lib.hid ha
  have Hb := Lib.hid hb
  have Hbb := Lib.hid (And.intro hb2 hd2)
  have Hc2 := Lib.hid hc2
  have HT := Lib.hid hT
  have Hp := Lib.hid (And.intro hp hq)
  have Hva := Lib.hid (fun W (hW : Chg [] w W) => Validate_any p f W A _ (Ha.out.kept (S := fun _ => False) hW.p (fun _ _ h => h)) (HT.out.new hW) (fun g hg => Nat.lt_of_lt_of_le (Hp.out.1 g hg) hW.size))
  have Hvb := Lib.hid (fun W (hW : Chg [] w W) => Validate_any q fb W B _ (Hb.out.kept (S := fun _ => False) hW.p (fun _ _ h => h)) (HT.out.new hW) (fun g hg => Nat.lt_of_lt_of_le (Hp.out.2 g hg) hW.size))
  have Heq := Lib.hid (fun W (hW : Chg [] w W) (hv : B.vd u8 = 0) => equal_any p q f fb W A B _ _ (Ha.out.kept (S := fun _ => False) hW.p (fun _ _ h => h)) (Hb.out.kept (S := fun _ => False) hW.p (fun _ _ h => h)) hv)
  have HR : Hid (A.equal u8 B = (decide (A.valid u8 = 0) && decide (B.valid u8 = 0) && A.eq B)) := Lib.hid rfl
  have HV := Lib.hid (fun h : B.valid u8 = 0 => (valid_parts h).2.2)
  obtain ⟨x, hx⟩ : ∃ x, x = A.valid u8 := ⟨_, rfl⟩
  obtain ⟨y, hy⟩ : ∃ y, y = B.valid u8 := ⟨_, rfl⟩
  rw [← hx] at Hva HR
  rw [← hy] at Hvb HR HV
  clear ha hb hb2 hd2 hc2 hT hp hq hx hy
  go_enter Tryd.func14, Tryd.ntmps14
  go_upto_region 1 with fail
  rw [← hw2, ← hbw]
  clear hw2 hbw
  go_wp2_with fail
  refine (Hva.out w2 Hc2.out).mono ?_
  rintro e w3 ⟨rfl, hc3⟩
  obtain ⟨b0, b1, b2, b3, b4⟩ := box_kept b Hbb.out.1 hc3
  obtain ⟨d0, d1, d2, d3, d4⟩ := box_kept (b + 1) Hbb.out.2 hc3
  have Hc3 := Lib.hid (Hc2.out.trans hc3)
  have Hc3' := Lib.hid hc3
  clear hc3
  by_cases hx : x = 0
  · subst hx
    go_wp2_with fail
    refine (Hvb.out w3 Hc3.out).mono ?_
    rintro e w4 ⟨rfl, hc4⟩
    obtain ⟨b0, b1, b2, b3, b4⟩ := box_kept b Hbb.out.1 (Hc3'.out.trans hc4)
    obtain ⟨d0, d1, d2, d3, d4⟩ := box_kept (b + 1) Hbb.out.2 (Hc3'.out.trans hc4)
    have Hc4 := Lib.hid (Hc3.out.trans hc4)
    clear hc4
    by_cases hy : y = 0
    · subst hy
      go_wp2_with fail
      refine (Heq.out w4 Hc4.out (HV.out (by first | trivial | rfl))).mono ?_
      rintro e w5 ⟨rfl, hc5⟩
      have Hc5 := Lib.hid (Hc4.out.trans hc5)
      clear hc5
      have He := Lib.hid (show A.equal u8 B = A.eq B by rw [HR.out]; simp)
      obtain ⟨r, hr⟩ : ∃ r, r = A.eq B := ⟨_, rfl⟩
      rw [← hr] at He ⊢
      clear hr
      cases r
      all_goals
        go_wp2_with fail
        go_ret
        exact ⟨by rw [He.out]; rfl, Hc5.out⟩
    · have h1 : (y == 0) = false := by simpa using hy
      have He := Lib.hid (show A.equal u8 B = false by rw [HR.out, decide_eq_false hy, Bool.and_false, Bool.false_and])
      clear hy
      go_wp2_with fail
      go_ret
      exact ⟨by rw [He.out]; rfl, Hc4.out⟩
  · have h1 : (x == 0) = false := by simpa using hx
    have He := Lib.hid (HR.out.trans (by rw [decide_eq_false hx, Bool.false_and, Bool.false_and]))
    clear hx
    go_wp2_with fail
    go_ret
    exact ⟨by rw [He.out]; rfl, Hc3.out⟩
/-! ### Lookup -/
/-- what Lookup finds in any value -/
def J.findG (j : J) (s : ByteArray) : Option J := if j.kind ≠ 5 then none else if j.names.findIdx (· = s) < j.names.length then j.elems[j.names.findIdx (· = s)]? else none
theorem findG_eq {j : J} (h : j.vd u8 = 0) (s : ByteArray) : j.findG s = j.find s := by
  obtain ⟨k, n, t, ns, es⟩ := j
  obtain ⟨h1, h2, h3⟩ := vd_zero.1 h
  by_cases hk : k = 5
  · subst hk
    have hl := (wf_obj h2).1
    have f1 : (J.mk 5 n t ns es).find s = es[ns.findIdx (· = s)]? := by unfold J.find; rw [if_neg (by simp [J.kind])]; rfl
    have f2 : (J.mk 5 n t ns es).findG s = if ns.findIdx (· = s) < ns.length then es[ns.findIdx (· = s)]? else none := by unfold J.findG; rw [if_neg (by simp [J.kind])]; rfl
    rw [f1, f2]
    by_cases hm : ns.findIdx (· = s) < ns.length
    · rw [if_pos hm]
    · rw [if_neg hm, List.getElem?_eq_none (by omega)]
  · have f1 : (J.mk k n t ns es).find s = none := by unfold J.find; rw [if_pos (by simpa [J.kind] using hk)]
    have f2 : (J.mk k n t ns es).findG s = none := by unfold J.findG; rw [if_pos (by simpa [J.kind] using hk)]
    rw [f1, f2]
def LkPost (c : Option J) (f : Nat) (w : World) (e : Ending) (w' : World) : Prop :=
  ∃ v', e = .returned (.tuple #[v', .bool c.isSome]) ∧ JN w.heap.size f w' v' (c.getD J.zero) ∧ Chg [] w w'
set_option maxRecDepth 100000 in
set_option maxHeartbeats 4000000 in
theorem LookupG_any (p : Nat → Prop) (f : Nat) (w : World) (j : J) (v : Value) (s : ByteArray) (hj : JV p f w v j) (hs : Bd j) :
    Calls Tryd.prog 56 #[v, .string s] w (LkPost (j.findG s) f w) := by
  obtain ⟨k, n, t, ns, es⟩ := j
  obtain ⟨na, nc, a, cap, rfl, hns, hes, ⟨hn1, hn2⟩, ⟨hl1, hl2⟩, hts⟩ := hj.shape
  simp only [J.kind, J.num, J.text, J.names, J.elems] at *
  unfold maxLen at hl2 hn2
  obtain ⟨w2, hw2⟩ : ∃ x, x = ((w.alloc (.cells #[.int .i64 k, .int .i64 n, .string t, .slice na ns.length nc, .slice a es.length cap] 25)).alloc (.cells #[.int .i64 0, .int .i64 0, .string ⟨#[]⟩, .slice none 0 0, .slice none 0 0] 25)) := ⟨_, rfl⟩
  have hc2 : Chg [] w w2 := by rw [hw2]; exact ((Chg.refl [] w).alloc _).alloc _
  obtain ⟨b, hbw⟩ : ∃ b, b = w.heap.size := ⟨_, rfl⟩
  have hb2 : w2.heap[b]? = some (.cells #[.int .i64 k, .int .i64 n, .string t, .slice na ns.length nc, .slice a es.length cap] 25 (0, 0)) := by
    rw [hw2, hbw, heap_past _ _ _ (by simp)]
    exact heap_at _ _ _ rfl
  have hr2 : w2.heap[b + 1]? = some (.cells #[.int .i64 0, .int .i64 0, .string ⟨#[]⟩, .slice none 0 0, .slice none 0 0] 25 (0, 0)) := by
    rw [hw2, hbw]
    exact heap_at _ _ _ (by simp)
  have hz2 : w2.heap.size = b + 2 := by rw [hw2, hbw]; simp
  obtain ⟨b0, b1, b2, b3, b4⟩ := box_kept b hb2 (Chg.refl [] w2)
  obtain ⟨r0, r1, r2, r3, r4⟩ := box_kept (b + 1) hr2 (Chg.refl [] w2)
  have lr := lt_of_cell r0
  have lb := lt_of_cell b0
  have fr := fun i => frozen_of_heap (i := i) hr2
  have Hes := Lib.hid hes
  have Hs := Lib.hid hs
  have Hbb := Lib.hid (And.intro hb2 (And.intro hr2 (And.intro hz2 hbw)))
  have Hc2 := Lib.hid hc2
  have Hix := Lib.hid (index_any p w2 _ ns s (strs_kept (S := fun _ => False) hns hc2.p (fun _ _ h => h)))
  have HF : Hid ((J.mk k n t ns es).findG s = if k ≠ 5 then none else if ns.findIdx (· = s) < ns.length then es[ns.findIdx (· = s)]? else none) := Lib.hid rfl
  obtain ⟨z, hz⟩ : ∃ z, z = ix ns s := ⟨_, rfl⟩
  rw [← hz] at Hix
  have Hz := Lib.hid hz
  clear hns hes hb2 hr2 hc2 hj hs hz hz2
  go_enter Tryd.func56, Tryd.ntmps56
  go_upto_region 1 with fail
  rw [← hw2, ← hbw]
  clear hw2 hbw
  go_wp2_with fail
  refine Hix.out.mono ?_
  rintro e w' ⟨rfl, rfl⟩
  obtain ⟨m, hm⟩ : ∃ m, m = ns.findIdx (· = s) := ⟨_, rfl⟩
  by_cases hk : k = 5
  · subst hk
    by_cases hml : m < ns.length
    · obtain rfl : z = (m : Nat) := by rw [Hz.out, hm]; exact ix_yes (by omega)
      by_cases hme : m < es.length
      case neg =>
        have hm1 : decide ((m : Int) < 0) = false := decide_eq_false (by omega)
        have hme2 : decide ((m : Int) ≥ es.length) = true := decide_eq_true (by omega)
        have hme3 : decide ((es.length : Int) ≤ m) = true := decide_eq_true (by omega)
        have hme4 : decide (es.length ≤ m) = true := decide_eq_true (by omega)
        have HF2 := Lib.hid (show (J.mk 5 n t ns es).findG s = none by rw [HF.out, if_neg (by simp), if_pos (by omega), ← hm]; exact List.getElem?_eq_none (by omega))
        clear hm hml HF
        go_wp2_with fail
        have hcs : Chg [b + 1] w' (((((w'.setCell ⟨b + 1, 0, none⟩ (.int .i64 0)).setCell ⟨b + 1, 1, none⟩ (.int .i64 0)).setCell ⟨b + 1, 2, none⟩ (.string ⟨#[]⟩)).setCell ⟨b + 1, 3, none⟩ (.slice none 0 0)).setCell ⟨b + 1, 4, none⟩ (.slice none 0 0)) :=
          (((((Chg.refl [b + 1] w').setCell (Or.inl (by simp)) _).setCell (Or.inl (by simp)) _).setCell (Or.inl (by simp)) _).setCell (Or.inl (by simp)) _).setCell (Or.inl (by simp)) _
        have hcw := Hc2.out.comp hcs fun g hg => Or.inr (by rw [List.mem_singleton.1 hg, Hbb.out.2.2.2]; omega)
        refine bodyPost_ret (v := .tuple #[.agg #[.int .i64 0, .int .i64 0, .string ⟨#[]⟩, .slice none 0 0, .slice none 0 0], .bool false]) (by simp [results, Tryd.results56, go_sem, r0, r1, r2, r3, r4]) rfl ?_
        exact ⟨_, by rw [HF2.out]; rfl, by rw [HF2.out]; exact JV.zero _ _ _, hcw⟩
      have hm0 : ¬ ((m : Int) < 0) := by omega
      have hm1 : decide ((m : Int) < 0) = false := decide_eq_false hm0
      have hme1 : (m : Int) < es.length := by omega
      have hme2 : decide ((es.length : Int) ≤ m) = false := decide_eq_false (by omega)
      have hme3 : decide (es.length ≤ m) = false := decide_eq_false (by omega)
      have HF2 := Lib.hid (show (J.mk 5 n t ns es).findG s = some es[m] by rw [HF.out, if_neg (by simp), if_pos (by omega), ← hm]; exact List.getElem?_eq_getElem hme)
      obtain ⟨g, off, na'', nc'', ia'', ic'', rfl, hpg, e0, e1, e2, e3, e4, f', rfl, hjv⟩ := elem_at Hes.out hme
      obtain ⟨el, hel⟩ : ∃ el, el = es[m] := ⟨_, rfl⟩
      rw [← hel] at e0 e1 e2 e3 e4 hjv HF2
      have hsm : Bd el := Hs.out.elem (hel ▸ List.getElem_mem hme)
      replace e0 := (Hc2.out.cell (lt_of_cell e0) (by simp)).trans e0
      replace e1 := (Hc2.out.cell (lt_of_cell e1) (by simp)).trans e1
      replace e2 := (Hc2.out.cell (lt_of_cell e2) (by simp)).trans e2
      replace e3 := (Hc2.out.cell (lt_of_cell e3) (by simp)).trans e3
      replace e4 := (Hc2.out.cell (lt_of_cell e4) (by simp)).trans e4
      have Hcl := Lib.hid (cloneG_any p f' w' el _ (hjv.kept (S := fun _ => False) Hc2.out.p (fun _ _ h => h)) hsm)
      clear hjv hel hpg hm hml hme hsm HF
      go_wp2_with fail
      refine Hcl.out.mono ?_
      rintro e w3 ⟨v3, rfl, hj3, hc3⟩
      obtain ⟨q5, rfl⟩ := hj3.ev'
      unfold Ev.val at hj3 ⊢
      have hr3 := (hc3.block _ (lt_of_obj Hbb.out.2.1) (by simp)).trans Hbb.out.2.1
      obtain ⟨r0, r1, r2, r3, r4⟩ := box_kept (b + 1) hr3 (Chg.refl [] w3)
      have lr := lt_of_cell r0
      have fr := fun i => frozen_of_heap (i := i) hr3
      have Hc3 := Lib.hid (Hc2.out.trans hc3)
      have Hj3 := Lib.hid hj3
      clear hj3 hc3 hr3
      go_wp2_with fail
      have hcs : Chg [b + 1] w3 (((((w3.setCell ⟨b + 1, 0, none⟩ (.int .i64 q5.k)).setCell ⟨b + 1, 1, none⟩ (.int .i64 q5.n)).setCell ⟨b + 1, 2, none⟩ (.string q5.t)).setCell ⟨b + 1, 3, none⟩ (.slice q5.na q5.nl q5.nc)).setCell ⟨b + 1, 4, none⟩ (.slice q5.ia q5.il q5.ic)) :=
        (((((Chg.refl [b + 1] w3).setCell (Or.inl (by simp)) _).setCell (Or.inl (by simp)) _).setCell (Or.inl (by simp)) _).setCell (Or.inl (by simp)) _).setCell (Or.inl (by simp)) _
      have hcw := Hc3.out.comp hcs fun g hg => Or.inr (by rw [List.mem_singleton.1 hg, Hbb.out.2.2.2]; omega)
      refine bodyPost_ret (v := .tuple #[.agg #[.int .i64 q5.k, .int .i64 q5.n, .string q5.t, .slice q5.na q5.nl q5.nc, .slice q5.ia q5.il q5.ic], .bool true]) (by simp [results, Tryd.results56, go_sem, r0, r1, r2, r3, r4]) rfl ?_
      have hzz := Hbb.out.2.2
      exact ⟨_, by rw [HF2.out]; rfl, by rw [HF2.out]; exact (Hj3.out.kept hcs.toP (fun g hg hm => by have := List.mem_singleton.1 hm; have := hg.1; omega)).imp fun g hg => ⟨by have := hg.1; omega, Nat.lt_of_lt_of_le hg.2 hcs.size⟩, hcw⟩
    · obtain rfl : z = -1 := by rw [Hz.out]; exact ix_no (by omega)
      have HF2 := Lib.hid (show (J.mk 5 n t ns es).findG s = none by rw [HF.out, if_neg (by simp), if_neg (by omega)])
      clear hm hml HF
      go_wp2_with fail
      have hcs : Chg [b + 1] w' (((((w'.setCell ⟨b + 1, 0, none⟩ (.int .i64 0)).setCell ⟨b + 1, 1, none⟩ (.int .i64 0)).setCell ⟨b + 1, 2, none⟩ (.string ⟨#[]⟩)).setCell ⟨b + 1, 3, none⟩ (.slice none 0 0)).setCell ⟨b + 1, 4, none⟩ (.slice none 0 0)) :=
        (((((Chg.refl [b + 1] w').setCell (Or.inl (by simp)) _).setCell (Or.inl (by simp)) _).setCell (Or.inl (by simp)) _).setCell (Or.inl (by simp)) _).setCell (Or.inl (by simp)) _
      have hcw := Hc2.out.comp hcs fun g hg => Or.inr (by rw [List.mem_singleton.1 hg, Hbb.out.2.2.2]; omega)
      refine bodyPost_ret (v := .tuple #[.agg #[.int .i64 0, .int .i64 0, .string ⟨#[]⟩, .slice none 0 0, .slice none 0 0], .bool false]) (by simp [results, Tryd.results56, go_sem, r0, r1, r2, r3, r4]) rfl ?_
      exact ⟨_, by rw [HF2.out]; rfl, by rw [HF2.out]; exact JV.zero _ _ _, hcw⟩
  · have hkb : (k != 5) = true := by simpa using hk
    have HF2 := Lib.hid (HF.out.trans (if_pos hk))
    clear hm HF hk
    go_wp2_with fail
    have hcs : Chg [b + 1] w' (((((w'.setCell ⟨b + 1, 0, none⟩ (.int .i64 0)).setCell ⟨b + 1, 1, none⟩ (.int .i64 0)).setCell ⟨b + 1, 2, none⟩ (.string ⟨#[]⟩)).setCell ⟨b + 1, 3, none⟩ (.slice none 0 0)).setCell ⟨b + 1, 4, none⟩ (.slice none 0 0)) :=
      (((((Chg.refl [b + 1] w').setCell (Or.inl (by simp)) _).setCell (Or.inl (by simp)) _).setCell (Or.inl (by simp)) _).setCell (Or.inl (by simp)) _).setCell (Or.inl (by simp)) _
    have hcw := Hc2.out.comp hcs fun g hg => Or.inr (by rw [List.mem_singleton.1 hg, Hbb.out.2.2.2]; omega)
    refine bodyPost_ret (v := .tuple #[.agg #[.int .i64 0, .int .i64 0, .string ⟨#[]⟩, .slice none 0 0, .slice none 0 0], .bool false]) (by simp [results, Tryd.results56, go_sem, r0, r1, r2, r3, r4]) rfl ?_
    exact ⟨_, by rw [HF2.out]; rfl, by rw [HF2.out]; exact JV.zero _ _ _, hcw⟩
theorem Lookup_any (p : Nat → Prop) (f : Nat) (w : World) (j : J) (v : Value) (s : ByteArray) (hj : JV p f w v j) (hs : Sm j) : Calls Tryd.prog 56 #[v, .string s] w (LkPost (j.find s) f w) := by
  have h := LookupG_any p f w j v s hj (Sm.bd j hs)
  rw [findG_eq hs.1] at h
  exact h
end Go.Proofs.YtiklgipcgdgkoaaDoor.Jv
