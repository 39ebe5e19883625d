/- Part of the proof of topCrashedLaw_holds. -/
import Derived.Test.YtjlknaahpjiibaaGreatDoorQad
import Derived.Test.YtjlknaahpjiibaaGreatDoorQbb
import Derived.Test.YtjlknaahpjiibaaGreatDoorQbc
namespace Go.Proofs.YtjlknaahpjiibaaGreatDoor.Jv
open Go.RowKit Go.ChangeMaps Go.MapKept
set_option linter.unusedVariables false
set_option linter.unusedSimpArgs false
def ix (l : List ByteArray) (s : ByteArray) : Int := if l.findIdx (· = s) < l.length then (l.findIdx (· = s) : Nat) else -1
theorem fi_lt {l : List ByteArray} {s : ByteArray} (h : s ∈ l) : l.findIdx (· = s) < l.length := List.findIdx_lt_length_of_exists ⟨s, h, by simp⟩
theorem fi_no {l : List ByteArray} {s : ByteArray} (h : s ∉ l) : l.findIdx (· = s) = l.length := List.findIdx_eq_length.2 fun x hx => decide_eq_false fun (e : x = s) => h (e ▸ hx)
theorem ix_yes {l : List ByteArray} {s : ByteArray} (h : l.findIdx (· = s) < l.length) : ix l s = (l.findIdx (· = s) : Nat) := if_pos h
theorem ix_no {l : List ByteArray} {s : ByteArray} (h : ¬ l.findIdx (· = s) < l.length) : ix l s = -1 := if_neg h
theorem beqS (a b : ByteArray) : (a.toList == b.toList) = decide (a = b) := by
 rw [ByteArray.toList_eq, ByteArray.toList_eq, Bool.eq_iff_iff, beq_iff_eq, decide_eq_true_iff]
 refine ⟨fun h => ?_, fun h => by rw [h]⟩
 obtain ⟨⟨a⟩⟩ := a
 obtain ⟨⟨b⟩⟩ := b
 simp at h
 rw [h]
theorem findIdx_at {l : List ByteArray} {s : ByteArray} {n : Nat} (hn : n < l.length) (h1 : s ∉ l.take n) (h2 : l[n] = s) : s ∈ l ∧ l.findIdx (· = s) = n := by
 refine ⟨h2 ▸ List.getElem_mem hn, ?_⟩
 rw [List.findIdx_eq hn]
 refine ⟨by simp [h2], fun j hj => ?_⟩
 have : ¬ l[j] = s := fun e => h1 (List.mem_take_iff_getElem.2 ⟨j, by omega, e⟩)
 simp [this]
set_option maxHeartbeats 1000000 in
theorem index_any (p : Nat → Prop) (w : World) (v : Value) (ks : List ByteArray) (k : ByteArray) (hk : SlR p 1 rdS w v ks) :
 Calls Tryz.prog 177 #[v, .string k] w fun e w' => e = .returned (.int .i64 (ix ks k)) ∧ w' = w := by
 obtain ⟨a, cap, rfl, hm, hc, _⟩ := (show SlR p 1 rdS w v ks from hk)
 have Hk := Lib.hid hk
 clear hk
 unfold maxLen at hc
 go_enter Tryz.func177, Tryz.ntmps177
 go_wp2_with fail
 go_loopw [8] (fun i wr => ∃ n : Nat, n ≤ ks.length ∧ i = .int .i64 (n : Nat) ∧ Hid (k ∉ ks.take n) ∧ Hid (wr = w)) (fun i _ => ks.length - (intOf i).toNat)
 case atStart => exact ⟨0, by omega, rfl, Lib.hid (by simp), Lib.hid rfl⟩
 case round =>
  obtain ⟨n, hn, rfl, Hnot, Hcw⟩ := hrel
  by_cases hlt : n < ks.length
  · obtain ⟨g, off, rfl, _, q0, _⟩ := SlR.at (show SlR p 1 rdS wr _ ks by rw [Hcw.out]; exact Hk.out) n hlt ⟨#[]⟩
    obtain ⟨x, hx⟩ : ∃ x, ks.getD n ⟨#[]⟩ = x := ⟨_, rfl⟩
    rw [hx] at q0
    rw [Nat.mul_one] at q0
    have hxe : ks[n] = x := by rw [← hx, List.getD_eq_getElem?_getD, List.getElem?_eq_getElem hlt]; rfl
    have Hx := Lib.hid hxe
    have lg := lt_of_cell q0
    have hn1 : (n : Int) < ks.length := by omega
    have hn0 : (0 : Int) ≤ (n : Int) := by omega
    clear hx hxe
    by_cases he : k = x
    · have hq : (k.toList == x.toList) = true := by rw [he]; exact beq_self_eq_true _
      have Hin := Lib.hid (findIdx_at hlt Hnot.out (Hx.out.trans he.symm))
      clear he
      go_wp2_with fail
      go_ret
      exact ⟨by rw [ix_yes (fi_lt Hin.out.1), Hin.out.2]; rfl, Hcw.out⟩
    · have hq : (k.toList == x.toList) = false := by rw [beqS]; exact decide_eq_false he
      have Hne := Lib.hid he
      clear he
      go_wp2_with fail
      refine ⟨⟨n + 1, by omega, by go_num, Lib.hid fun hy => ?_, Hcw⟩, by simp [intOf]; omega⟩
      rw [List.take_succ_eq_append_getElem hlt, List.mem_append, List.mem_singleton, Hx.out] at hy
      rcases hy with hy | hy
      · exact Hnot.out hy
      · exact Hne.out hy
  · have hn1 : ¬ ((n : Int) < ks.length) := by omega
    have Hnin := Lib.hid (show k ∉ ks by have := Hnot.out; rwa [List.take_of_length_le (by omega)] at this)
    go_wp2_with fail
    go_ret
    exact ⟨by rw [ix_no (by rw [fi_no Hnin.out]; omega)]; rfl, Hcw.out⟩
theorem JV.zero (p : Nat → Prop) (f : Nat) (w : World) : JV p f w (.agg #[.int .i64 0, .int .i64 0, .string ⟨#[]⟩, .slice none 0 0, .slice none 0 0]) J.zero :=
 ⟨_, _, rfl, SlR.nil _ _ _ _, SlR.nil _ _ _ _, by unfold maxLen; decide⟩
def CpPost (q : Nat → Prop) (c : Option J) (fb : Nat) (w : World) (e : Ending) (w' : World) : Prop :=
 ∃ v', e = .returned (.tuple #[v', .bool c.isSome]) ∧ JV q fb w' v' (c.getD J.zero) ∧ Chg [] w w'
set_option maxRecDepth 100000 in
set_option maxHeartbeats 4000000 in
theorem cp_any (p q : Nat → Prop) (f fb : Nat) (w : World) (va vb : Value) (A B : J) (i : Nat) (ha : JV p f w va A) (hb : JV q fb w vb B) (hi : i < B.elems.length) (hA : i < A.elems.length) (hB : A.kind = 5 → B.elems.length ≤ B.names.length) :
 Calls Tryz.prog 179 #[va, vb, .int .i64 (i : Nat)] w (CpPost q (cp A.kind A.names B i) fb w) := by
 obtain ⟨k, n, t, ns, es⟩ := A
 obtain ⟨k', n', t', ns', es'⟩ := B
 obtain ⟨na, nc, a, cap, rfl, hns, hes, ⟨hn1, hn2⟩, ⟨hl1, hl2⟩, hts⟩ := ha.shape
 obtain ⟨na', nc', a', cap', rfl, hns', hes', ⟨hn1', hn2'⟩, ⟨hl1', hl2'⟩, hts'⟩ := hb.shape
 simp only [J.kind, J.num, J.text, J.names, J.elems] at *
 unfold maxLen at hl2 hl2' hn2 hn2'
 obtain ⟨w2, hw2⟩ : ∃ x, x = ((w.alloc (.cells #[.int .i64 k, .int .i64 n, .string t, .slice na ns.length nc, .slice a es.length cap] 59)).alloc (.cells #[.int .i64 k', .int .i64 n', .string t', .slice na' ns'.length nc', .slice a' es'.length cap'] 59)).alloc (.cells #[.int .i64 0, .int .i64 0, .string ⟨#[]⟩, .slice none 0 0, .slice none 0 0] 59) := ⟨_, rfl⟩
 have hc2 : Chg [] w w2 := by rw [hw2]; exact (((Chg.refl [] w).alloc _).alloc _).alloc _
 obtain ⟨b, hb⟩ : ∃ b, b = w.heap.size := ⟨_, rfl⟩
 have hb2 : w2.heap[b]? = some (.cells #[.int .i64 k, .int .i64 n, .string t, .slice na ns.length nc, .slice a es.length cap] 59 (0, 0)) := by
  rw [hw2, hb, heap_past _ _ _ (by simp; omega), heap_past _ _ _ (by simp)]
  exact heap_at _ _ _ rfl
 have hd2 : w2.heap[b + 1]? = some (.cells #[.int .i64 k', .int .i64 n', .string t', .slice na' ns'.length nc', .slice a' es'.length cap'] 59 (0, 0)) := by
  rw [hw2, hb, heap_past _ _ _ (by simp)]
  exact heap_at _ _ _ (by simp)
 have hr2 : w2.heap[b + 2]? = some (.cells #[.int .i64 0, .int .i64 0, .string ⟨#[]⟩, .slice none 0 0, .slice none 0 0] 59 (0, 0)) := by rw [hw2, hb]; exact heap_at _ _ _ (by simp)
 obtain ⟨b0, b1, b2, b3, b4⟩ := box_kept b hb2 (Chg.refl [] w2)
 obtain ⟨d0, d1, d2, d3, d4⟩ := box_kept (b + 1) hd2 (Chg.refl [] w2)
 obtain ⟨r0, r1, r2, r3, r4⟩ := box_kept (b + 2) hr2 (Chg.refl [] w2)
 have fr := fun i => frozen_of_heap (i := i) hr2
 have lr := lt_of_cell r0
 have ld := lt_of_cell d0
 have lb := lt_of_cell b0
 have Hes := Lib.hid hes'
 have Hix := Lib.hid (fun W (hW : Chg [] w W) s => index_any q W _ ns' s (strs_kept (S := fun _ => False) hns' hW.p (fun _ _ h => h)))
 have Hns := Lib.hid (strs_kept (S := fun _ => False) hns hc2.p (fun _ _ h => h))
 have Hbb := Lib.hid (And.intro hb2 (And.intro hd2 hr2))
 have Hc2 := Lib.hid hc2
 have Hbw := Lib.hid hb
 have hij : (i : Int) < es'.length := by omega
 have hi0 : (0 : Int) ≤ i := by omega
 clear hns hes hns' hes' hc2 hb2 hd2 hr2 ha
 go_enter Tryz.func179, Tryz.ntmps179
 go_upto_region 1 with fail
 rw [← hw2, ← hb]
 clear hw2 hb
 by_cases hk : k = 5
 · subst hk
   have hcp : cp 5 ns (.mk k' n' t' ns' es') i = match ns[i]? with | none => none | some s => es'[ns'.findIdx (· = s)]? := by unfold cp; rw [if_neg (by simp)]; rfl
   by_cases hin : i < ns.length
   · have hin1 : (i : Int) < ns.length := by omega
     rw [List.getElem?_eq_getElem hin] at hcp
     obtain ⟨g1, off1, rfl, _, q0, _⟩ := SlR.at Hns.out i hin ⟨#[]⟩
     obtain ⟨x, hx⟩ : ∃ x, ns.getD i ⟨#[]⟩ = x := ⟨_, rfl⟩
     rw [hx] at q0
     rw [Nat.mul_one] at q0
     have hxe : ns[i] = x := by rw [← hx, List.getD_eq_getElem?_getD, List.getElem?_eq_getElem hin]; rfl
     simp only [hxe] at hcp
     have Hcp := Lib.hid hcp
     have lg := lt_of_cell q0
     clear hcp hx hxe
     obtain ⟨z, hz⟩ : ∃ z, z = ix ns' x := ⟨_, rfl⟩
     have Hixx := Lib.hid (fun W (hW : Chg [] w W) => by have h := Hix.out W hW x; rw [← hz] at h; exact h)
     have Hz := Lib.hid hz
     clear hz
     go_upto_region 5 with fail
     go_quiet ((go_at_call 177; (refine Calls.quiet_of_same (Hixx.out _ ?_)); exact Hc2.out.drewN _))
     generalize hwd : w2.drewN _ = wd
     have hcd : Chg [] w2 wd := by rw [← hwd]; exact (Chg.refl _ _).drewN _
     obtain ⟨b0, b1, b2, b3, b4⟩ := box_kept b (Hbb.out.1) hcd
     obtain ⟨d0, d1, d2, d3, d4⟩ := box_kept (b + 1) (Hbb.out.2.1) hcd
     obtain ⟨r0, r1, r2, r3, r4⟩ := box_kept (b + 2) (Hbb.out.2.2) hcd
     have fr := fun i => frozen_of_heap (i := i) ((hcd.block _ (lt_of_obj Hbb.out.2.2) (by simp)).trans Hbb.out.2.2)
     have lr := lt_of_cell r0
     have Hcd := Lib.hid (Hc2.out.trans hcd)
     clear hwd hcd q0
     obtain ⟨m, hm⟩ : ∃ m, m = ns'.findIdx (· = x) := ⟨_, rfl⟩
     have Hcp2 := Lib.hid (Hcp.out.trans (by rw [← hm]))
     by_cases hml : m < ns'.length
     · obtain rfl : z = (m : Nat) := by rw [Hz.out, hm]; exact ix_yes (by omega)
       have hm0 : ¬ ((m : Int) < 0) := by omega
       have hm1 : decide ((m : Int) < 0) = false := decide_eq_false hm0
       by_cases hme : m < es'.length
       · have hme1 : (m : Int) < es'.length := by omega
         have hme2 : decide ((es'.length : Int) ≤ m) = false := decide_eq_false (by omega)
         have hme3 : decide (es'.length ≤ m) = false := decide_eq_false (by omega)
         have Hcp3 := Lib.hid (Hcp2.out.trans (List.getElem?_eq_getElem hme))
         clear hm hml Hcp Hcp2
         obtain ⟨g, off, na'', nc'', ia'', ic'', rfl, hpg, e0, e1, e2, e3, e4, f', rfl, hjv⟩ := elem_at Hes.out hme
         obtain ⟨el, hel⟩ : ∃ el, el = es'[m] := ⟨_, rfl⟩
         rw [← hel] at e0 e1 e2 e3 e4 hjv
         replace e0 := (Hcd.out.cell (lt_of_cell e0) (by simp)).trans e0
         replace e1 := (Hcd.out.cell (lt_of_cell e1) (by simp)).trans e1
         replace e2 := (Hcd.out.cell (lt_of_cell e2) (by simp)).trans e2
         replace e3 := (Hcd.out.cell (lt_of_cell e3) (by simp)).trans e3
         replace e4 := (Hcd.out.cell (lt_of_cell e4) (by simp)).trans e4
         have Hjv := Lib.hid hjv
         have Hel := Lib.hid hel
         clear hjv hel hpg
         go_wp2_with fail
         have hcs : Chg [b + 2] wd (((((wd.setCell ⟨b + 2, 0, none⟩ (.int .i64 el.kind)).setCell ⟨b + 2, 1, none⟩ (.int .i64 el.num)).setCell ⟨b + 2, 2, none⟩ (.string el.text)).setCell ⟨b + 2, 3, none⟩ (.slice na'' el.names.length nc'')).setCell ⟨b + 2, 4, none⟩ (.slice ia'' el.elems.length ic'')) :=
          (((((Chg.refl [b + 2] wd).setCell (Or.inl (by simp)) _).setCell (Or.inl (by simp)) _).setCell (Or.inl (by simp)) _).setCell (Or.inl (by simp)) _).setCell (Or.inl (by simp)) _
         have hcw := Hcd.out.comp hcs fun g hg => Or.inr (by rw [List.mem_singleton.1 hg, Hbw.out]; omega)
         refine bodyPost_ret (v := .tuple #[.agg #[.int .i64 el.kind, .int .i64 el.num, .string el.text, .slice na'' el.names.length nc'', .slice ia'' el.elems.length ic''], .bool true]) (by simp [results, Tryz.results179, go_sem, r0, r1, r2, r3, r4]) rfl ?_
         exact ⟨_, by rw [Hcp3.out]; rfl, by rw [Hcp3.out, ← Hel.out]; exact (Hjv.out.more (by omega)).kept (S := fun _ => False) hcw.p (fun _ _ h => h), hcw⟩
       · have hme1 : ¬ ((m : Int) < es'.length) := by omega
         have hme4 : (es'.length : Int) ≤ m := by omega
         have hme2 : decide ((es'.length : Int) ≤ m) = true := decide_eq_true (by omega)
         have hme3 : decide (es'.length ≤ m) = true := decide_eq_true (by omega)
         have Hcp3 := Lib.hid (Hcp2.out.trans (List.getElem?_eq_none (by omega)))
         clear hm hml Hcp Hcp2
         go_wp2_with fail
         have hcs : Chg [b + 2] wd (((((wd.setCell ⟨b + 2, 0, none⟩ (.int .i64 0)).setCell ⟨b + 2, 1, none⟩ (.int .i64 0)).setCell ⟨b + 2, 2, none⟩ (.string ⟨#[]⟩)).setCell ⟨b + 2, 3, none⟩ (.slice none 0 0)).setCell ⟨b + 2, 4, none⟩ (.slice none 0 0)) :=
          (((((Chg.refl [b + 2] wd).setCell (Or.inl (by simp)) _).setCell (Or.inl (by simp)) _).setCell (Or.inl (by simp)) _).setCell (Or.inl (by simp)) _).setCell (Or.inl (by simp)) _
         have hcw := Hcd.out.comp hcs fun g hg => Or.inr (by rw [List.mem_singleton.1 hg, Hbw.out]; omega)
         refine bodyPost_ret (v := .tuple #[.agg #[.int .i64 0, .int .i64 0, .string ⟨#[]⟩, .slice none 0 0, .slice none 0 0], .bool false]) (by simp [results, Tryz.results179, go_sem, r0, r1, r2, r3, r4]) rfl ?_
         exact ⟨_, by rw [Hcp3.out]; rfl, by rw [Hcp3.out]; exact JV.zero _ _ _, hcw⟩
     · obtain rfl : z = -1 := by rw [Hz.out]; exact ix_no (by omega)
       have Hcp3 := Lib.hid (Hcp2.out.trans (List.getElem?_eq_none (show es'.length ≤ m by have h1 := hB rfl; omega)))
       clear hm hml Hcp Hcp2
       go_wp2_with fail
       have hcs : Chg [b + 2] wd (((((wd.setCell ⟨b + 2, 0, none⟩ (.int .i64 0)).setCell ⟨b + 2, 1, none⟩ (.int .i64 0)).setCell ⟨b + 2, 2, none⟩ (.string ⟨#[]⟩)).setCell ⟨b + 2, 3, none⟩ (.slice none 0 0)).setCell ⟨b + 2, 4, none⟩ (.slice none 0 0)) :=
        (((((Chg.refl [b + 2] wd).setCell (Or.inl (by simp)) _).setCell (Or.inl (by simp)) _).setCell (Or.inl (by simp)) _).setCell (Or.inl (by simp)) _).setCell (Or.inl (by simp)) _
       have hcw := Hcd.out.comp hcs fun g hg => Or.inr (by rw [List.mem_singleton.1 hg, Hbw.out]; omega)
       refine bodyPost_ret (v := .tuple #[.agg #[.int .i64 0, .int .i64 0, .string ⟨#[]⟩, .slice none 0 0, .slice none 0 0], .bool false]) (by simp [results, Tryz.results179, go_sem, r0, r1, r2, r3, r4]) rfl ?_
       exact ⟨_, by rw [Hcp3.out]; rfl, by rw [Hcp3.out]; exact JV.zero _ _ _, hcw⟩
   · have hin1 : ¬ ((i : Int) < ns.length) := by omega
     have hin2 : (ns.length : Int) ≤ i := by omega
     rw [List.getElem?_eq_none (by omega)] at hcp
     simp only at hcp
     have Hcp := Lib.hid hcp
     clear hcp
     go_wp2_with fail
     have hcs : Chg [b + 2] w2 (((((w2.setCell ⟨b + 2, 0, none⟩ (.int .i64 0)).setCell ⟨b + 2, 1, none⟩ (.int .i64 0)).setCell ⟨b + 2, 2, none⟩ (.string ⟨#[]⟩)).setCell ⟨b + 2, 3, none⟩ (.slice none 0 0)).setCell ⟨b + 2, 4, none⟩ (.slice none 0 0)) :=
      (((((Chg.refl [b + 2] w2).setCell (Or.inl (by simp)) _).setCell (Or.inl (by simp)) _).setCell (Or.inl (by simp)) _).setCell (Or.inl (by simp)) _).setCell (Or.inl (by simp)) _
     have hcw := Hc2.out.comp hcs fun g hg => Or.inr (by rw [List.mem_singleton.1 hg, Hbw.out]; omega)
     refine bodyPost_ret (v := .tuple #[.agg #[.int .i64 0, .int .i64 0, .string ⟨#[]⟩, .slice none 0 0, .slice none 0 0], .bool false]) (by simp [results, Tryz.results179, go_sem, r0, r1, r2, r3, r4]) rfl ?_
     exact ⟨_, by rw [Hcp.out]; rfl, by rw [Hcp.out]; exact JV.zero _ _ _, hcw⟩
 · have hkd : decide (k = 5) = false := decide_eq_false hk
   have hkb : (k == 5) = false := by simpa using hk
   have hcp : cp k ns (.mk k' n' t' ns' es') i = some es'[i] := by unfold cp; rw [if_pos hk]; simp only [J.elems]; exact List.getElem?_eq_getElem hi
   have Hcp := Lib.hid hcp
   clear hcp
   obtain ⟨g, off, na'', nc'', ia'', ic'', rfl, hpg, e0, e1, e2, e3, e4, f', rfl, hjv⟩ := elem_at Hes.out hi
   obtain ⟨el, hel⟩ : ∃ el, el = es'[i] := ⟨_, rfl⟩
   rw [← hel] at e0 e1 e2 e3 e4 hjv
   replace e0 := (Hc2.out.cell (lt_of_cell e0) (by simp)).trans e0
   replace e1 := (Hc2.out.cell (lt_of_cell e1) (by simp)).trans e1
   replace e2 := (Hc2.out.cell (lt_of_cell e2) (by simp)).trans e2
   replace e3 := (Hc2.out.cell (lt_of_cell e3) (by simp)).trans e3
   replace e4 := (Hc2.out.cell (lt_of_cell e4) (by simp)).trans e4
   have Hjv := Lib.hid hjv
   have Hel := Lib.hid hel
   clear hjv hel hpg
   go_wp2_with fail
   have hcs : Chg [b + 2] w2 (((((w2.setCell ⟨b + 2, 0, none⟩ (.int .i64 el.kind)).setCell ⟨b + 2, 1, none⟩ (.int .i64 el.num)).setCell ⟨b + 2, 2, none⟩ (.string el.text)).setCell ⟨b + 2, 3, none⟩ (.slice na'' el.names.length nc'')).setCell ⟨b + 2, 4, none⟩ (.slice ia'' el.elems.length ic'')) :=
    (((((Chg.refl [b + 2] w2).setCell (Or.inl (by simp)) _).setCell (Or.inl (by simp)) _).setCell (Or.inl (by simp)) _).setCell (Or.inl (by simp)) _).setCell (Or.inl (by simp)) _
   have hcw := Hc2.out.comp hcs fun g hg => Or.inr (by rw [List.mem_singleton.1 hg, Hbw.out]; omega)
   refine bodyPost_ret (v := .tuple #[.agg #[.int .i64 el.kind, .int .i64 el.num, .string el.text, .slice na'' el.names.length nc'', .slice ia'' el.elems.length ic''], .bool true]) (by simp [results, Tryz.results179, go_sem, r0, r1, r2, r3, r4]) rfl ?_
   exact ⟨_, by rw [Hcp.out]; rfl, by rw [Hcp.out, ← Hel.out]; exact (Hjv.out.more (by omega)).kept (S := fun _ => False) hcw.p (fun _ _ h => h), hcw⟩
theorem vd_obj {j : J} (h : j.vd u8 = 0) (hk : j.kind = 5) : j.elems.length = j.names.length := by
 obtain ⟨k, n, t, ns, es⟩ := j
 obtain ⟨_, h2, _⟩ := vd_zero.1 h
 obtain rfl : k = 5 := hk
 exact (wf_obj h2).1.symm
def EqPost (x : Bool) (w : World) (e : Ending) (w' : World) : Prop := e = .returned (.bool x) ∧ Chg [] w w'
theorem eq_no {k n : Int} {t : ByteArray} {ns : List ByteArray} {es : List J} {B : J} (h : ¬ (k = B.kind ∧ n = B.num ∧ t = B.text ∧ es.length = B.elems.length ∧ ns.length = B.names.length)) : (J.mk k n t ns es).eq B = false := by
 rw [J.eq, decide_eq_false h]; rfl
theorem eq_yes {k n : Int} {t : ByteArray} {ns : List ByteArray} {es : List J} {B : J} (h : k = B.kind ∧ n = B.num ∧ t = B.text ∧ es.length = B.elems.length ∧ ns.length = B.names.length) : (J.mk k n t ns es).eq B = eqL k ns B 0 es := by
 rw [J.eq, decide_eq_true h]; rfl
theorem eqL_drop {k : Int} {ns : List ByteArray} {b : J} {es : List J} {i : Nat} (hi : i < es.length) : eqL k ns b i (es.drop i) = ((match cp k ns b i with | none => false | some b' => es[i].eq b') && eqL k ns b (i + 1) (es.drop (i + 1))) := by
 rw [List.drop_eq_getElem_cons hi, eqL]
 cases cp k ns b i <;> rfl
theorem cp_mem {k : Int} {ns : List ByteArray} {B b : J} {i : Nat} (h : cp k ns B i = some b) : b ∈ B.elems := by
 unfold cp at h
 split at h
 · exact List.mem_of_getElem? h
 · split at h
   · cases h
   · exact List.mem_of_getElem? h
set_option maxRecDepth 100000 in
set_option maxHeartbeats 8000000 in
theorem equal_step (p q : Nat → Prop) (f : Nat)
 (ih : ∀ f', f' < f → ∀ (fb : Nat) (w : World) (A B : J) (va vb : Value), JV p f' w va A → JV q fb w vb B → B.vd u8 = 0 → Calls Tryz.prog 139 #[va, vb] w (EqPost (A.eq B) w))
 (fb : Nat) (w : World) (A B : J) (va vb : Value) (ha : JV p f w va A) (hb : JV q fb w vb B) (hv : B.vd u8 = 0) :
 Calls Tryz.prog 139 #[va, vb] w (EqPost (A.eq B) w) := by
 obtain ⟨k, n, t, ns, es⟩ := A
 obtain ⟨k', n', t', ns', es'⟩ := B
 obtain ⟨na, nc, a, cap, rfl, hns, hes, ⟨hn1, hn2⟩, ⟨hl1, hl2⟩, hts⟩ := ha.shape
 obtain ⟨na', nc', a', cap', rfl, hns', hes', ⟨hn1', hn2'⟩, ⟨hl1', hl2'⟩, hts'⟩ := hb.shape
 simp only [J.kind, J.num, J.text, J.names, J.elems] at *
 unfold maxLen at hl2 hl2' hn2 hn2'
 obtain ⟨w2, hw2⟩ : ∃ x, x = ((w.alloc (.cells #[.int .i64 k, .int .i64 n, .string t, .slice na ns.length nc, .slice a es.length cap] 59)).alloc (.cells #[.int .i64 k', .int .i64 n', .string t', .slice na' ns'.length nc', .slice a' es'.length cap'] 59)) := ⟨_, rfl⟩
 have hc2 : Chg [] w w2 := by rw [hw2]; exact ((Chg.refl [] w).alloc _).alloc _
 obtain ⟨b, hbw⟩ : ∃ b, b = w.heap.size := ⟨_, rfl⟩
 have hb2 : w2.heap[b]? = some (.cells #[.int .i64 k, .int .i64 n, .string t, .slice na ns.length nc, .slice a es.length cap] 59 (0, 0)) := by
  rw [hw2, hbw, heap_past _ _ _ (by simp)]
  exact heap_at _ _ _ rfl
 have hd2 : w2.heap[b + 1]? = some (.cells #[.int .i64 k', .int .i64 n', .string t', .slice na' ns'.length nc', .slice a' es'.length cap'] 59 (0, 0)) := by
  rw [hw2, hbw]
  exact heap_at _ _ _ (by simp)
 obtain ⟨b0, b1, b2, b3, b4⟩ := box_kept b hb2 (Chg.refl [] w2)
 obtain ⟨d0, d1, d2, d3, d4⟩ := box_kept (b + 1) hd2 (Chg.refl [] w2)
 have ld := lt_of_cell d0
 have lb := lt_of_cell b0
 have Hes := Lib.hid hes
 have Ha := Lib.hid ha
 have Hb := Lib.hid hb
 have Hv := Lib.hid hv
 have Hbb := Lib.hid (And.intro hb2 hd2)
 have Hc2 := Lib.hid hc2
 clear hns hes hns' hes' hc2 hb2 hd2 ha hb hv
 go_enter Tryz.func139, Tryz.ntmps139
 go_upto_region 1 with fail
 rw [← hw2, ← hbw]
 clear hw2 hbw
 by_cases hk : k = k'
 · subst hk
   by_cases hn : n = n'
   · subst hn
     by_cases ht : t = t'
     · subst ht
       by_cases hl : es.length = es'.length
       · by_cases hm : ns.length = ns'.length
         · have Hyes := Lib.hid (eq_yes (k := k) (n := n) (t := t) (ns := ns) (es := es) (B := .mk k n t ns' es') ⟨rfl, rfl, rfl, hl, hm⟩)
           obtain ⟨L, hL⟩ : ∃ L, L = es.length := ⟨_, rfl⟩
           obtain ⟨M, hM⟩ : ∃ M, M = ns.length := ⟨_, rfl⟩
           rw [← hL] at b4 Ha Hes Hbb
           rw [← hl, ← hL] at d4 Hb Hbb
           rw [← hM] at b3 Ha Hbb
           rw [← hm, ← hM] at d3 Hb Hbb
           have hlL : (L : Int) ≤ cap := by omega
           have hL63 : (L : Int) ≤ 9223372036854775807 := by omega
           have HL := Lib.hid (And.intro hL (And.intro hl hm))
           have Hcp := Lib.hid (fun i (hi : i < L) W (hW : Chg [] w W) => cp_any p q f fb W _ _ _ _ i (Ha.out.kept (S := fun _ => False) hW.p (fun _ _ h => h)) (Hb.out.kept (S := fun _ => False) hW.p (fun _ _ h => h)) (show i < es'.length by omega) (show i < es.length by omega) (fun h5 => Nat.le_of_eq (vd_obj Hv.out h5)))
           have HE : Hid (eqL k ns (.mk k n t ns' es') 0 es = eqL k ns (.mk k n t ns' es') 0 (es.drop 0)) := Lib.hid (by rw [List.drop_zero])
           clear hl hm hL hM
           go_wp2_with fail
           go_loopw [49] (fun ii wr => ∃ i : Nat, i ≤ L ∧ ii = .int .i64 (i : Nat) ∧ Hid (Chg [] w2 wr) ∧ Hid (eqL k ns (.mk k n t ns' es') 0 es = eqL k ns (.mk k n t ns' es') i (es.drop i))) (fun ii _ => L - (intOf ii).toNat)
           case atStart => exact ⟨0, by omega, rfl, Lib.hid (Chg.refl _ _), HE⟩
           case round =>
            obtain ⟨i, hi, rfl, Hcr, Her⟩ := hrel
            obtain ⟨b0, b1, b2, b3, b4⟩ := box_kept b (Hbb.out.1) Hcr.out
            obtain ⟨d0, d1, d2, d3, d4⟩ := box_kept (b + 1) (Hbb.out.2) Hcr.out
            by_cases hlt : i < L
            · have hij : (i : Int) < L := by omega
              have hle : i < es.length := by have := HL.out.1; omega
              have Hed := Lib.hid (Her.out.trans (eqL_drop hle))
              have Hesr : SlR p 5 (rdJ p f) wr (.slice a L cap) es := SlR.imp Hes.out (fun _ h => h) fun ad x hp hx => rdJ.kept (S := fun _ => False) (Hc2.out.trans Hcr.out).p (fun g hg e => e) hp hx
              obtain ⟨g, off, na1, nc1, ia1, ic1, rfl, hpg, e0, e1, e2, e3, e4, f', rfl, hjv⟩ := elem_at Hesr hle
              obtain ⟨el, hel⟩ : ∃ el, el = es[i] := ⟨_, rfl⟩
              rw [← hel] at e0 e1 e2 e3 e4 hjv Hed
              obtain ⟨ek, hek⟩ : ∃ x, x = el.kind := ⟨_, rfl⟩
              obtain ⟨en, hen⟩ : ∃ x, x = el.num := ⟨_, rfl⟩
              obtain ⟨et, het⟩ : ∃ x, x = el.text := ⟨_, rfl⟩
              rw [← hek] at e0 hjv
              rw [← hen] at e1 hjv
              rw [← het] at e2 hjv
              obtain ⟨nl, hnl⟩ : ∃ x, x = el.names.length := ⟨_, rfl⟩
              obtain ⟨il, hil⟩ : ∃ x, x = el.elems.length := ⟨_, rfl⟩
              rw [← hnl] at e3 hjv
              rw [← hil] at e4 hjv
              obtain ⟨w4, hw4⟩ : ∃ x, x = wr.alloc (.cells #[.int .i64 ek, .int .i64 en, .string et, .slice na1 nl nc1, .slice ia1 il ic1] 59) := ⟨_, rfl⟩
              have hc4 : Chg [] wr w4 := by rw [hw4]; exact (Chg.refl _ _).alloc _
              have hb4 : w4.heap[wr.heap.size]? = some (.cells #[.int .i64 ek, .int .i64 en, .string et, .slice na1 nl nc1, .slice ia1 il ic1] 59 (0, 0)) := by rw [hw4]; exact heap_at _ _ _ rfl
              obtain ⟨b0, b1, b2, b3, b4⟩ := box_kept b (Hbb.out.1) (Hcr.out.trans hc4)
              obtain ⟨d0, d1, d2, d3, d4⟩ := box_kept (b + 1) (Hbb.out.2) (Hcr.out.trans hc4)
              have Hc4 := Lib.hid (Hcr.out.trans hc4)
              have Hb4 := Lib.hid hb4
              have Hjv := Lib.hid (hjv.kept (S := fun _ => False) hc4.p (fun _ _ h => h))
              clear Hesr hel hek hen het hnl hil hjv hb4 hpg hc4
              go_upto_region 6 with fail
              rw [← hw4]
              clear hw4 e0 e1 e2 e3 e4
              go_wp2_with fail
              refine (Hcp.out i hlt w4 (Hc2.out.trans Hc4.out)).mono ?_
              rintro e w5 ⟨v5, rfl, hj5, hc5⟩
              obtain ⟨q5, rfl⟩ := hj5.ev'
              unfold Ev.val at hj5 ⊢
              have Hc5 := Lib.hid (Hc4.out.trans hc5)
              have Hj5 := Lib.hid hj5
              obtain ⟨x0, x1, x2, x3, x4⟩ := box_kept wr.heap.size Hb4.out hc5
              have lx := lt_of_cell x0
              have Hc45 := Lib.hid hc5
              clear hj5 hc5
              simp only [J.kind, J.names] at Hj5 ⊢
              have Hmem := Lib.hid (fun b' (h : cp k ns (.mk k n t ns' es') i = some b') => (vd_zero.1 Hv.out).2.2 b' (cp_mem h))
              obtain ⟨c, hc⟩ : ∃ c, c = cp k ns (.mk k n t ns' es') i := ⟨_, rfl⟩
              rw [← hc] at Hj5 Hed Hmem ⊢
              clear hc
              cases c with
              | none =>
                have He := Lib.hid (Hyes.out.trans (Hed.out.trans (by rw [Bool.false_and])))
                clear Hmem Hj5
                go_wp2_with fail
                go_ret
                exact ⟨by rw [He.out]; rfl, ((Hc2.out.trans Hc5.out).alloc _)⟩
              | some B' =>
                have Hvb := Lib.hid (Hmem.out B' rfl)
                obtain ⟨w6, hw6⟩ : ∃ x, x = w5.alloc (.cells #[.int .i64 q5.k, .int .i64 q5.n, .string q5.t, .slice q5.na q5.nl q5.nc, .slice q5.ia q5.il q5.ic] 59) := ⟨_, rfl⟩
                have hc6 : Chg [] w5 w6 := by rw [hw6]; exact (Chg.refl _ _).alloc _
                have hb6 : w6.heap[w5.heap.size]? = some (.cells #[.int .i64 q5.k, .int .i64 q5.n, .string q5.t, .slice q5.na q5.nl q5.nc, .slice q5.ia q5.il q5.ic] 59 (0, 0)) := by rw [hw6]; exact heap_at _ _ _ rfl
                obtain ⟨x0, x1, x2, x3, x4⟩ := box_kept wr.heap.size Hb4.out (Hc45.out.trans hc6)
                obtain ⟨y0, y1, y2, y3, y4⟩ := box_kept w5.heap.size hb6 (Chg.refl [] w6)
                have Hcall := Lib.hid (ih f' (by omega) fb w6 el B' _ _ (Hjv.out.kept (S := fun _ => False) (Hc45.out.trans hc6).p (fun _ _ h => h)) (Hj5.out.kept (S := fun _ => False) hc6.p (fun _ _ h => h)) Hvb.out)
                have Hc6 := Lib.hid (Hc5.out.trans hc6)
                clear hc6 hb6 Hmem
                go_upto_region 7 with fail
                rw [← hw6]
                clear hw6
                go_wp2_with fail
                refine Hcall.out.mono ?_
                rintro e w7 ⟨rfl, hc7⟩
                have Hc7 := Lib.hid (Hc6.out.trans hc7)
                clear hc7
                obtain ⟨r, hr⟩ : ∃ r, r = el.eq B' := ⟨_, rfl⟩
                rw [← hr] at Hed ⊢
                clear hr
                cases r with
                | false =>
                  have He := Lib.hid (Hyes.out.trans (Hed.out.trans (by rw [Bool.false_and])))
                  go_wp2_with fail
                  go_ret
                  exact ⟨by rw [He.out]; rfl, Hc2.out.trans Hc7.out⟩
                | true =>
                  have He := Lib.hid (Hed.out.trans (by rw [Bool.true_and]))
                  go_wp2_with fail
                  exact ⟨⟨i + 1, by omega, by go_num, Hc7, He⟩, by simp [intOf]; omega⟩
            · obtain rfl : i = L := by omega
              go_wp2_with fail
              go_ret
              exact ⟨by rw [Hyes.out, Her.out, List.drop_of_length_le (by have := HL.out.1; omega), eqL]; rfl, Hc2.out.trans Hcr.out⟩
         · have Hno := Lib.hid (eq_no (k := k) (n := n) (t := t) (ns := ns) (es := es) (B := .mk k n t ns' es') (fun h => hm h.2.2.2.2))
           have h1 : ((ns.length : Int) != ns'.length) = true := by simp; omega
           have h2 : (ns.length != ns'.length) = true := by simpa using hm
           rw [hl] at b4
           clear hl hm
           go_wp2_with fail
           go_ret
           exact ⟨by rw [Hno.out]; rfl, Hc2.out⟩
       · have Hno := Lib.hid (eq_no (k := k) (n := n) (t := t) (ns := ns) (es := es) (B := .mk k n t ns' es') (fun h => hl h.2.2.2.1))
         have h1 : ((es.length : Int) != es'.length) = true := by simp; omega
         have h2 : (es.length != es'.length) = true := by simpa using hl
         clear hl
         go_wp2_with fail
         go_ret
         exact ⟨by rw [Hno.out]; rfl, Hc2.out⟩
     · have Hno := Lib.hid (eq_no (k := k) (n := n) (t := t) (ns := ns) (es := es) (B := .mk k n t' ns' es') (fun h => ht h.2.2.1))
       have h1 : (t.toList == t'.toList) = false := by rw [beqS]; exact decide_eq_false ht
       clear ht
       go_wp2_with fail
       go_ret
       exact ⟨by rw [Hno.out]; rfl, Hc2.out⟩
   · have Hno := Lib.hid (eq_no (k := k) (n := n) (t := t) (ns := ns) (es := es) (B := .mk k n' t' ns' es') (fun h => hn h.2.1))
     have h1 : (n != n') = true := by simpa using hn
     clear hn
     go_wp2_with fail
     go_ret
     exact ⟨by rw [Hno.out]; rfl, Hc2.out⟩
 · have Hno := Lib.hid (eq_no (k := k) (n := n) (t := t) (ns := ns) (es := es) (B := .mk k' n' t' ns' es') (fun h => hk h.1))
   have h1 : (k != k') = true := by simpa using hk
   clear hk
   go_wp2_with fail
   go_ret
   exact ⟨by rw [Hno.out]; rfl, Hc2.out⟩
theorem equal_any (p q : Nat → Prop) : ∀ (f fb : Nat) (w : World) (A B : J) (va vb : Value), JV p f w va A → JV q fb w vb B → B.vd u8 = 0 → Calls Tryz.prog 139 #[va, vb] w (EqPost (A.eq B) w) := by
 intro f
 induction f using Nat.strongRecOn with
 | ind f ih => exact fun fb w A B va vb h1 h2 h3 => equal_step p q f ih fb w A B va vb h1 h2 h3
set_option maxRecDepth 100000 in
set_option maxHeartbeats 4000000 in
theorem Equal_any (p q : Nat → Prop) (f fb : Nat) (w : World) (A B : J) (va vb : Value) (ha : JV p f w va A) (hb : JV q fb w vb B) (hp : ∀ g, p g → g < w.heap.size) (hq : ∀ g, q g → g < w.heap.size) (hT : Tb w) :
 Calls Tryz.prog 88 #[va, vb] w (EqPost (A.equal u8 B) w) := by
 obtain ⟨ea, rfl⟩ := ha.ev'
 obtain ⟨eb, rfl⟩ := hb.ev'
 unfold Ev.val at *
 obtain ⟨w2, hw2⟩ : ∃ x, x = ((w.alloc (.cells #[.int .i64 ea.k, .int .i64 ea.n, .string ea.t, .slice ea.na ea.nl ea.nc, .slice ea.ia ea.il ea.ic] 59)).alloc (.cells #[.int .i64 eb.k, .int .i64 eb.n, .string eb.t, .slice eb.na eb.nl eb.nc, .slice eb.ia eb.il eb.ic] 59)) := ⟨_, rfl⟩
 have hc2 : Chg [] w w2 := by rw [hw2]; exact ((Chg.refl [] w).alloc _).alloc _
 obtain ⟨b, hbw⟩ : ∃ b, b = w.heap.size := ⟨_, rfl⟩
 have hb2 : w2.heap[b]? = some (.cells #[.int .i64 ea.k, .int .i64 ea.n, .string ea.t, .slice ea.na ea.nl ea.nc, .slice ea.ia ea.il ea.ic] 59 (0, 0)) := by
  rw [hw2, hbw, heap_past _ _ _ (by simp)]
  exact heap_at _ _ _ rfl
 have hd2 : w2.heap[b + 1]? = some (.cells #[.int .i64 eb.k, .int .i64 eb.n, .string eb.t, .slice eb.na eb.nl eb.nc, .slice eb.ia eb.il eb.ic] 59 (0, 0)) := by
  rw [hw2, hbw]
  exact heap_at _ _ _ (by simp)
 obtain ⟨b0, b1, b2, b3, b4⟩ := box_kept b hb2 (Chg.refl [] w2)
 obtain ⟨d0, d1, d2, d3, d4⟩ := box_kept (b + 1) hd2 (Chg.refl [] w2)
 have ld := lt_of_cell d0
 have lb := lt_of_cell b0
 have Ha := Lib.hid ha
 have Hb := Lib.hid hb
 have Hbb := Lib.hid (And.intro hb2 hd2)
 have Hc2 := Lib.hid hc2
 have HT := Lib.hid hT
 have Hp := Lib.hid (And.intro hp hq)
 have Hva := Lib.hid (fun W (hW : Chg [] w W) => Validate_any p f W A _ (Ha.out.kept (S := fun _ => False) hW.p (fun _ _ h => h)) (HT.out.new hW) (fun g hg => Nat.lt_of_lt_of_le (Hp.out.1 g hg) hW.size))
 have Hvb := Lib.hid (fun W (hW : Chg [] w W) => Validate_any q fb W B _ (Hb.out.kept (S := fun _ => False) hW.p (fun _ _ h => h)) (HT.out.new hW) (fun g hg => Nat.lt_of_lt_of_le (Hp.out.2 g hg) hW.size))
 have Heq := Lib.hid (fun W (hW : Chg [] w W) (hv : B.vd u8 = 0) => equal_any p q f fb W A B _ _ (Ha.out.kept (S := fun _ => False) hW.p (fun _ _ h => h)) (Hb.out.kept (S := fun _ => False) hW.p (fun _ _ h => h)) hv)
 have HR : Hid (A.equal u8 B = (decide (A.valid u8 = 0) && decide (B.valid u8 = 0) && A.eq B)) := Lib.hid rfl
 have HV := Lib.hid (fun h : B.valid u8 = 0 => (valid_parts h).2.2)
 obtain ⟨x, hx⟩ : ∃ x, x = A.valid u8 := ⟨_, rfl⟩
 obtain ⟨y, hy⟩ : ∃ y, y = B.valid u8 := ⟨_, rfl⟩
 rw [← hx] at Hva HR
 rw [← hy] at Hvb HR HV
 clear ha hb hb2 hd2 hc2 hT hp hq hx hy
 go_enter Tryz.func88, Tryz.ntmps88
 go_upto_region 1 with fail
 rw [← hw2, ← hbw]
 clear hw2 hbw
 go_wp2_with fail
 refine (Hva.out w2 Hc2.out).mono ?_
 rintro e w3 ⟨rfl, hc3⟩
 obtain ⟨b0, b1, b2, b3, b4⟩ := box_kept b Hbb.out.1 hc3
 obtain ⟨d0, d1, d2, d3, d4⟩ := box_kept (b + 1) Hbb.out.2 hc3
 have Hc3 := Lib.hid (Hc2.out.trans hc3)
 have Hc3' := Lib.hid hc3
 clear hc3
 by_cases hx : x = 0
 · subst hx
   go_wp2_with fail
   refine (Hvb.out w3 Hc3.out).mono ?_
   rintro e w4 ⟨rfl, hc4⟩
   obtain ⟨b0, b1, b2, b3, b4⟩ := box_kept b Hbb.out.1 (Hc3'.out.trans hc4)
   obtain ⟨d0, d1, d2, d3, d4⟩ := box_kept (b + 1) Hbb.out.2 (Hc3'.out.trans hc4)
   have Hc4 := Lib.hid (Hc3.out.trans hc4)
   clear hc4
   by_cases hy : y = 0
   · subst hy
     go_wp2_with fail
     refine (Heq.out w4 Hc4.out (HV.out (by first | trivial | rfl))).mono ?_
     rintro e w5 ⟨rfl, hc5⟩
     have Hc5 := Lib.hid (Hc4.out.trans hc5)
     clear hc5
     have He := Lib.hid (show A.equal u8 B = A.eq B by rw [HR.out]; simp)
     obtain ⟨r, hr⟩ : ∃ r, r = A.eq B := ⟨_, rfl⟩
     rw [← hr] at He ⊢
     clear hr
     cases r
     all_goals
      go_wp2_with fail
      go_ret
      exact ⟨by rw [He.out]; rfl, Hc5.out⟩
   · have h1 : (y == 0) = false := by simpa using hy
     have He := Lib.hid (show A.equal u8 B = false by rw [HR.out, decide_eq_false hy, Bool.and_false, Bool.false_and])
     clear hy
     go_wp2_with fail
     go_ret
     exact ⟨by rw [He.out]; rfl, Hc4.out⟩
 · have h1 : (x == 0) = false := by simpa using hx
   have He := Lib.hid (HR.out.trans (by rw [decide_eq_false hx, Bool.false_and, Bool.false_and]))
   clear hx
   go_wp2_with fail
   go_ret
   exact ⟨by rw [He.out]; rfl, Hc3.out⟩
def J.findG (j : J) (s : ByteArray) : Option J := if j.kind ≠ 5 then none else if j.names.findIdx (· = s) < j.names.length then j.elems[j.names.findIdx (· = s)]? else none
def LkPost (c : Option J) (f : Nat) (w : World) (e : Ending) (w' : World) : Prop :=
 ∃ v', e = .returned (.tuple #[v', .bool c.isSome]) ∧ JN w.heap.size f w' v' (c.getD J.zero) ∧ Chg [] w w'
set_option maxRecDepth 100000 in
set_option maxHeartbeats 4000000 in
theorem LookupG_any (p : Nat → Prop) (f : Nat) (w : World) (j : J) (v : Value) (s : ByteArray) (hj : JV p f w v j) (hs : Bd j) :
 Calls Tryz.prog 138 #[v, .string s] w (LkPost (j.findG s) f w) := by
 obtain ⟨k, n, t, ns, es⟩ := j
 obtain ⟨na, nc, a, cap, rfl, hns, hes, ⟨hn1, hn2⟩, ⟨hl1, hl2⟩, hts⟩ := hj.shape
 simp only [J.kind, J.num, J.text, J.names, J.elems] at *
 unfold maxLen at hl2 hn2
 obtain ⟨w2, hw2⟩ : ∃ x, x = ((w.alloc (.cells #[.int .i64 k, .int .i64 n, .string t, .slice na ns.length nc, .slice a es.length cap] 59)).alloc (.cells #[.int .i64 0, .int .i64 0, .string ⟨#[]⟩, .slice none 0 0, .slice none 0 0] 59)) := ⟨_, rfl⟩
 have hc2 : Chg [] w w2 := by rw [hw2]; exact ((Chg.refl [] w).alloc _).alloc _
 obtain ⟨b, hbw⟩ : ∃ b, b = w.heap.size := ⟨_, rfl⟩
 have hb2 : w2.heap[b]? = some (.cells #[.int .i64 k, .int .i64 n, .string t, .slice na ns.length nc, .slice a es.length cap] 59 (0, 0)) := by
  rw [hw2, hbw, heap_past _ _ _ (by simp)]
  exact heap_at _ _ _ rfl
 have hr2 : w2.heap[b + 1]? = some (.cells #[.int .i64 0, .int .i64 0, .string ⟨#[]⟩, .slice none 0 0, .slice none 0 0] 59 (0, 0)) := by
  rw [hw2, hbw]
  exact heap_at _ _ _ (by simp)
 have hz2 : w2.heap.size = b + 2 := by rw [hw2, hbw]; simp
 obtain ⟨b0, b1, b2, b3, b4⟩ := box_kept b hb2 (Chg.refl [] w2)
 obtain ⟨r0, r1, r2, r3, r4⟩ := box_kept (b + 1) hr2 (Chg.refl [] w2)
 have lr := lt_of_cell r0
 have lb := lt_of_cell b0
 have fr := fun i => frozen_of_heap (i := i) hr2
 have Hes := Lib.hid hes
 have Hs := Lib.hid hs
 have Hbb := Lib.hid (And.intro hb2 (And.intro hr2 (And.intro hz2 hbw)))
 have Hc2 := Lib.hid hc2
 have Hix := Lib.hid (index_any p w2 _ ns s (strs_kept (S := fun _ => False) hns hc2.p (fun _ _ h => h)))
 have HF : Hid ((J.mk k n t ns es).findG s = if k ≠ 5 then none else if ns.findIdx (· = s) < ns.length then es[ns.findIdx (· = s)]? else none) := Lib.hid rfl
 obtain ⟨z, hz⟩ : ∃ z, z = ix ns s := ⟨_, rfl⟩
 rw [← hz] at Hix
 have Hz := Lib.hid hz
 clear hns hes hb2 hr2 hc2 hj hs hz hz2
 go_enter Tryz.func138, Tryz.ntmps138
 go_upto_region 1 with fail
 rw [← hw2, ← hbw]
 clear hw2 hbw
 go_wp2_with fail
 refine Hix.out.mono ?_
 rintro e w' ⟨rfl, rfl⟩
 obtain ⟨m, hm⟩ : ∃ m, m = ns.findIdx (· = s) := ⟨_, rfl⟩
 by_cases hk : k = 5
 · subst hk
   by_cases hml : m < ns.length
   · obtain rfl : z = (m : Nat) := by rw [Hz.out, hm]; exact ix_yes (by omega)
     by_cases hme : m < es.length
     case neg =>
      have hm1 : decide ((m : Int) < 0) = false := decide_eq_false (by omega)
      have hme2 : decide ((m : Int) ≥ es.length) = true := decide_eq_true (by omega)
      have hme3 : decide ((es.length : Int) ≤ m) = true := decide_eq_true (by omega)
      have hme4 : decide (es.length ≤ m) = true := decide_eq_true (by omega)
      have HF2 := Lib.hid (show (J.mk 5 n t ns es).findG s = none by rw [HF.out, if_neg (by simp), if_pos (by omega), ← hm]; exact List.getElem?_eq_none (by omega))
      clear hm hml HF
      go_wp2_with fail
      have hcs : Chg [b + 1] w' (((((w'.setCell ⟨b + 1, 0, none⟩ (.int .i64 0)).setCell ⟨b + 1, 1, none⟩ (.int .i64 0)).setCell ⟨b + 1, 2, none⟩ (.string ⟨#[]⟩)).setCell ⟨b + 1, 3, none⟩ (.slice none 0 0)).setCell ⟨b + 1, 4, none⟩ (.slice none 0 0)) :=
       (((((Chg.refl [b + 1] w').setCell (Or.inl (by simp)) _).setCell (Or.inl (by simp)) _).setCell (Or.inl (by simp)) _).setCell (Or.inl (by simp)) _).setCell (Or.inl (by simp)) _
      have hcw := Hc2.out.comp hcs fun g hg => Or.inr (by rw [List.mem_singleton.1 hg, Hbb.out.2.2.2]; omega)
      refine bodyPost_ret (v := .tuple #[.agg #[.int .i64 0, .int .i64 0, .string ⟨#[]⟩, .slice none 0 0, .slice none 0 0], .bool false]) (by simp [results, Tryz.results138, go_sem, r0, r1, r2, r3, r4]) rfl ?_
      exact ⟨_, by rw [HF2.out]; rfl, by rw [HF2.out]; exact JV.zero _ _ _, hcw⟩
     have hm0 : ¬ ((m : Int) < 0) := by omega
     have hm1 : decide ((m : Int) < 0) = false := decide_eq_false hm0
     have hme1 : (m : Int) < es.length := by omega
     have hme2 : decide ((es.length : Int) ≤ m) = false := decide_eq_false (by omega)
     have hme3 : decide (es.length ≤ m) = false := decide_eq_false (by omega)
     have HF2 := Lib.hid (show (J.mk 5 n t ns es).findG s = some es[m] by rw [HF.out, if_neg (by simp), if_pos (by omega), ← hm]; exact List.getElem?_eq_getElem hme)
     obtain ⟨g, off, na'', nc'', ia'', ic'', rfl, hpg, e0, e1, e2, e3, e4, f', rfl, hjv⟩ := elem_at Hes.out hme
     obtain ⟨el, hel⟩ : ∃ el, el = es[m] := ⟨_, rfl⟩
     rw [← hel] at e0 e1 e2 e3 e4 hjv HF2
     have hsm : Bd el := Hs.out.elem (hel ▸ List.getElem_mem hme)
     replace e0 := (Hc2.out.cell (lt_of_cell e0) (by simp)).trans e0
     replace e1 := (Hc2.out.cell (lt_of_cell e1) (by simp)).trans e1
     replace e2 := (Hc2.out.cell (lt_of_cell e2) (by simp)).trans e2
     replace e3 := (Hc2.out.cell (lt_of_cell e3) (by simp)).trans e3
     replace e4 := (Hc2.out.cell (lt_of_cell e4) (by simp)).trans e4
     have Hcl := Lib.hid (cloneG_any p f' w' el _ (hjv.kept (S := fun _ => False) Hc2.out.p (fun _ _ h => h)) hsm)
     clear hjv hel hpg hm hml hme hsm HF
     go_wp2_with fail
     refine Hcl.out.mono ?_
     rintro e w3 ⟨v3, rfl, hj3, hc3⟩
     obtain ⟨q5, rfl⟩ := hj3.ev'
     unfold Ev.val at hj3 ⊢
     have hr3 := (hc3.block _ (lt_of_obj Hbb.out.2.1) (by simp)).trans Hbb.out.2.1
     obtain ⟨r0, r1, r2, r3, r4⟩ := box_kept (b + 1) hr3 (Chg.refl [] w3)
     have lr := lt_of_cell r0
     have fr := fun i => frozen_of_heap (i := i) hr3
     have Hc3 := Lib.hid (Hc2.out.trans hc3)
     have Hj3 := Lib.hid hj3
     clear hj3 hc3 hr3
     go_wp2_with fail
     have hcs : Chg [b + 1] w3 (((((w3.setCell ⟨b + 1, 0, none⟩ (.int .i64 q5.k)).setCell ⟨b + 1, 1, none⟩ (.int .i64 q5.n)).setCell ⟨b + 1, 2, none⟩ (.string q5.t)).setCell ⟨b + 1, 3, none⟩ (.slice q5.na q5.nl q5.nc)).setCell ⟨b + 1, 4, none⟩ (.slice q5.ia q5.il q5.ic)) :=
      (((((Chg.refl [b + 1] w3).setCell (Or.inl (by simp)) _).setCell (Or.inl (by simp)) _).setCell (Or.inl (by simp)) _).setCell (Or.inl (by simp)) _).setCell (Or.inl (by simp)) _
     have hcw := Hc3.out.comp hcs fun g hg => Or.inr (by rw [List.mem_singleton.1 hg, Hbb.out.2.2.2]; omega)
     refine bodyPost_ret (v := .tuple #[.agg #[.int .i64 q5.k, .int .i64 q5.n, .string q5.t, .slice q5.na q5.nl q5.nc, .slice q5.ia q5.il q5.ic], .bool true]) (by simp [results, Tryz.results138, go_sem, r0, r1, r2, r3, r4]) rfl ?_
     have hzz := Hbb.out.2.2
     exact ⟨_, by rw [HF2.out]; rfl, by rw [HF2.out]; exact (Hj3.out.kept hcs.toP (fun g hg hm => by have := List.mem_singleton.1 hm; have := hg.1; omega)).imp fun g hg => ⟨by have := hg.1; omega, Nat.lt_of_lt_of_le hg.2 hcs.size⟩, hcw⟩
   · obtain rfl : z = -1 := by rw [Hz.out]; exact ix_no (by omega)
     have HF2 := Lib.hid (show (J.mk 5 n t ns es).findG s = none by rw [HF.out, if_neg (by simp), if_neg (by omega)])
     clear hm hml HF
     go_wp2_with fail
     have hcs : Chg [b + 1] w' (((((w'.setCell ⟨b + 1, 0, none⟩ (.int .i64 0)).setCell ⟨b + 1, 1, none⟩ (.int .i64 0)).setCell ⟨b + 1, 2, none⟩ (.string ⟨#[]⟩)).setCell ⟨b + 1, 3, none⟩ (.slice none 0 0)).setCell ⟨b + 1, 4, none⟩ (.slice none 0 0)) :=
      (((((Chg.refl [b + 1] w').setCell (Or.inl (by simp)) _).setCell (Or.inl (by simp)) _).setCell (Or.inl (by simp)) _).setCell (Or.inl (by simp)) _).setCell (Or.inl (by simp)) _
     have hcw := Hc2.out.comp hcs fun g hg => Or.inr (by rw [List.mem_singleton.1 hg, Hbb.out.2.2.2]; omega)
     refine bodyPost_ret (v := .tuple #[.agg #[.int .i64 0, .int .i64 0, .string ⟨#[]⟩, .slice none 0 0, .slice none 0 0], .bool false]) (by simp [results, Tryz.results138, go_sem, r0, r1, r2, r3, r4]) rfl ?_
     exact ⟨_, by rw [HF2.out]; rfl, by rw [HF2.out]; exact JV.zero _ _ _, hcw⟩
 · have hkb : (k != 5) = true := by simpa using hk
   have HF2 := Lib.hid (HF.out.trans (if_pos hk))
   clear hm HF hk
   go_wp2_with fail
   have hcs : Chg [b + 1] w' (((((w'.setCell ⟨b + 1, 0, none⟩ (.int .i64 0)).setCell ⟨b + 1, 1, none⟩ (.int .i64 0)).setCell ⟨b + 1, 2, none⟩ (.string ⟨#[]⟩)).setCell ⟨b + 1, 3, none⟩ (.slice none 0 0)).setCell ⟨b + 1, 4, none⟩ (.slice none 0 0)) :=
    (((((Chg.refl [b + 1] w').setCell (Or.inl (by simp)) _).setCell (Or.inl (by simp)) _).setCell (Or.inl (by simp)) _).setCell (Or.inl (by simp)) _).setCell (Or.inl (by simp)) _
   have hcw := Hc2.out.comp hcs fun g hg => Or.inr (by rw [List.mem_singleton.1 hg, Hbb.out.2.2.2]; omega)
   refine bodyPost_ret (v := .tuple #[.agg #[.int .i64 0, .int .i64 0, .string ⟨#[]⟩, .slice none 0 0, .slice none 0 0], .bool false]) (by simp [results, Tryz.results138, go_sem, r0, r1, r2, r3, r4]) rfl ?_
   exact ⟨_, by rw [HF2.out]; rfl, by rw [HF2.out]; exact JV.zero _ _ _, hcw⟩
theorem row_set {w : World} {base g n cap sz i : Nat} {e : TypeId} {xs : List Value} {u : Value} (h : w.ownsRow base e sz (.slice (some ⟨g, 0, none⟩) n cap) n xs) (hi : i < n * sz) : (w.setCell ⟨g, i, none⟩ u).ownsRow base e sz (.slice (some ⟨g, 0, none⟩) n cap) n (xs.set i u) := by
 refine ⟨by rw [List.length_set]; exact h.1, ?_⟩
 rcases h.2 with ⟨h0, _⟩ | ⟨g', cap', cur, hv, h1, h2, h3, h4, h5, h6⟩
 · cases h0
 · cases hv
   refine .inr ⟨g, cap, cur.setIfInBounds i u, rfl, h1, heap_setCell_same h2 u, h3, h4, by simpa using h5, ?_⟩
   rw [Array.toList_setIfInBounds, List.take_set, h6]
def st5 (w : World) (g o : Nat) (e : Ev) : World := ((((w.setCell ⟨g, o, none⟩ (.int .i64 e.k)).setCell ⟨g, o + 1, none⟩ (.int .i64 e.n)).setCell ⟨g, o + 2, none⟩ (.string e.t)).setCell ⟨g, o + 3, none⟩ (.slice e.na e.nl e.nc)).setCell ⟨g, o + 4, none⟩ (.slice e.ia e.il e.ic)
theorem st5_chg (w : World) (g o : Nat) (e : Ev) : Chg [g] w (st5 w g o e) := (((((Chg.refl [g] w).setCell (Or.inl (by simp)) _).setCell (Or.inl (by simp)) _).setCell (Or.inl (by simp)) _).setCell (Or.inl (by simp)) _).setCell (Or.inl (by simp)) _
theorem own_ne {w : World} {base size n g : Nat} {v : Value} {xs : List Value} {c : Array Value} (h : w.ownsRow base 9 size v n xs) (hg : v.ownBlock = some g) (hb : w.heap[g]? = some (.cells c 59 (0, 0))) : False := by
 rcases h.2 with ⟨h0, _⟩ | ⟨g', cap', cur, hv, _, h2, _⟩
 · subst h0; cases hg
 · subst hv
   simp only [Value.ownBlock, Option.some.injEq] at hg
   subst hg
   rw [hb] at h2
   cases h2
theorem bset_trans {B b : Nat} {w w1 w2 : World} (h : ChgP (bldSet B b w) w w1) (h' : ChgP (bldSet B b w1) w1 w2) : ChgP (bldSet B b w) w w2 := by
 refine ⟨h'.os.trans h.os, h'.tape.trans h.tape, h'.output.trans h.output, Nat.le_trans h.size h'.size, fun k hk hn => ?_⟩
 have h1 := h.block k hk hn
 refine (h'.block k (Nat.lt_of_lt_of_le hk h.size) fun hs => hn ⟨hs.1, hs.2.imp id fun hne he => hne fun c fr hc => he c fr (by rw [← h1]; exact hc)⟩).trans h1
theorem bset_new {B b : Nat} {w w1 w2 : World} (h : ChgP (bldSet B b w) w w1) (h' : Chg [] w1 w2) : ChgP (bldSet B b w) w w2 := bset_trans h h'.p
theorem bset_pre {B b : Nat} {w w1 w2 : World} (h : Chg [] w w1) (h' : ChgP (bldSet B b w1) w1 w2) : ChgP (bldSet B b w) w w2 := bset_trans h.p h'
theorem bset_below {B b : Nat} {w : World} {k : Nat} (h : k < B) : ¬ bldSet B b w k := fun hs => by have := hs.1; omega
theorem bset_box {B b : Nat} {w : World} {k : Nat} {c : Array Value} (h : w.heap[k]? = some (.cells c 59 (0, 0))) (hk : k ≠ b) : ¬ bldSet B b w k := fun hs => by
 rcases hs.2 with h' | h'
 · exact hk h'
 · exact h' fun c' fr hc => by rw [h] at hc; cases hc
set_option maxHeartbeats 2000000 in
set_option maxRecDepth 1000000 in
theorem writeByte_any (B b : Nat) (bs : List Value) (c : Int) (w : World) (h : IsBld B b bs w) (hlen : bs.length + 1 ≤ 140737488355328) (hBw : B ≤ w.heap.size) :
 Calls Tryz.prog 168 #[.pointer (some ⟨b, 0, none⟩), .int .u8 c] w fun e w' => e = .returned .nilIface ∧ (IsBld B b (bs ++ [.int .u8 c]) w' ∧ ChgP (bldSet B b w) w w') := by
 obtain ⟨i0, hi, hz0, hz1, hz2⟩ := info_parts Tryz.byteInfo
 go_enter Tryz.func168, Tryz.ntmps168
 go_wp2_with fail
 refine (copyCheck_any B b bs _ h).mono ?_
 rintro e w1 ⟨rfl, h1, hb1⟩
 obtain ⟨hB, v, hbk, hown, hne⟩ := h1
 have c0 : w1.cell? ⟨b, 0, none⟩ = some (.pointer (some ⟨b, 0, none⟩)) := by rw [Lib.cell_of_heap hbk]; rfl
 have c1 : w1.cell? ⟨b, 1, none⟩ = some v := by rw [Lib.cell_of_heap hbk]; rfl
 obtain ⟨wx, hwx⟩ : ∃ x, x = w1.alloc (.cells #[.int .u8 c] 5) := ⟨_, rfl⟩
 have hcx : Chg [] w1 wx := by rw [hwx]; exact (Chg.refl _ _).alloc _
 have hnews : ∀ j u, ([.int .u8 c] : List Value)[j]? = some u → wx.cell? ((⟨w1.heap.size, 0, none⟩ : Addr).add j) = some u := by
  intro j u hj
  rw [Addr.add_lit, Nat.zero_add]
  have hx : wx.heap[w1.heap.size]? = some (.cells #[.int .u8 c] 5 (0, 0)) := by rw [hwx]; exact heap_at _ _ _ rfl
  refine cell_of_heap hx ?_
  match j with
  | 0 => simpa using hj
  | j + 1 => simp at hj
 have hownx : wx.ownsRow B 5 1 v bs.length bs := ownsRow_kept hown fun g hg hl => hcx.block g hl (by simp)
 have hbx := (hcx.block b (lt_of_obj hbk) (by simp)).trans hbk
 rw [hwx] at hnews hownx
 go_wp2_with (at_builtin; refine wpList_append_own _ rfl _ _ 137 rfl B 5 i0 (.int .u8 0) 1 1 Tryz.underlying137 hi hz0 hz1 hz2 rfl (by decide) v bs.length bs rfl hownx ⟨w1.heap.size, 0, none⟩ 1 1 [.int .u8 c] rfl rfl hnews (by intro u hu; rw [List.mem_singleton.1 hu]; rfl) ?c3 ?c4 ?c5 ?_)
 case c3 => unfold maxLen; omega
 case c4 => omega
 case c5 => have := hb1.size; simp; omega
 intro v' w2 hown' hgrow _
 rw [← hwx] at hgrow
 have hlt : b < wx.heap.size := lt_of_obj hbx
 have hb2 : w2.heap[b]? = some (.cells #[.pointer (some ⟨b, 0, none⟩), v] 139 (0, 0)) := by
  rw [hgrow.block b hlt (fun e => hne e.symm)]
  exact hbx
 have d0 : w2.cell? ⟨b, 0, none⟩ = some (.pointer (some ⟨b, 0, none⟩)) := by rw [Lib.cell_of_heap hb2]; rfl
 have d1 : w2.cell? ⟨b, 1, none⟩ = some v := by rw [Lib.cell_of_heap hb2]; rfl
 have f1 : w2.frozen? ⟨b, 1, none⟩ = false := Lib.frozen_of_heap hb2 1
 obtain ⟨ao, n', cap, rfl⟩ : ∃ ao n' cap, v' = .slice ao n' cap := by
  rcases hown'.2 with ⟨hv, _⟩ | ⟨g, cap, cur, hv, _⟩
  · exact ⟨_, _, _, hv⟩
  · exact ⟨_, _, _, hv⟩
 go_wp2
 go_ret
 refine ⟨rfl, ?_, ?_⟩
 · exact Or.inr (Lib.BuilderAt.put (T := 139) (e := 5) hB hb2 (bs' := bs ++ [.int .u8 c]) (by simpa using hown') (by decide))
 · have h2 : ChgP (bldSet B b w) w w2 := ((hb1.mono fun k hk => by subst hk; exact ⟨hB, Or.inl rfl⟩).new hcx).grown hgrow fun k hk => by
    obtain ⟨hk1, hk2⟩ := hown.lt k hk
    by_cases hkw : k < w.heap.size
    case neg => exact Or.inr (by omega)
    refine Or.inl ⟨hk1, ?_⟩
    by_cases hkb : k = b
    · exact Or.inl hkb
    · refine Or.inr fun hn => ?_
      rcases hown.2 with ⟨rfl, _⟩ | ⟨g, cap', cur, rfl, _, hg, _⟩
      · simp [Value.ownBlock] at hk
      · simp only [Value.ownBlock, Option.some.injEq] at hk
        subst hk
        rw [hb1.block g hkw hkb] at hg
        exact hn _ _ hg
   exact h2.setCell (p := ⟨b, 1, none⟩) (Or.inl ⟨hB, Or.inl rfl⟩) _
end Go.Proofs.YtjlknaahpjiibaaGreatDoor.Jv
