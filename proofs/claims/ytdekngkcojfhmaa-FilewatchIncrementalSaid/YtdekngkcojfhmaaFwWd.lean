/- FilewatchIncremental: the walk. -/
import Derived.Test.YtdekngkcojfhmaaFwWc
import Derived.Test.YtdekngkcojfhmaaFwX
import Derived.Test.YtdekngkcojfhmaaFwZ
import Derived.Test.YtdekngkcojfhmaaStill
import Derived.StillTailTactics
namespace Go.Proofs.Ytdekngkcojfhmaa
open Go.RowKit Go.ChangeMaps Go.MapKept Go.Shelf
set_option linter.unusedVariables false
set_option linter.unusedSimpArgs false
theorem pw_at2 {α : Type} {R : α → α → Prop} {l : List α} (h : l.Pairwise R) (i : Nat) (d : α) (hi : i + 1 < l.length) : R (l.getD i d) (l.getD (i + 1) d) := by
  have := List.pairwise_iff_getElem.1 h i (i + 1) (by omega) hi (by omega)
  rw [List.getD_eq_getElem?_getD, List.getD_eq_getElem?_getD, List.getElem?_eq_getElem hi, List.getElem?_eq_getElem (show i < l.length by omega)]
  exact this
theorem pol_not (d t : Int) (G : List FEv) : pollG d t (polG d t G) = false := by
  unfold polG
  split
  · rfl
  · rename_i h; simpa using h
theorem pol_len (d t : Int) (G : List FEv) : (polR d t G).length ≤ 1 := by
  unfold polR outG
  split
  · split
    · simp
    · split <;> simp
  · simp
theorem pend_pol (d : Int) (G : List FEv) (e : FEv) (rest : List FEv) : pend d G (e :: rest) = polR d e.1 G ++ pend d (polG d e.1 G ++ [e]) rest := by
  rw [pend_step]
  unfold polR polG
  split <;> simp
theorem pend_end (d : Int) (G : List FEv) (t : Int) (h : ∀ e ∈ G, e.1 + d ≤ t) : pend d G [] = polR d t G := by
  rw [pend_nil]
  unfold polR
  cases hG : G with
  | nil => rfl
  | cons x r =>
    have hp : 0 < G.length := by rw [hG]; simp
    rw [← hG, pollG_ne d t G hp, if_pos]
    refine decide_eq_true (h _ ?_)
    rw [← getLast_getD hp]
    exact getD_memE (by omega)
theorem polG_sub (d t : Int) (E : List FEv) (st k : Nat) (h1 : st ≤ k) (hk : k < E.length) : ∃ st', st' ≤ k ∧ polG d t ((E.take k).drop st) ++ [E.getD k ev0] = (E.take (k + 1)).drop st' ∧ polG d t ((E.take k).drop st) = (E.take k).drop st' := by
  have hs : ∀ s, s ≤ k → (E.take (k + 1)).drop s = (E.take k).drop s ++ [E.getD k ev0] := fun s hs => by
    rw [fold_take_snoc E k hk ev0, List.drop_append_of_le_length (by simp; omega)]
  unfold polG
  split
  · refine ⟨k, Nat.le_refl _, ?_, ?_⟩
    · rw [hs k (Nat.le_refl _), List.drop_eq_nil_of_le (by simp; omega)]
    · rw [List.drop_eq_nil_of_le (by simp; omega)]
  · exact ⟨st, h1, (hs st h1).symm, rfl⟩
set_option maxRecDepth 100000 in
set_option maxHeartbeats 8000000 in
theorem incLaw_any (p : Nat → Prop) (w : World) (v : Value) (E0 : List FEv) (xd : Int) (h : EvsP p w v E0) (hpa : ∀ e ∈ E0, e.2.1.size ≤ maxLen) :
    Calls Try.prog 5 #[v, .int .i64 xd] w fun e w' => e = .returned (.bool true) ∧ Chg [] w w' := by
  have H := Lib.hid h
  have Hpa := Lib.hid hpa
  obtain ⟨d, hd⟩ : ∃ x, modI xd 60 = x := ⟨_, rfl⟩
  have hdb := modI_bd xd 60 (by omega)
  rw [hd] at hdb
  have Hd := Lib.hid (show ∀ W, Calls Try.prog 8 #[.int .i64 xd, .int .i64 60] W fun e w' => e = .returned (.int .i64 d) ∧ w' = W from fun W => by
    refine (mod_any xd 60 W (by omega) (by omega)).mono ?_
    rintro e w' ⟨rfl, rfl⟩
    exact ⟨by rw [hd], rfl⟩)
  have hmf : ∀ (fn : Fn) (first cap : Array Value) (w : World), (Instr.makeFunc fn first cap).run Try.prog w = .ok (.func fn first cap) w := fun _ _ _ _ => rfl
  clear h hpa hd
  go_enter Try.func5, Try.ntmps5
  go_wp2_with fail
  refine (watchExample_any _).mono ?_
  rintro e w1 ⟨rfl, hc1⟩
  have Hc1 := Lib.hid hc1
  have Ht := Lib.hid (timed_any p w1 v E0 (H.out.same hc1) Hpa.out)
  clear hc1
  go_wp2_with fail
  refine Ht.out.mono ?_
  rintro e w2 ⟨tv, E, rfl, hE, hT, hc2⟩
  have Hc2 := Lib.hid (Hc1.out.trans hc2)
  have HB := Lib.hid (batches_any _ w2 tv E d hE.evs (hT.ok (by omega)) (by omega) (by omega))
  have HT := Lib.hid hT
  have HE := Lib.hid hE
  obtain ⟨ta, tc, htv⟩ := ownsRow_shape hE
  subst htv
  clear hE hT hc2
  go_wp2_with fail
  refine (Hd.out _).mono ?_
  rintro e w' ⟨rfl, rfl⟩
  go_wp2_with fail
  refine HB.out.mono ?_
  rintro e w3 ⟨bv, rfl, hB, hc3⟩
  obtain ⟨L, hL⟩ : ∃ L, bat d [] E = L := ⟨_, rfl⟩
  rw [hL] at hB
  obtain ⟨va, vc, rfl, hvl⟩ := hB.shape
  have HbP := Lib.hid hB.bats
  have HL := Lib.hid hL
  have Hc3 := Lib.hid (Hc2.out.trans hc3)
  have HE3 := Lib.hid (HE.out.same hc3)
  unfold maxLen at hvl
  clear hB hc3 hL HE
  go_wp2_with fail
  refine (newWatcher_any w3 d (by omega) (by omega)).mono ?_
  rintro e w4 ⟨rfl, rfl⟩
  go_wp2_with fail
  obtain ⟨wb, hwb⟩ : ∃ n, n = w3.heap.size := ⟨_, rfl⟩
  obtain ⟨b7, hb7⟩ : ∃ n, n = w3.heap.size + 1 := ⟨_, rfl⟩
  obtain ⟨b9, hb9⟩ : ∃ n, n = w3.heap.size + 1 + 1 := ⟨_, rfl⟩
  rw [← hb9, ← hb7, ← hwb]
  obtain ⟨wi, hwi⟩ : ∃ x, x = ((w3.alloc (.cells #[.int .i64 d, .int .i64 0, .slice none 0 0] 58)).alloc (.cells #[.pointer (some ⟨wb, 0, none⟩)] 40)).alloc (.cells #[.slice none 0 0] 26) := ⟨_, rfl⟩
  rw [← hwi]
  have hPI : PI w3 wi b7 b9 wb d 0 (.slice none 0 0) (.slice none 0 0) (fun _ => False) [] [] := by
    refine ⟨?_, ?_, ⟨?_, OwnEv.nil _ _⟩, BatQ.nil _ _ _, fun k h => h.elim, fun k h => h.elim, ?_, by omega⟩
    · rw [hwi, heap_past _ _ _ (by simp; omega)]; exact heap_at _ _ _ (by simp; omega)
    · rw [hwi]; exact heap_at _ _ _ (by simp; omega)
    · rw [hwi, heap_past _ _ _ (by simp; omega), heap_past _ _ _ (by simp; omega)]; exact heap_at _ _ _ (by omega)
    · rw [hwi]; exact (((Chg.refl [] w3).alloc _).alloc _).alloc _
  have HPI := Lib.hid hPI
  clear hPI hwi hb7 hb9 hwb
  go_loopw [42] (fun jj wr => ∃ (k : Nat) (now : Int) (v gv : Value) (q : Nat → Prop) (st : Nat) (got : List Bt), k ≤ E.length ∧ st ≤ k ∧ jj = .int .i64 (k : Nat) ∧ 0 ≤ now ∧ now ≤ 2000 ∧ (k < E.length → now ≤ (E.getD k ev0).1) ∧ got.length ≤ k ∧ Hid (PI w3 wr b7 b9 wb d now v gv q ((E.take k).drop st) got) ∧ Hid (bat d [] E = got ++ pend d ((E.take k).drop st) (E.drop k))) (fun jj _ => E.length - (intOf jj).toNat)
  case atStart => exact ⟨0, 0, _, _, _, 0, [], by omega, by omega, rfl, by omega, by omega, fun h => (HT.out.time _ (getD_memE h)).1, by simp, Lib.hid HPI.out, Lib.hid (by simp [pend])⟩
  case round =>
    clear HPI
    obtain ⟨k, now, v, gv, q, st, got, hk, hst, rfl, hn0, hn1, hnk, hgl, HP, Hbat⟩ := hrel
    by_cases hlt : k < E.length
    · have hk1 : (k : Int) < E.length := by omega
      have hEl := HT.out.len
      obtain ⟨g, off, rfl, _, c0, c1, c2⟩ := (HE3.out.same HP.out.chg).evs.cells k hlt
      have hem := getD_memE hlt
      have htm := HT.out.time _ hem
      have hkd := HT.out.kind _ hem
      have hnk := hnk hlt
      obtain ⟨st', hst', hs1, hs2⟩ := polG_sub d (E.getD k ev0).1 E st k hst hlt
      have hpp := pend_pol d ((E.take k).drop st) (E.getD k ev0) (E.drop (k + 1))
      have hnot := pol_not d (E.getD k ev0).1 ((E.take k).drop st)
      have hdr : E.drop k = E.getD k ev0 :: E.drop (k + 1) := by
        rw [List.drop_eq_getElem_cons hlt, List.getD_eq_getElem?_getD, List.getElem?_eq_getElem hlt]; rfl
      have hbt := Hbat.out
      rw [hdr, hpp, hs1] at hbt
      have hpl := pol_len d (E.getD k ev0).1 ((E.take k).drop st)
      have hnext : k + 1 < E.length → (E.getD k ev0).1 ≤ (E.getD (k + 1) ev0).1 := fun h => pw_at2 (l := E) HT.out.ord k ev0 h
      obtain ⟨ev, hev⟩ : ∃ r, E.getD k ev0 = r := ⟨_, rfl⟩
      rw [hev] at c0 c1 c2 htm hkd hnk hs1 hs2 hbt hpl hnext hnot
      obtain ⟨t, pa, kd⟩ := ev
      have Hev := Lib.hid hev
      simp only at c0 c1 c2 htm hkd hnk hpl hnext
      rw [hs2] at hnot
      have Hcl := Lib.hid (pollC_any w3 wr b7 b9 wb d now t v gv q _ got HP.out ((HT.out.ok (by omega)).sub st k) (by omega) (by omega) (by omega) (by omega) hnk (by omega))
      have HN := Lib.hid (And.intro hs1 (And.intro hs2 (And.intro hbt (And.intro hnext hnot))))
      have lc := lt_of_cell c0
      clear hs1 hs2 hbt hnext hev hem hdr hpp hnot
      go_wp2_with fail
      refine Hcl.out.mono ?_
      rintro e w5 ⟨rfl, v', gv', q', hP5⟩
      have hP5' := hP5
      rw [HN.out.2.1] at hP5'
      have Hev5 := Lib.hid ((HE3.out.same hP5.chg).evs)
      obtain ⟨_, _, he5, _, a0, a1, a2⟩ := Hev5.out.cells k hlt
      simp only [Option.some.injEq, Addr.mk.injEq, and_true] at he5
      obtain ⟨rfl, rfl⟩ := he5
      have hge5 : E.getD k ev0 = (t, pa, kd) := Hev.out
      rw [hge5] at a0 a1 a2
      simp only at a0 a1 a2
      have a7 : w5.cell? ⟨b7, 0, none⟩ = some (.pointer (some ⟨wb, 0, none⟩)) := cell_of_heap hP5.c7 rfl
      have la := lt_of_cell a0
      have l7 := lt_of_cell a7
      have HP5 := Lib.hid hP5'
      have hvk : vk kd = true := by unfold vk; simp; omega
      have Hadd := Lib.hid (fun W (hW : Chg [] w5 W) => add_any W _ wb d t v' _ (t, pa, kd) (hP5'.wat.same hW) ((HT.out.ok (by omega)).sub st' k) (by omega) (by omega) hvk htm.1 (by omega) (Int.le_refl _) HN.out.2.2.2.2 (Nat.le_trans hP5'.chg.size hW.size))
      clear hP5 hP5' hge5
      unfold evV at Hadd
      simp only at Hadd
      go_wp2_with fail
      refine wp_region_readsQ 5 (by kernel_rfl) (by kernel_rfl) ?_
      intro wd hwd
      simp only [List.take_succ_cons, List.take_zero, List.drop_succ_cons, List.drop_zero]
      have hcd : Chg [] w5 wd := by rw [hwd]; exact (Chg.refl [] w5).drew
      have q0 : wd.cell? ⟨g, off + k * 3, none⟩ = some (.int .i64 t) := (hcd.cell la (by simp)).trans a0
      have q1 : wd.cell? ⟨g, off + k * 3 + 1, none⟩ = some (.string pa) := (hcd.cell (p := ⟨g, off + k * 3 + 1, none⟩) la (by simp)).trans a1
      have q2 : wd.cell? ⟨g, off + k * 3 + 2, none⟩ = some (.int .i64 kd) := (hcd.cell (p := ⟨g, off + k * 3 + 2, none⟩) la (by simp)).trans a2
      have q7 : wd.cell? ⟨b7, 0, none⟩ = some (.pointer (some ⟨wb, 0, none⟩)) := (hcd.cell l7 (by simp)).trans a7
      have HPd := Lib.hid (HP5.out.same hcd)
      have Had := Lib.hid (Hadd.out _ hcd)
      clear a0 a1 a2 a7 la l7 hwd Hadd hcd
      repeat go_big_quiet_step (fail)
      refine wpQuiet_nil ?_
      go_wp2_with fail
      refine Had.out.mono ?_
      rintro e w6 ⟨rfl, v6, hw6, hc6, hv6⟩
      have hP6 := HPd.out.wat' hw6 hc6 (fun x hx => by simpa using hx) (fun x hx e => (hv6 x e).elim (HPd.out.qn x hx) (fun hge => by obtain ⟨c, hc⟩ := HPd.out.qt x hx; have := lt_of_obj hc; omega))
      have HN6 := Lib.hid hP6
      clear hw6 hc6 hv6 hP6
      go_wp2_with fail
      refine ⟨⟨k + 1, t, v6, _, _, st', _, by omega, by omega, by go_num, by omega, by omega, HN.out.2.2.2.1, ?_, Lib.hid (by rw [← HN.out.1, HN.out.2.1]; exact HN6.out), Lib.hid (by rw [HN.out.2.2.1, List.append_assoc])⟩, by simp [intOf]; omega⟩
      simp
      omega
    · obtain rfl : k = E.length := by omega
      have hk1 : ¬ ((E.length : Int) < E.length) := by omega
      have hEl := HT.out.len
      have hG := (HT.out.ok (by omega)).sub st E.length
      have Hcl := Lib.hid (pollC_any w3 wr b7 b9 wb d now 1000000 v gv q _ got HP.out hG (by omega) (by omega) (by omega) (by omega) (by omega) (by omega))
      have hbt := Hbat.out
      rw [List.drop_length, pend_end d _ 1000000 (fun e he => by have := HT.out.time e (List.mem_of_mem_take (List.mem_of_mem_drop he)); omega)] at hbt
      have Hbt := Lib.hid hbt
      clear hbt hG
      go_wp2_with fail
      refine Hcl.out.mono ?_
      rintro e w5 ⟨rfl, v', gv', q', hP5⟩
      rw [← Hbt.out, HL.out] at hP5
      have HP5 := Lib.hid hP5
      clear hP5
      go_wp2_with fail
      refine (watchExample_any _).mono ?_
      rintro e w6 ⟨rfl, hc6⟩
      have hP6 := HP5.out.same hc6
      have a9 : w6.cell? ⟨b9, 0, none⟩ = some gv' := cell_of_heap hP6.c9 rfl
      have Heq := Lib.hid (eqBats_any _ _ w6 gv' _ L hP6.bat.bats (HbP.out.same hP6.chg))
      have HP6 := Lib.hid hP6
      clear hP6 hc6
      go_wp2_with fail
      refine Heq.out.mono ?_
      rintro e w7 ⟨rfl, hc7⟩
      have Hend := Lib.hid (Hc3.out.trans (HP6.out.chg.trans hc7))
      clear hc7
      go_wp2_with fail
      go_ret
      exact ⟨rfl, Hend.out⟩
end Go.Proofs.Ytdekngkcojfhmaa
