/- wordindex: valid. -/
import Derived.Test.YticfigfipbcmhaaGreatDoorWiL
namespace Go.Proofs.YticfigfipbcmhaaGreatDoor
open Go.RowKit Go.ChangeMaps Go.MapKept Go.Shelf
set_option linter.unusedVariables false
set_option linter.unusedSimpArgs false
theorem cb_less : ∀ (a b : List UInt8), Lib.compareBytes a b < 0 → Op.bytesLess a b = true := by
  intro a
  induction a with
  | nil => intro b h; cases b <;> simp_all [Lib.compareBytes, Op.bytesLess]
  | cons x a ih =>
    intro b h
    cases b with
    | nil => simp [Lib.compareBytes] at h
    | cons y b =>
      unfold Lib.compareBytes at h
      unfold Op.bytesLess
      rw [Bool.or_eq_true, Bool.and_eq_true, decide_eq_true_iff, beq_iff_eq]
      by_cases h1 : x < y
      · exact Or.inl h1
      · rw [if_neg h1] at h
        by_cases h2 : y < x
        · rw [if_pos h2] at h; omega
        · rw [if_neg h2] at h
          rw [UInt8.lt_iff_toNat_lt] at h1 h2
          exact Or.inr ⟨UInt8.toNat_inj.1 (by omega), ih b h⟩
theorem ltN_less {a b : ByteArray} (h : ltN a b) : Op.bytesLess a.toList b.toList = true := by
  rw [ByteArray.toList_eq, ByteArray.toList_eq]
  exact cb_less _ _ h
/-- an index that Update takes -/
structure IxOk (I : List Ie) : Prop where
  len : I.length ≤ 20
  lt : I.Pairwise fun a b => ltN a.1 b.1
  ok : ∀ x ∈ I, 0 < x.1.size ∧ x.1.size ≤ 60 ∧ WsOk x.2.2
theorem getD_eqI {l : List Ie} {i : Nat} (h : i < l.length) : l.getD i ie0 = l[i] := by rw [List.getD_eq_getElem?_getD, List.getElem?_eq_getElem h]; rfl
theorem ne_toList {z : ByteArray} (h : 0 < z.size) : (z.toList == []) = false := by
  rw [beq_eq_false_iff_ne, ByteArray.toList_eq]
  intro e
  have : z.data.toList.length = 0 := by rw [e]; rfl
  have h3 : z.data.toList.length = z.size := rfl
  omega
set_option maxRecDepth 100000 in
set_option maxHeartbeats 4000000 in
theorem valid_any (p q : Nat → Prop) (w : World) (v : Value) (I : List Ie) (h : IxP p q w v I) (hok : IxOk I) :
    Calls Tryz.prog 19 #[v] w fun e w' => e = .returned (.bool true) ∧ Chg [] w w' := by
  obtain ⟨a, cap, rfl, hml, hcp⟩ := h.shape
  have H := Lib.hid h
  have Hok := Lib.hid hok
  have hl4 : (I.length : Int) ≤ 20 := by have := hok.len; omega
  unfold maxLen at hml
  clear h hok
  go_enter Tryz.func19, Tryz.ntmps19
  go_wp2_with fail
  go_loopw [7] (fun i wr => ∃ (k : Nat), k ≤ I.length ∧ i = .int .i64 (k : Nat) ∧ Hid (Chg [] w wr)) (fun i _ => I.length - (intOf i).toNat)
  case atStart => exact ⟨0, by omega, rfl, Lib.hid (Chg.refl _ _)⟩
  case round =>
    obtain ⟨k, hk, rfl, Hw⟩ := hrel
    by_cases hlt : k < I.length
    · obtain ⟨g, off, rfl, _, c0, c1, ua, uc, c2, hs⟩ := (H.out.same Hw.out).cells k hlt
      obtain ⟨x, hx⟩ : ∃ r, I.getD k ie0 = r := ⟨_, rfl⟩
      have Hx := Lib.hid ((getD_eqI hlt).symm.trans hx)
      rw [hx] at c0 c1 c2 hs
      clear hx
      have hxm : x ∈ I := by rw [← Hx.out]; exact List.getElem_mem hlt
      have Hxo := Lib.hid (Hok.out.ok x hxm)
      clear hxm
      obtain ⟨nm, sm, ws⟩ := x
      simp only at c0 c1 c2 hs
      have lg := lt_of_cell c0
      have hk1 : (k : Int) < I.length := by omega
      have hk0 : (0 : Int) ≤ (k : Int) := by omega
      have hze : (nm.toList == []) = false := ne_toList Hxo.out.1
      have h60 : decide ((60 : Int) < (nm.size : Int)) = false := decide_eq_false (by have := Hxo.out.2.1; simp only at this; omega)
      have h60n : decide (60 < nm.size) = false := decide_eq_false (by have := Hxo.out.2.1; simp only at this; omega)
      obtain ⟨w2, hw2⟩ : ∃ q, q = wr.alloc (.cells #[.string nm, .int .u32 sm, .slice ua ws.length uc] 40) := ⟨_, rfl⟩
      obtain ⟨n2, hn2⟩ : ∃ q, q = wr.heap.size := ⟨_, rfl⟩
      have hc2 : Chg [] wr w2 := by rw [hw2]; exact (Chg.refl [] _).alloc _
      have hb2 : w2.heap[n2]? = some (.cells #[.string nm, .int .u32 sm, .slice ua ws.length uc] 40 (0, 0)) := by rw [hw2, hn2]; exact heap_at _ _ _ rfl
      have d0 : w2.cell? ⟨n2, 0, none⟩ = some (.string nm) := cell_of_heap hb2 rfl
      have d2 : w2.cell? ⟨n2, 2, none⟩ = some (.slice ua ws.length uc) := cell_of_heap hb2 rfl
      have ld := lt_of_cell d0
      have Hvw := Lib.hid (fun (W : World) (hW : Chg [] wr W) => validWords_any q W _ ws (hs.same hW) Hxo.out.2.2)
      have HW2 := Lib.hid (And.intro hw2 hn2)
      have Hc2 := Lib.hid hc2
      have Hc02 := Lib.hid (Hw.out.trans hc2)
      clear hw2 hn2 hc2 hb2 hs
      go_upto_region 4 with (fail)
      rw [← HW2.out.1, ← HW2.out.2]
      by_cases hkz : k = 0
      · have hkp : decide ((0 : Int) < (k : Int)) = false := decide_eq_false (by omega)
        have hkn : decide (0 < k) = false := decide_eq_false (by omega)
        clear hkz
        go_quiet ((go_at_call 37; (refine Calls.quiet_of_same (Hvw.out _ ?_)); first | exact Hc2.out.drewN _ | exact Hc2.out.drew | exact Hc2.out))
        go_wp2_with fail
        exact ⟨⟨k + 1, by omega, by go_num, Lib.hid (Hc02.out.drewN _)⟩, by simp [intOf]; omega⟩
      · have hkp : (0 : Int) < (k : Int) := by omega
        have hkn : decide (0 < k) = true := decide_eq_true (by omega)
        obtain ⟨j, hj⟩ : ∃ j : Nat, (k : Int) - 1 = (j : Int) := ⟨k - 1, by omega⟩
        have hjl : j < I.length := by omega
        obtain ⟨g', off', he, _, b0, _⟩ := (H.out.same Hc02.out).cells j hjl
        cases he
        obtain ⟨y, hy⟩ : ∃ r, (I.getD j ie0).1 = r := ⟨_, rfl⟩
        rw [hy] at b0
        have hyz : Op.bytesLess y.toList nm.toList = true := by
          refine ltN_less ?_
          have := (List.pairwise_iff_getElem.1 Hok.out.lt) j k hjl hlt (by omega)
          rw [Hx.out] at this
          rw [← hy, getD_eqI hjl]
          exact this
        have hj1 : (j : Int) < I.length := by omega
        have hj0 : (0 : Int) ≤ (j : Int) := by omega
        have hjw : IntKind.i64.wrap ((k : Int) - 1) = (j : Int) := by rw [IntWalk.i64_in _ (by omega), hj]
        clear hy hkz hj
        go_quiet ((go_at_call 37; (refine Calls.quiet_of_same (Hvw.out _ ?_)); first | exact Hc2.out.drewN _ | exact Hc2.out.drew | exact Hc2.out))
        go_wp2_with fail
        exact ⟨⟨k + 1, by omega, by go_num, Lib.hid (Hc02.out.drewN _)⟩, by simp [intOf]; omega⟩
    · have hk1 : ¬ ((k : Int) < I.length) := by omega
      go_wp2_with fail
      go_ret
      exact ⟨rfl, Hw.out⟩
end Go.Proofs.YticfigfipbcmhaaGreatDoor
