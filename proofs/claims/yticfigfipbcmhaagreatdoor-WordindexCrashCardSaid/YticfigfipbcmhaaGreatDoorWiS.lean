/- The document's EqualIndexes, at two readings of one index. -/
import Derived.Test.YticfigfipbcmhaaGreatDoorWiR
namespace Go.Proofs.YticfigfipbcmhaaGreatDoor
open Go.RowKit Go.ChangeMaps Go.MapKept Go.Shelf
set_option linter.unusedVariables false
set_option linter.unusedSimpArgs false
set_option maxRecDepth 100000 in
set_option maxHeartbeats 4000000 in
theorem eqIx_any (p1 q1 p2 q2 : Nat → Prop) (w : World) (v1 v2 : Value) (I : List Ie) (h1 : IxP p1 q1 w v1 I) (h2 : IxP p2 q2 w v2 I) :
    Calls Tryz.prog 12 #[v1, v2] w fun e w' => e = .returned (.bool true) ∧ Chg [] w w' := by
  obtain ⟨a1, cap1, rfl, hml, hcp1⟩ := h1.shape
  obtain ⟨a2, cap2, rfl, _, hcp2⟩ := h2.shape
  have H1 := Lib.hid h1
  have H2 := Lib.hid h2
  unfold maxLen at hml
  clear h1 h2
  go_enter Tryz.func12, Tryz.ntmps12
  go_wp2_with fail
  go_loopw [13] (fun i wr => ∃ k : Nat, k ≤ I.length ∧ i = .int .i64 (k : Nat) ∧ Hid (Chg [] w wr)) (fun i _ => I.length - (intOf i).toNat)
  case atStart => exact ⟨0, by omega, rfl, Lib.hid (Chg.refl _ _)⟩
  case round =>
    obtain ⟨k, hk, rfl, Hc⟩ := hrel
    by_cases hlt : k < I.length
    · obtain ⟨g1, o1, rfl, _, x0, x1, ua, uc, x2, hs1⟩ := (H1.out.same Hc.out).cells k hlt
      obtain ⟨g2, o2, rfl, _, y0, y1, va, vc, y2, hs2⟩ := (H2.out.same Hc.out).cells k hlt
      obtain ⟨x, hx⟩ : ∃ x, I.getD k ie0 = x := ⟨_, rfl⟩
      rw [hx] at x0 x1 x2 hs1 y0 y1 y2 hs2
      obtain ⟨nm, sm, ws⟩ := x
      simp only at x0 x1 x2 hs1 y0 y1 y2 hs2
      have l1 := lt_of_cell x0
      have l2 := lt_of_cell y0
      have hk1 : (k : Int) < I.length := by omega
      have hk0 : (0 : Int) ≤ (k : Int) := by omega
      have hb : (nm.toList == nm.toList) = true := by rw [beqS]; exact decide_eq_true rfl
      have Heq := Lib.hid (fun (W : World) (hW : Chg [] wr W) => eqStrs_any q1 q2 W _ _ ws (hs1.same hW) (hs2.same hW))
      clear hx hs1 hs2
      go_upto_region 6 with (fail)
      go_region_held3 (fun W => W.cell? ⟨g1, o1 + k * 3, none⟩ = some (.string nm) ∧ W.cell? ⟨g1, o1 + k * 3 + 1, none⟩ = some (.int .u32 sm) ∧ W.cell? ⟨g1, o1 + k * 3 + 2, none⟩ = some (.slice ua ws.length uc) ∧ W.cell? ⟨g2, o2 + k * 3, none⟩ = some (.string nm) ∧ W.cell? ⟨g2, o2 + k * 3 + 1, none⟩ = some (.int .u32 sm) ∧ W.cell? ⟨g2, o2 + k * 3 + 2, none⟩ = some (.slice va ws.length vc))
        (first | (go_keep; done) | (exact ⟨r0, r1, r2, s0, s1, s2⟩))
        (first | (go_at_call 13; refine (Heq.out _ (Chg.refl [] wr).drew).mono ?_; rintro e w5 ⟨rfl, hc5'⟩; have hc5 : Chg [] wr w5 := ((Chg.refl [] wr).drew).trans hc5'; have r0 := (hc5.cell l1 (by simp)).trans x0; have r1 := (hc5.cell (p := ⟨g1, o1 + k * 3 + 1, none⟩) l1 (by simp)).trans x1; have r2 := (hc5.cell (p := ⟨g1, o1 + k * 3 + 2, none⟩) l1 (by simp)).trans x2; have s0 := (hc5.cell l2 (by simp)).trans y0; have s1 := (hc5.cell (p := ⟨g2, o2 + k * 3 + 1, none⟩) l2 (by simp)).trans y1; have s2 := (hc5.cell (p := ⟨g2, o2 + k * 3 + 2, none⟩) l2 (by simp)).trans y2; have H5 := Lib.hid (Hc.out.trans hc5); clear hc5 hc5'))
      all_goals
        go_wp2_with fail
        exact ⟨⟨k + 1, by omega, by go_num, H5⟩, by simp [intOf]; omega⟩
    · have hk1 : ¬ ((k : Int) < I.length) := by omega
      go_wp2_with fail
      go_ret
      exact ⟨rfl, Hc.out⟩
end Go.Proofs.YticfigfipbcmhaaGreatDoor
