/- JSON texts, any text: hex4 where the digits are none. -/
import Derived.Test.YtpnaegfldkjikaaDoorJyA
namespace Go.Proofs.YtpnaegfldkjikaaDoor.Jv
open Go.RowKit Go.ChangeMaps Go.MapKept
set_option linter.unusedVariables false
set_option linter.unusedSimpArgs false
set_option maxRecDepth 100000 in
set_option maxHeartbeats 4000000 in
theorem hex4_bad (db : Nat) (s : ByteArray) (o : Nat) (w : World) (h : DS w db s o) (ho : o + 4 ≤ s.size) (hs : s.size ≤ 100000) (hn : hexF 0 ((s.data.toList.drop o).take 4) = none) (hE : Er w) :
    Calls Tryd.prog 70 #[.pointer (some ⟨db, 0, none⟩)] w fun e w' => e = .panicked sx ∧ DS w' db s o ∧ Chg [] w w' := by
  have c0 := h.c0
  have c1 := h.c1
  have lb := lt_of_cell c0
  have H := Lib.hid h
  have hi0 : (0 : Int) ≤ o := by omega
  have hio : (o : Int) ≤ s.size := by omega
  have hi4 : (o : Int) + 4 ≤ s.size := by omega
  have hix : (o : Int) ≤ o + 4 := by omega
  have hw4 : IntKind.i64.wrap ((o : Int) + 4) = (o : Int) + 4 := IntWalk.i64_in _ (by omega)
  have htn : ((o : Int) + 4).toNat = o + 4 := by omega
  have hex : (s.extract o (o + 4)).size = 4 := by rw [ByteArray.size_extract]; omega
  have Hp := Lib.hid (fun W (hW : Chg [] w W) => parse16_bad (s.extract o (o + 4)) hex (by rw [extract_mid]; rw [show o + 4 - o = 4 by omega]; exact hn) W (hE.new hW))
  have He := Lib.hid (fun W => expect_any db true W)
  clear h hn hE
  go_enter Tryd.func70, Tryd.ntmps70
  go_upto_region 1 with fail
  go_quiet ((go_at_call 27; (refine Calls.quiet_of_same (He.out _))))
  go_upto_region 2 with fail
  obtain ⟨w1, hw1⟩ : ∃ x, x = w.drewN nq := ⟨_, rfl⟩
  have hc1 : Chg [] w w1 := by rw [hw1]; exact (Chg.refl _ _).drewN _
  have H1 := Lib.hid (H.out.new hc1)
  have Hc1 := Lib.hid hc1
  rw [← hw1]
  clear hw1 hc1 c0 c1 lb
  refine wp_region_U (fun w' => w'.cell? ⟨db, 0, none⟩ = some (.string s) ∧ w'.cell? ⟨db, 1, none⟩ = some (.int .i64 (o : Nat))) (fun w' => w'.cell? ⟨db, 0, none⟩ = some (.string s) ∧ w'.cell? ⟨db, 1, none⟩ = some (.int .i64 (o : Nat))) 19 (by kernel_rfl) ?_
  intro wd hwd
  have hcd : Chg [] w1 wd := by rw [hwd]; exact (Chg.refl _ _).drew
  have Hd := Lib.hid (H1.out.new hcd)
  have hSW := And.intro Hd.out.c0 Hd.out.c1
  have Hcd := Lib.hid (Hc1.out.trans hcd)
  clear hwd hcd
  refine anyU_pure (i := 0) (v := .pointer (some ⟨db, 0, none⟩)) rfl (by kernel_rfl) (fun _ _ _ h => h) (Or.inl ⟨by rfl, fun w' hS => by go_simp⟩) (fun _ => hSW) hSW ?_
  simp only [Act.put, List.setIfInBounds_toArray, List.set_cons_zero, List.set_cons_succ]
  refine anyU_pure (i := 1) (v := .pointer (some ⟨db, 0, none⟩)) rfl (by kernel_rfl) (fun _ _ _ h => h) (Or.inl ⟨by rfl, fun w' hS => by go_simp⟩) (fun _ => hSW) hSW ?_
  simp only [Act.put, List.setIfInBounds_toArray, List.set_cons_zero, List.set_cons_succ]
  refine anyU_pure (i := 2) (v := .pointer (some ⟨db, 0, none⟩)) rfl (by kernel_rfl) (fun _ _ _ h => h) (Or.inl ⟨by rfl, fun w' hS => by go_simp⟩) (fun _ => hSW) hSW ?_
  simp only [Act.put, List.setIfInBounds_toArray, List.set_cons_zero, List.set_cons_succ]
  refine anyU_keep (i := 3) (v := .string s) rfl (by kernel_rfl) (fun _ _ _ h => h) (Or.inl ⟨by rfl, fun w' hS => by go_simp⟩) (fun _ h => h) (fun _ => hSW) hSW ?_
  simp only [Act.put, List.setIfInBounds_toArray, List.set_cons_zero, List.set_cons_succ]
  refine anyU_pure (i := 4) (v := .pointer (some ⟨db, 0, none⟩)) rfl (by kernel_rfl) (fun _ _ _ h => h) (Or.inl ⟨by rfl, fun w' hS => by go_simp⟩) (fun _ => hSW) hSW ?_
  simp only [Act.put, List.setIfInBounds_toArray, List.set_cons_zero, List.set_cons_succ]
  refine anyU_pure (i := 5) (v := .pointer (some ⟨db, 0, none⟩)) rfl (by kernel_rfl) (fun _ _ _ h => h) (Or.inl ⟨by rfl, fun w' hS => by go_simp⟩) (fun _ => hSW) hSW ?_
  simp only [Act.put, List.setIfInBounds_toArray, List.set_cons_zero, List.set_cons_succ]
  refine anyU_pure (i := 6) (v := .pointer (some ⟨db, 1, none⟩)) rfl (by kernel_rfl) (fun _ _ _ h => h) (Or.inl ⟨by rfl, fun w' hS => by go_simp⟩) (fun _ => hSW) hSW ?_
  simp only [Act.put, List.setIfInBounds_toArray, List.set_cons_zero, List.set_cons_succ]
  refine anyU_keep (i := 7) (v := .int .i64 (o : Nat)) rfl (by kernel_rfl) (fun _ _ _ h => h) (Or.inl ⟨by rfl, fun w' hS => by go_simp⟩) (fun _ h => h) (fun _ => hSW) hSW ?_
  simp only [Act.put, List.setIfInBounds_toArray, List.set_cons_zero, List.set_cons_succ]
  refine anyU_pure (i := 8) (v := .pointer (some ⟨db, 0, none⟩)) rfl (by kernel_rfl) (fun _ _ _ h => h) (Or.inl ⟨by rfl, fun w' hS => by go_simp⟩) (fun _ => hSW) hSW ?_
  simp only [Act.put, List.setIfInBounds_toArray, List.set_cons_zero, List.set_cons_succ]
  refine anyU_pure (i := 9) (v := .pointer (some ⟨db, 0, none⟩)) rfl (by kernel_rfl) (fun _ _ _ h => h) (Or.inl ⟨by rfl, fun w' hS => by go_simp⟩) (fun _ => hSW) hSW ?_
  simp only [Act.put, List.setIfInBounds_toArray, List.set_cons_zero, List.set_cons_succ]
  refine anyU_pure (i := 10) (v := .pointer (some ⟨db, 1, none⟩)) rfl (by kernel_rfl) (fun _ _ _ h => h) (Or.inl ⟨by rfl, fun w' hS => by go_simp⟩) (fun _ => hSW) hSW ?_
  simp only [Act.put, List.setIfInBounds_toArray, List.set_cons_zero, List.set_cons_succ]
  refine anyU_keep (i := 11) (v := .int .i64 (o : Nat)) rfl (by kernel_rfl) (fun _ _ _ h => h) (Or.inl ⟨by rfl, fun w' hS => by go_simp⟩) (fun _ h => h) (fun _ => hSW) hSW ?_
  simp only [Act.put, List.setIfInBounds_toArray, List.set_cons_zero, List.set_cons_succ]
  refine anyU_pure (i := 12) (v := .int .i64 ((o : Int) + 4)) rfl (by kernel_rfl) (fun _ _ _ h => h) (Or.inl ⟨by rfl, fun w' hS => by go_simp⟩) (fun _ => hSW) hSW ?_
  simp only [Act.put, List.setIfInBounds_toArray, List.set_cons_zero, List.set_cons_succ]
  refine anyU_pure (i := 13) (v := .string (s.extract o (o + 4))) rfl (by kernel_rfl) (fun _ _ _ h => h) (Or.inl ⟨by rfl, fun w' hS => by go_simp⟩) (fun _ => hSW) hSW ?_
  simp only [Act.put, List.setIfInBounds_toArray, List.set_cons_zero, List.set_cons_succ]
  refine anyU_one (k := 14) (by kernel_rfl) rfl (fun K hK => ?_)
  go_simp
  refine (Hp.out wd Hcd.out).mono ?_
  rintro e w2 ⟨⟨xv, ta, tb, rfl⟩, hc2⟩
  have H2 := Lib.hid (Hd.out.new hc2)
  have hS2 := And.intro H2.out.c0 H2.out.c1
  have Hc2 := Lib.hid (Hcd.out.trans hc2)
  refine hK _ _ (fun _ => hS2) hS2 ?_
  clear hK K hc2 hSW
  refine anyU_one (k := 15) (by kernel_rfl) rfl (fun K hK => ?_)
  go_simp
  refine hK _ _ (fun _ => hS2) hS2 ?_
  clear hK K
  refine anyU_pure (i := 16) (v := xv) rfl (by kernel_rfl) (fun _ _ _ h => h) (Or.inl ⟨by rfl, fun w' hS => by go_simp⟩) (fun _ => hS2) hS2 ?_
  simp only [Act.put, List.setIfInBounds_toArray, List.set_cons_zero, List.set_cons_succ]
  refine anyU_pure (i := 17) (v := .iface ta tb) rfl (by kernel_rfl) (fun _ _ _ h => h) (Or.inl ⟨by rfl, fun w' hS => by go_simp⟩) (fun _ => hS2) hS2 ?_
  simp only [Act.put, List.setIfInBounds_toArray, List.set_cons_zero, List.set_cons_succ]
  refine anyU_one (k := 18) (by kernel_rfl) rfl (fun K hK => ?_)
  go_simp
  refine hK _ _ (fun _ => hS2) hS2 ?_
  clear hK K
  refine anyU_one (k := 19) (by kernel_rfl) rfl (fun K hK => ?_)
  go_simp
  refine hK _ _ (fun h => by simp at h) hS2 ?_
  clear hK K hS2
  refine anyU_done (by kernel_rfl) ?_
  go_wp2_with fail
  refine (expect_any db false w2).mono ?_
  rintro e w3 ⟨rfl, rfl⟩
  go_wp2_with fail
  exact ⟨rfl, rfl, H2.out, Hc2.out⟩
theorem hxD_lt {a d : Nat} (h : hxD a = some d) : d < 16 := by
  unfold hxD at h
  split at h
  · cases h; omega
  split at h
  · cases h; omega
  split at h
  · cases h; omega
  · cases h
theorem hexF_lt : ∀ (l : List UInt8) (acc n : Nat), hexF acc l = some n → n < (acc + 1) * 16 ^ l.length
  | [], acc, n, h => by
    simp only [hexF, Option.some.injEq] at h
    subst h
    simp
  | c :: r, acc, n, h => by
    rw [hexF] at h
    cases hd : hxD c.toNat with
    | none => simp [hd] at h
    | some d =>
      simp only [hd] at h
      have h1 := hexF_lt r _ n h
      have h2 := hxD_lt hd
      have h3 : (acc * 16 + d + 1) * 16 ^ r.length ≤ ((acc + 1) * 16) * 16 ^ r.length := Nat.mul_le_mul_right _ (by omega)
      rw [List.length_cons, Nat.pow_succ, Nat.mul_comm (16 ^ r.length) 16, ← Nat.mul_assoc]
      omega
/-- hex4, on any text -/
theorem hex4_any (db : Nat) (s : ByteArray) (o : Nat) (w : World) (h : DS w db s o) (ho : o ≤ s.size) (hs : s.size ≤ 100000) (hE : Er w) :
    Calls Tryd.prog 70 #[.pointer (some ⟨db, 0, none⟩)] w fun e w' => (e = .panicked sx ∧ Chg [db] w w') ∨ ∃ n : Nat, n < 65536 ∧ e = .returned (.int .i32 (n : Nat)) ∧ o + 4 ≤ s.size ∧ DS w' db s (o + 4) ∧ Chg [db] w w' := by
  by_cases h4 : o + 4 ≤ s.size
  · have hl : ((s.data.toList.drop o).take 4).length = 4 := by
      rw [List.length_take, List.length_drop]
      have : s.data.toList.length = s.size := rfl
      omega
    cases hx : hexF 0 ((s.data.toList.drop o).take 4) with
    | none => exact (hex4_bad db s o w h h4 hs hx hE).mono fun e w' ⟨h1, _, h3⟩ => Or.inl ⟨h1, h3.mono (by simp)⟩
    | some n =>
      have hn := hexF_lt _ _ _ hx
      rw [hl] at hn
      exact (hex4_yes db s o n w h h4 hs hx (by omega)).mono fun e w' ⟨h1, h2, h3⟩ => Or.inr ⟨n, by omega, h1, h4, h2, h3⟩
  · exact (hex4_short db s o w h (by omega) ho hs).mono fun e w' ⟨h1, _, h3⟩ => Or.inl ⟨h1, h3.mono (by simp)⟩
end Go.Proofs.YtpnaegfldkjikaaDoor.Jv
