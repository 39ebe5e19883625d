/- JSON texts: hex4, an escape of a control byte. -/
import Derived.Test.YtpnaegfldkjikaaDoorJvT
namespace Go.Proofs.YtpnaegfldkjikaaDoor.Jv
open Go.RowKit Go.ChangeMaps Go.MapKept
set_option linter.unusedVariables false
set_option linter.unusedSimpArgs false
theorem bytesWorld_chg (w : World) (t : ByteArray) : Chg [] w (Lib.bytesWorld w 5 t) := Chg.of_below (Lib.bytesWorld_below w _ t)
theorem extract_mid (s : ByteArray) (o q : Nat) : (s.extract o q).data.toList = (s.data.toList.drop o).take (q - o) := Lib.extract_data s o q
/-- the hexadecimal digits parsed by the library -/
theorem parse16 (t : ByteArray) (ht : t.size = 4) (n : Nat) (h : hexF 0 t.data.toList = some n) (w : World) :
    Calls Tryd.prog 82 #[.string t, .int .i64 16, .int .i64 32] w fun e w' => e = .returned (.tuple #[.int .u64 (n : Nat), .nilIface]) ∧ Chg [] w w' := by
  have H := Lib.hid (puint16 t ht w)
  go_enter Tryd.func82, Tryd.ntmps82
  go_wp2_with fail
  refine H.out.mono ?_
  rintro e w' ⟨rfl, rfl⟩
  rw [h]
  unfold hexTup
  simp only
  go_wp2_with fail
  go_ret2
  exact ⟨rfl, bytesWorld_chg _ _⟩
set_option maxHeartbeats 4000000 in
theorem hex4_yes (db : Nat) (s : ByteArray) (o n : Nat) (w : World) (h : DS w db s o) (ho : o + 4 ≤ s.size) (hs : s.size ≤ 100000) (hn : hexF 0 ((s.data.toList.drop o).take 4) = some n) (hn2 : n < 65536) :
    Calls Tryd.prog 70 #[.pointer (some ⟨db, 0, none⟩)] w fun e w' => e = .returned (.int .i32 (n : Nat)) ∧ DS w' db s (o + 4) ∧ Chg [db] w w' := by
  have c0 := h.c0
  have c1 := h.c1
  have lb := lt_of_cell c0
  have H := Lib.hid h
  have hi0 : (0 : Int) ≤ o := by omega
  have hio : (o : Int) ≤ s.size := by omega
  have hi4 : (o : Int) + 4 ≤ s.size := by omega
  have hix : (o : Int) ≤ o + 4 := by omega
  have hw4 : IntKind.i64.wrap ((o : Int) + 4) = (o : Int) + 4 := IntWalk.i64_in _ (by omega)
  have htn : ((o : Int) + 4).toNat = o + 4 := by omega
  have hex : (s.extract o (o + 4)).size = 4 := by rw [ByteArray.size_extract]; omega
  have Hp := Lib.hid (fun W => parse16 (s.extract o (o + 4)) hex n (by rw [extract_mid]; rw [show o + 4 - o = 4 by omega]; exact hn) W)
  have He := Lib.hid (fun W => expect_any db true W)
  clear h hn
  go_enter Tryd.func70, Tryd.ntmps70
  go_upto_region 1 with fail
  go_quiet ((go_at_call 27; (refine Calls.quiet_of_same (He.out _))))
  go_upto_region 2 with fail
  obtain ⟨w1, hw1⟩ : ∃ x, x = w.drewN nq := ⟨_, rfl⟩
  have hc1 : Chg [] w w1 := by rw [hw1]; exact (Chg.refl _ _).drewN _
  have H1 := Lib.hid (H.out.new hc1)
  have Hc1 := Lib.hid hc1
  rw [← hw1]
  clear hw1 hc1 c0 c1 lb
  refine wp_region_U (fun w' => w'.cell? ⟨db, 0, none⟩ = some (.string s) ∧ w'.cell? ⟨db, 1, none⟩ = some (.int .i64 (o : Nat))) (fun w' => w'.cell? ⟨db, 0, none⟩ = some (.string s) ∧ w'.cell? ⟨db, 1, none⟩ = some (.int .i64 (o : Nat))) 19 (by kernel_rfl) ?_
  intro wd hwd
  have hcd : Chg [] w1 wd := by rw [hwd]; exact (Chg.refl _ _).drew
  have Hd := Lib.hid (H1.out.new hcd)
  have hSW := And.intro Hd.out.c0 Hd.out.c1
  have Hcd := Lib.hid (Hc1.out.trans hcd)
  clear hwd hcd
  refine anyU_pure (i := 0) (v := .pointer (some ⟨db, 0, none⟩)) rfl (by kernel_rfl) (fun _ _ _ h => h) (Or.inl ⟨by rfl, fun w' hS => by go_simp⟩) (fun _ => hSW) hSW ?_
  simp only [Act.put, List.setIfInBounds_toArray, List.set_cons_zero, List.set_cons_succ]
  refine anyU_pure (i := 1) (v := .pointer (some ⟨db, 0, none⟩)) rfl (by kernel_rfl) (fun _ _ _ h => h) (Or.inl ⟨by rfl, fun w' hS => by go_simp⟩) (fun _ => hSW) hSW ?_
  simp only [Act.put, List.setIfInBounds_toArray, List.set_cons_zero, List.set_cons_succ]
  refine anyU_pure (i := 2) (v := .pointer (some ⟨db, 0, none⟩)) rfl (by kernel_rfl) (fun _ _ _ h => h) (Or.inl ⟨by rfl, fun w' hS => by go_simp⟩) (fun _ => hSW) hSW ?_
  simp only [Act.put, List.setIfInBounds_toArray, List.set_cons_zero, List.set_cons_succ]
  refine anyU_keep (i := 3) (v := .string s) rfl (by kernel_rfl) (fun _ _ _ h => h) (Or.inl ⟨by rfl, fun w' hS => by go_simp⟩) (fun _ h => h) (fun _ => hSW) hSW ?_
  simp only [Act.put, List.setIfInBounds_toArray, List.set_cons_zero, List.set_cons_succ]
  refine anyU_pure (i := 4) (v := .pointer (some ⟨db, 0, none⟩)) rfl (by kernel_rfl) (fun _ _ _ h => h) (Or.inl ⟨by rfl, fun w' hS => by go_simp⟩) (fun _ => hSW) hSW ?_
  simp only [Act.put, List.setIfInBounds_toArray, List.set_cons_zero, List.set_cons_succ]
  refine anyU_pure (i := 5) (v := .pointer (some ⟨db, 0, none⟩)) rfl (by kernel_rfl) (fun _ _ _ h => h) (Or.inl ⟨by rfl, fun w' hS => by go_simp⟩) (fun _ => hSW) hSW ?_
  simp only [Act.put, List.setIfInBounds_toArray, List.set_cons_zero, List.set_cons_succ]
  refine anyU_pure (i := 6) (v := .pointer (some ⟨db, 1, none⟩)) rfl (by kernel_rfl) (fun _ _ _ h => h) (Or.inl ⟨by rfl, fun w' hS => by go_simp⟩) (fun _ => hSW) hSW ?_
  simp only [Act.put, List.setIfInBounds_toArray, List.set_cons_zero, List.set_cons_succ]
  refine anyU_keep (i := 7) (v := .int .i64 (o : Nat)) rfl (by kernel_rfl) (fun _ _ _ h => h) (Or.inl ⟨by rfl, fun w' hS => by go_simp⟩) (fun _ h => h) (fun _ => hSW) hSW ?_
  simp only [Act.put, List.setIfInBounds_toArray, List.set_cons_zero, List.set_cons_succ]
  refine anyU_pure (i := 8) (v := .pointer (some ⟨db, 0, none⟩)) rfl (by kernel_rfl) (fun _ _ _ h => h) (Or.inl ⟨by rfl, fun w' hS => by go_simp⟩) (fun _ => hSW) hSW ?_
  simp only [Act.put, List.setIfInBounds_toArray, List.set_cons_zero, List.set_cons_succ]
  refine anyU_pure (i := 9) (v := .pointer (some ⟨db, 0, none⟩)) rfl (by kernel_rfl) (fun _ _ _ h => h) (Or.inl ⟨by rfl, fun w' hS => by go_simp⟩) (fun _ => hSW) hSW ?_
  simp only [Act.put, List.setIfInBounds_toArray, List.set_cons_zero, List.set_cons_succ]
  refine anyU_pure (i := 10) (v := .pointer (some ⟨db, 1, none⟩)) rfl (by kernel_rfl) (fun _ _ _ h => h) (Or.inl ⟨by rfl, fun w' hS => by go_simp⟩) (fun _ => hSW) hSW ?_
  simp only [Act.put, List.setIfInBounds_toArray, List.set_cons_zero, List.set_cons_succ]
  refine anyU_keep (i := 11) (v := .int .i64 (o : Nat)) rfl (by kernel_rfl) (fun _ _ _ h => h) (Or.inl ⟨by rfl, fun w' hS => by go_simp⟩) (fun _ h => h) (fun _ => hSW) hSW ?_
  simp only [Act.put, List.setIfInBounds_toArray, List.set_cons_zero, List.set_cons_succ]
  refine anyU_pure (i := 12) (v := .int .i64 ((o : Int) + 4)) rfl (by kernel_rfl) (fun _ _ _ h => h) (Or.inl ⟨by rfl, fun w' hS => by go_simp⟩) (fun _ => hSW) hSW ?_
  simp only [Act.put, List.setIfInBounds_toArray, List.set_cons_zero, List.set_cons_succ]
  refine anyU_pure (i := 13) (v := .string (s.extract o (o + 4))) rfl (by kernel_rfl) (fun _ _ _ h => h) (Or.inl ⟨by rfl, fun w' hS => by go_simp⟩) (fun _ => hSW) hSW ?_
  simp only [Act.put, List.setIfInBounds_toArray, List.set_cons_zero, List.set_cons_succ]
  refine anyU_one (k := 14) (by kernel_rfl) rfl (fun K hK => ?_)
  go_simp
  refine (Hp.out wd).mono ?_
  rintro e w2 ⟨rfl, hc2⟩
  have H2 := Lib.hid (Hd.out.new hc2)
  have hS2 := And.intro H2.out.c0 H2.out.c1
  have Hc2 := Lib.hid (Hcd.out.trans hc2)
  refine hK _ _ (fun _ => hS2) hS2 ?_
  clear hK K hc2 hSW
  refine anyU_one (k := 15) (by kernel_rfl) rfl (fun K hK => ?_)
  go_simp
  refine hK _ _ (fun _ => hS2) hS2 ?_
  clear hK K
  refine anyU_pure (i := 16) (v := .int .u64 (n : Nat)) rfl (by kernel_rfl) (fun _ _ _ h => h) (Or.inl ⟨by rfl, fun w' hS => by go_simp⟩) (fun _ => hS2) hS2 ?_
  simp only [Act.put, List.setIfInBounds_toArray, List.set_cons_zero, List.set_cons_succ]
  refine anyU_pure (i := 17) (v := .nilIface) rfl (by kernel_rfl) (fun _ _ _ h => h) (Or.inl ⟨by rfl, fun w' hS => by go_simp⟩) (fun _ => hS2) hS2 ?_
  simp only [Act.put, List.setIfInBounds_toArray, List.set_cons_zero, List.set_cons_succ]
  refine anyU_one (k := 18) (by kernel_rfl) rfl (fun K hK => ?_)
  go_simp
  refine hK _ _ (fun _ => hS2) hS2 ?_
  clear hK K
  refine anyU_one (k := 19) (by kernel_rfl) rfl (fun K hK => ?_)
  go_simp
  refine hK _ _ (fun h => by simp at h) hS2 ?_
  clear hK K hS2
  refine anyU_done (by kernel_rfl) ?_
  have c1 := H2.out.c1
  have f1 := H2.out.fz 1
  have lb := lt_of_cell c1
  have hcv : IntKind.i32.wrap (n : Int) = (n : Int) := by
    rw [IntKind.wrap_i32]
    omega
  go_wp2_with fail
  refine (He.out w2).mono ?_
  rintro e w3 ⟨rfl, rfl⟩
  go_wp2_with fail
  go_ret
  exact ⟨rfl, H2.out.setI (by omega), (Hc2.out.mono (T := [db]) (by simp)).trans (set_chg _ _ _)⟩
end Go.Proofs.YtpnaegfldkjikaaDoor.Jv
