/- wordindex: documents, checked. -/
import Derived.Test.YticfigfipbcmhaaGreatDoorWiC
namespace Go.Proofs.YticfigfipbcmhaaGreatDoor
open Go.RowKit Go.ChangeMaps Go.MapKept Go.Shelf
set_option linter.unusedVariables false
set_option linter.unusedSimpArgs false
theorem ret_int {k : IntKind} {a b : Int} (h : a = b) : Ending.returned (.int k a) = .returned (.int k b) := by rw [h]
def ckStep (h : Nat) (b : UInt8) : Nat := ((h ^^^ b.toNat) * 16777619) % 4294967296
def ck0 : Nat := 2166136261
theorem ck0_lt : ck0 < 4294967296 := by unfold ck0; decide
def ck (l : List UInt8) : Nat := l.foldl ckStep ck0
theorem ckStep_lt (h : Nat) (b : UInt8) : ckStep h b < 4294967296 := Nat.mod_lt _ (by decide)
theorem ck_fold_lt (l : List UInt8) : ∀ h, h < 4294967296 → l.foldl ckStep h < 4294967296 := by
  induction l with
  | nil => intro h hh; exact hh
  | cons b r ih => intro h _; exact ih _ (ckStep_lt h b)
theorem ck_lt (l : List UInt8) : ck l < 4294967296 := ck_fold_lt l _ ck0_lt
theorem take_fold (s : ByteArray) (k : Nat) (hk : k < s.size) (h0 : Nat) : (s.data.toList.take (k + 1)).foldl ckStep h0 = ckStep ((s.data.toList.take k).foldl ckStep h0) s[k] := by
  have e : s.data.toList[k]'(by simpa using hk) = s[k] := rfl
  rw [List.take_succ_eq_append_getElem (by simpa using hk), List.foldl_append, List.foldl_cons, List.foldl_nil, e]
theorem xor_step (h : Nat) (b : UInt8) (hh : h < 4294967296) : bits .xor .u32 (h : Int) ((b.toNat : Int) % 4294967296) * 16777619 % 4294967296 = (ckStep h b : Int) := by
  have hb : b.toNat < 4294967296 := Nat.lt_trans b.toNat_lt (by decide)
  rw [show ((b.toNat : Int) % 4294967296) = (b.toNat : Int) from Int.emod_eq_of_lt (by omega) (by omega), u32_xor_nat _ _ hh hb]
  unfold ckStep
  omega
set_option maxHeartbeats 400000 in
theorem checksum_any (s : ByteArray) (w : World) (hs : s.size ≤ 9223372036854775807) :
    Calls Tryz.prog 10 #[.string s] w fun e w' => e = .returned (.int .u32 (ck s.data.toList)) ∧ w = w' := by
  go_enter Tryz.func10, Tryz.ntmps10
  go_wp2
  go_loop [3, 7] (fun h i => ∃ (k x : Nat), k ≤ s.size ∧ i = .int .i64 (k : Nat) ∧ h = .int .u32 (x : Nat) ∧ x = (s.data.toList.take k).foldl ckStep ck0) (fun _ i => s.size - (intOf i).toNat)
  case atStart => exact ⟨0, ck0, by omega, rfl, rfl, rfl⟩
  case round =>
    obtain ⟨k, x, hk, rfl, rfl, hx⟩ := hrel
    have hx32 : x < 4294967296 := by rw [hx]; exact ck_fold_lt _ _ ck0_lt
    have Hx := Lib.hid hx
    clear hx
    by_cases hlt : k < s.size
    · go_wp2
      refine ⟨⟨k + 1, ckStep x s[k], by omega, by go_num, ?_, ?_⟩, by simp [intOf]; omega⟩
      · rw [xor_step x s[k] hx32]
      · rw [take_fold s k hlt, Hx.out]
    · go_wp2
      go_ret
      refine ⟨ret_int ?_, rfl⟩
      rw [Hx.out, List.take_of_length_le (by simp; omega)]
      rfl

/-! ### documents -/
/-- name, version, text -/
abbrev Dc := ByteArray × Int × ByteArray
def dc0 : Dc := (⟨#[]⟩, 0, ⟨#[]⟩)
def rdDc (w : World) (ad : Addr) (d : Dc) : Prop := w.cell? ad = some (.string d.1) ∧ w.cell? ⟨ad.block, ad.off + 1, none⟩ = some (.int .i64 d.2.1) ∧ w.cell? ⟨ad.block, ad.off + 2, none⟩ = some (.string d.2.2)
def DcP (p : Nat → Prop) (w : World) (v : Value) (D : List Dc) : Prop := SlR p 3 rdDc w v D
theorem DcP.kept {p : Nat → Prop} {S : Nat → Prop} {w w' : World} {v : Value} {D : List Dc} (h : DcP p w v D) (hc : ChgP S w w') (hS : ∀ k, p k → ¬ S k) : DcP p w' v D :=
  SlR.imp h (fun _ h => h) fun ad x hp hx => by
    have l := lt_of_cell hx.1
    exact ⟨(hc.cell l (hS _ hp)).trans hx.1, (hc.cell (p := ⟨ad.block, ad.off + 1, none⟩) l (hS _ hp)).trans hx.2.1, (hc.cell (p := ⟨ad.block, ad.off + 2, none⟩) l (hS _ hp)).trans hx.2.2⟩
theorem DcP.same {p : Nat → Prop} {w w' : World} {v : Value} {D : List Dc} (h : DcP p w v D) (hc : Chg [] w w') : DcP p w' v D := h.kept (hc.p (S := fun _ => False)) fun _ _ h => h
theorem DcP.cells {p : Nat → Prop} {w : World} {a : Option Addr} {n cap : Nat} {D : List Dc} (h : DcP p w (.slice a n cap) D) (i : Nat) (hi : i < D.length) :
    ∃ g off, a = some ⟨g, off, none⟩ ∧ p g ∧ w.cell? ⟨g, off + i * 3, none⟩ = some (.string (D.getD i dc0).1) ∧ w.cell? ⟨g, off + i * 3 + 1, none⟩ = some (.int .i64 (D.getD i dc0).2.1) ∧ w.cell? ⟨g, off + i * 3 + 2, none⟩ = some (.string (D.getD i dc0).2.2) := by
  obtain ⟨g, off, rfl, hp, h1, h2, h3⟩ := SlR.at h i hi dc0
  exact ⟨g, off, rfl, hp, h1, h2, h3⟩
theorem DcP.take {p : Nat → Prop} {w : World} {a : Option Addr} {n cap : Nat} {E : List Dc} (h : DcP p w (.slice a n cap) E) (k : Nat) (hk : k ≤ E.length) : DcP p w (.slice a k cap) (E.take k) := by
  obtain ⟨a', cap', hv, h1, h2, h3⟩ := h
  simp only [Value.slice.injEq] at hv
  obtain ⟨rfl, rfl, rfl⟩ := hv
  have hl : (E.take k).length = k := by simp; omega
  refine ⟨a, cap, by rw [hl], by omega, h2, fun h0 => ?_⟩
  obtain ⟨g, off, rfl, hp, hc⟩ := h3 (by omega)
  refine ⟨g, off, rfl, hp, fun j hj => ?_⟩
  rw [List.getElem_take]
  exact hc j (by omega)
structure DcOk (D : List Dc) : Prop where
  len : D.length ≤ 20
  ok : ∀ d ∈ D, 0 < d.1.size ∧ d.1.size ≤ 60 ∧ d.2.2.size ≤ 2000
  nd : (D.map (·.1)).Nodup
set_option maxHeartbeats 1000000 in
theorem vd1_idx (p : Nat → Prop) (w : World) (v : Value) (D : List Dc) (hk : DcP p w v D)
    (hf : ∀ W, Chg [] w W → ∀ a b c, (a, b, c) ∈ D → Calls Tryz.prog 29 #[.agg #[.string a, .int .i64 b, .string c]] W fun e w' => e = .returned (.bool false) ∧ Chg [] W w') :
    Calls Tryz.prog 48 #[v, .func (.func 29) #[] #[]] w fun e w' => e = .returned (.int .i64 (-1)) ∧ Chg [] w w' := by
  obtain ⟨a, cap, rfl, hm, hc⟩ := SlR.shape hk
  have Hk := Lib.hid hk
  have Hf := Lib.hid hf
  clear hk hf
  unfold maxLen at hm
  go_enter Tryz.func48, Tryz.ntmps48
  go_wp2_with fail
  go_loopw [8] (fun i wr => ∃ n : Nat, n ≤ D.length ∧ i = .int .i64 (n : Nat) ∧ Hid (Chg [] w wr)) (fun i _ => D.length - (intOf i).toNat)
  case atStart => exact ⟨0, by omega, rfl, Lib.hid (Chg.refl _ _)⟩
  case round =>
    obtain ⟨n, hn, rfl, Hcw⟩ := hrel
    by_cases hlt : n < D.length
    · obtain ⟨g, off, rfl, _, q0, q1, q2⟩ := (DcP.same Hk.out Hcw.out).cells n hlt
      obtain ⟨x, hx⟩ : ∃ x, D.getD n dc0 = x := ⟨_, rfl⟩
      have hxm : x ∈ D := by rw [← hx]; exact getD_memb hlt _
      rw [hx] at q0 q1 q2
      obtain ⟨x1, x2, x3⟩ := x
      simp only at q0 q1 q2
      have lg := lt_of_cell q0
      have hn1 : (n : Int) < D.length := by omega
      have hn0 : (0 : Int) ≤ (n : Int) := by omega
      have Hcall := Lib.hid (Hf.out wr Hcw.out x1 x2 x3 hxm)
      clear hx hxm
      go_wp2_with fail
      refine Hcall.out.mono ?_
      rintro e w1 ⟨rfl, hc1⟩
      have H1 := Lib.hid (Hcw.out.trans hc1)
      clear hc1 q0 q1 q2 lg
      go_wp2_with fail
      exact ⟨⟨n + 1, by omega, by go_num, H1⟩, by simp [intOf]; omega⟩
    · have hn1 : ¬ ((n : Int) < D.length) := by omega
      go_wp2_with fail
      go_ret
      exact ⟨rfl, Hcw.out⟩
theorem vd1_cf (p : Nat → Prop) (w : World) (v : Value) (D : List Dc) (hk : DcP p w v D)
    (hf : ∀ W, Chg [] w W → ∀ a b c, (a, b, c) ∈ D → Calls Tryz.prog 29 #[.agg #[.string a, .int .i64 b, .string c]] W fun e w' => e = .returned (.bool false) ∧ Chg [] W w') :
    Calls Tryz.prog 30 #[v, .func (.func 29) #[] #[]] w fun e w' => e = .returned (.bool false) ∧ Chg [] w w' := by
  have Hi := Lib.hid (vd1_idx p w v D hk hf)
  clear hk hf
  go_enter Tryz.func30, Tryz.ntmps30
  go_wp2_with fail
  refine Hi.out.mono ?_
  rintro e w1 ⟨rfl, hc1⟩
  have H1 := Lib.hid hc1
  clear hc1
  go_wp2_with fail
  go_ret
  exact ⟨rfl, H1.out⟩
set_option maxHeartbeats 1000000 in
theorem vd2_idx (p : Nat → Prop) (w : World) (v : Value) (D : List Dc) (hk : DcP p w v D)
    (hf : ∀ W, Chg [] w W → ∀ a b c, (a, b, c) ∈ D → Calls Tryz.prog 31 #[.agg #[.string a, .int .i64 b, .string c]] W fun e w' => e = .returned (.bool false) ∧ Chg [] W w') :
    Calls Tryz.prog 48 #[v, .func (.func 31) #[] #[]] w fun e w' => e = .returned (.int .i64 (-1)) ∧ Chg [] w w' := by
  obtain ⟨a, cap, rfl, hm, hc⟩ := SlR.shape hk
  have Hk := Lib.hid hk
  have Hf := Lib.hid hf
  clear hk hf
  unfold maxLen at hm
  go_enter Tryz.func48, Tryz.ntmps48
  go_wp2_with fail
  go_loopw [8] (fun i wr => ∃ n : Nat, n ≤ D.length ∧ i = .int .i64 (n : Nat) ∧ Hid (Chg [] w wr)) (fun i _ => D.length - (intOf i).toNat)
  case atStart => exact ⟨0, by omega, rfl, Lib.hid (Chg.refl _ _)⟩
  case round =>
    obtain ⟨n, hn, rfl, Hcw⟩ := hrel
    by_cases hlt : n < D.length
    · obtain ⟨g, off, rfl, _, q0, q1, q2⟩ := (DcP.same Hk.out Hcw.out).cells n hlt
      obtain ⟨x, hx⟩ : ∃ x, D.getD n dc0 = x := ⟨_, rfl⟩
      have hxm : x ∈ D := by rw [← hx]; exact getD_memb hlt _
      rw [hx] at q0 q1 q2
      obtain ⟨x1, x2, x3⟩ := x
      simp only at q0 q1 q2
      have lg := lt_of_cell q0
      have hn1 : (n : Int) < D.length := by omega
      have hn0 : (0 : Int) ≤ (n : Int) := by omega
      have Hcall := Lib.hid (Hf.out wr Hcw.out x1 x2 x3 hxm)
      clear hx hxm
      go_wp2_with fail
      refine Hcall.out.mono ?_
      rintro e w1 ⟨rfl, hc1⟩
      have H1 := Lib.hid (Hcw.out.trans hc1)
      clear hc1 q0 q1 q2 lg
      go_wp2_with fail
      exact ⟨⟨n + 1, by omega, by go_num, H1⟩, by simp [intOf]; omega⟩
    · have hn1 : ¬ ((n : Int) < D.length) := by omega
      go_wp2_with fail
      go_ret
      exact ⟨rfl, Hcw.out⟩
theorem vd2_cf (p : Nat → Prop) (w : World) (v : Value) (D : List Dc) (hk : DcP p w v D)
    (hf : ∀ W, Chg [] w W → ∀ a b c, (a, b, c) ∈ D → Calls Tryz.prog 31 #[.agg #[.string a, .int .i64 b, .string c]] W fun e w' => e = .returned (.bool false) ∧ Chg [] W w') :
    Calls Tryz.prog 30 #[v, .func (.func 31) #[] #[]] w fun e w' => e = .returned (.bool false) ∧ Chg [] w w' := by
  have Hi := Lib.hid (vd2_idx p w v D hk hf)
  clear hk hf
  go_enter Tryz.func30, Tryz.ntmps30
  go_wp2_with fail
  refine Hi.out.mono ?_
  rintro e w1 ⟨rfl, hc1⟩
  have H1 := Lib.hid hc1
  clear hc1
  go_wp2_with fail
  go_ret
  exact ⟨rfl, H1.out⟩
set_option maxHeartbeats 1000000 in
theorem vd3_idx (p : Nat → Prop) (w : World) (v : Value) (D : List Dc) (n5 : Nat) (hk : DcP p w v D)
    (hf : ∀ W, Chg [] w W → ∀ a b c, (a, b, c) ∈ D → Calls Tryz.prog 32 #[.agg #[.string a, .int .i64 b, .string c], .pointer (some ⟨n5, 0, none⟩)] W fun e w' => e = .returned (.bool false) ∧ Chg [] W w') :
    Calls Tryz.prog 48 #[v, .func (.func 32) #[] #[.pointer (some ⟨n5, 0, none⟩)]] w fun e w' => e = .returned (.int .i64 (-1)) ∧ Chg [] w w' := by
  obtain ⟨a, cap, rfl, hm, hc⟩ := SlR.shape hk
  have Hk := Lib.hid hk
  have Hf := Lib.hid hf
  clear hk hf
  unfold maxLen at hm
  go_enter Tryz.func48, Tryz.ntmps48
  go_wp2_with fail
  go_loopw [8] (fun i wr => ∃ n : Nat, n ≤ D.length ∧ i = .int .i64 (n : Nat) ∧ Hid (Chg [] w wr)) (fun i _ => D.length - (intOf i).toNat)
  case atStart => exact ⟨0, by omega, rfl, Lib.hid (Chg.refl _ _)⟩
  case round =>
    obtain ⟨n, hn, rfl, Hcw⟩ := hrel
    by_cases hlt : n < D.length
    · obtain ⟨g, off, rfl, _, q0, q1, q2⟩ := (DcP.same Hk.out Hcw.out).cells n hlt
      obtain ⟨x, hx⟩ : ∃ x, D.getD n dc0 = x := ⟨_, rfl⟩
      have hxm : x ∈ D := by rw [← hx]; exact getD_memb hlt _
      rw [hx] at q0 q1 q2
      obtain ⟨x1, x2, x3⟩ := x
      simp only at q0 q1 q2
      have lg := lt_of_cell q0
      have hn1 : (n : Int) < D.length := by omega
      have hn0 : (0 : Int) ≤ (n : Int) := by omega
      have Hcall := Lib.hid (Hf.out wr Hcw.out x1 x2 x3 hxm)
      clear hx hxm
      go_wp2_with fail
      refine Hcall.out.mono ?_
      rintro e w1 ⟨rfl, hc1⟩
      have H1 := Lib.hid (Hcw.out.trans hc1)
      clear hc1 q0 q1 q2 lg
      go_wp2_with fail
      exact ⟨⟨n + 1, by omega, by go_num, H1⟩, by simp [intOf]; omega⟩
    · have hn1 : ¬ ((n : Int) < D.length) := by omega
      go_wp2_with fail
      go_ret
      exact ⟨rfl, Hcw.out⟩
theorem vd3_cf (p : Nat → Prop) (w : World) (v : Value) (D : List Dc) (n5 : Nat) (hk : DcP p w v D)
    (hf : ∀ W, Chg [] w W → ∀ a b c, (a, b, c) ∈ D → Calls Tryz.prog 32 #[.agg #[.string a, .int .i64 b, .string c], .pointer (some ⟨n5, 0, none⟩)] W fun e w' => e = .returned (.bool false) ∧ Chg [] W w') :
    Calls Tryz.prog 30 #[v, .func (.func 32) #[] #[.pointer (some ⟨n5, 0, none⟩)]] w fun e w' => e = .returned (.bool false) ∧ Chg [] w w' := by
  have Hi := Lib.hid (vd3_idx p w v D n5 hk hf)
  clear hk hf
  go_enter Tryz.func30, Tryz.ntmps30
  go_wp2_with fail
  refine Hi.out.mono ?_
  rintro e w1 ⟨rfl, hc1⟩
  have H1 := Lib.hid hc1
  clear hc1
  go_wp2_with fail
  go_ret
  exact ⟨rfl, H1.out⟩
theorem vd1_any (a : ByteArray) (b : Int) (c : ByteArray) (w : World) (ha : a.size ≤ 60) (hc : c.size ≤ 2000) : Calls Tryz.prog 29 #[.agg #[.string a, .int .i64 b, .string c]] w fun e w' => e = .returned (.bool false) ∧ Chg [] w w' := by
  have h1 : ¬ ((60 : Int) < a.size) := by omega
  have h2 : ¬ ((2000 : Int) < c.size) := by omega
  go_enter Tryz.func29, Tryz.ntmps29
  go_wp2_with fail
  go_ret
  exact ⟨rfl, (Chg.refl [] w).alloc _⟩
theorem vd2_any (a : ByteArray) (b : Int) (c : ByteArray) (w : World) (ha : 0 < a.size) : Calls Tryz.prog 31 #[.agg #[.string a, .int .i64 b, .string c]] w fun e w' => e = .returned (.bool false) ∧ Chg [] w w' := by
  have h2 : (a.toList == []) = false := by
    rw [beq_eq_false_iff_ne, ByteArray.toList_eq]
    intro e
    have : a.data.toList.length = 0 := by rw [e]; rfl
    have h3 : a.data.toList.length = a.size := rfl
    omega
  go_enter Tryz.func31, Tryz.ntmps31
  go_wp2_with fail
  go_ret
  exact ⟨by first | rfl | simp [h2], (Chg.refl [] w).alloc _⟩
theorem beqS (a b : ByteArray) : (a.toList == b.toList) = decide (a = b) := by
  rw [ByteArray.toList_eq, ByteArray.toList_eq, Bool.eq_iff_iff, beq_iff_eq, decide_eq_true_iff]
  exact ⟨fun h => bl_inj h, fun h => by rw [h]⟩
theorem vd3_any (a : ByteArray) (b : Int) (c : ByteArray) (w : World) (n5 : Nat) (a' : ByteArray) (b' : Int) (c' : ByteArray) (h5 : w.heap[n5]? = some (.cells #[.string a', .int .i64 b', .string c'] 34 (0, 0))) (hne : a ≠ a') :
    Calls Tryz.prog 32 #[.agg #[.string a, .int .i64 b, .string c], .pointer (some ⟨n5, 0, none⟩)] w fun e w' => e = .returned (.bool false) ∧ Chg [] w w' := by
  obtain ⟨w1, hw1⟩ : ∃ q, q = w.alloc (.cells #[.string a, .int .i64 b, .string c] 34) := ⟨_, rfl⟩
  have hc1 : Chg [] w w1 := by rw [hw1]; exact (Chg.refl [] w).alloc _
  have p0 : w1.cell? ⟨n5, 0, none⟩ = some (.string a') := cell_of_heap ((hc1.block _ (lt_of_obj h5) (by simp)).trans h5) rfl
  have b0 : w1.cell? ⟨w.heap.size, 0, none⟩ = some (.string a) := by rw [hw1]; exact cell_of_heap (heap_at _ _ _ rfl) rfl
  have l0 := lt_of_cell p0
  have h2 : (a.toList == a'.toList) = false := by rw [beqS]; exact decide_eq_false hne
  have Hw1 := Lib.hid hw1
  have Hc1 := Lib.hid hc1
  clear h5 hw1 hc1 hne
  go_enter Tryz.func32, Tryz.ntmps32
  go_upto_region 1 with (fail)
  rw [← Hw1.out]
  go_wp2_with fail
  go_ret
  exact ⟨by first | rfl | simp [h2], Hc1.out⟩
set_option maxRecDepth 100000 in
set_option maxHeartbeats 4000000 in
theorem validDocs_any (p : Nat → Prop) (w : World) (v : Value) (D : List Dc) (h : DcP p w v D) (hok : DcOk D) :
    Calls Tryz.prog 15 #[v] w fun e w' => e = .returned (.int .i64 0) ∧ Chg [] w w' := by
  obtain ⟨a, cap, rfl, hml, hcp⟩ := SlR.shape h
  have h20 : ¬ ((20 : Int) < D.length) := by have := hok.len; omega
  have H := Lib.hid h
  have Hok := Lib.hid hok
  unfold maxLen at hml
  clear h hok
  go_enter Tryz.func15, Tryz.ntmps15
  go_wp2_with fail
  refine (vd1_cf p w _ D H.out (fun W _ a b c hm => vd1_any a b c W (Hok.out.ok _ hm).2.1 (Hok.out.ok _ hm).2.2)).mono ?_
  rintro e w1 ⟨rfl, hc1⟩
  have H1 := Lib.hid hc1
  clear hc1
  go_wp2_with fail
  refine (vd2_cf p w1 _ D (H.out.same H1.out) (fun W _ a b c hm => vd2_any a b c W (Hok.out.ok _ hm).1)).mono ?_
  rintro e w2 ⟨rfl, hc2⟩
  have H2 := Lib.hid (H1.out.trans hc2)
  clear hc2
  go_wp2_with fail
  go_loopw [18] (fun i wr => ∃ n : Nat, n ≤ D.length ∧ i = .int .i64 (n : Nat) ∧ Hid (Chg [] w wr)) (fun i _ => D.length - (intOf i).toNat)
  case atStart => exact ⟨0, by omega, rfl, H2⟩
  case round =>
    obtain ⟨n, hn, rfl, Hcw⟩ := hrel
    by_cases hlt : n < D.length
    · obtain ⟨g, off, rfl, _, q0, q1, q2⟩ := (H.out.same Hcw.out).cells n hlt
      obtain ⟨x, hx⟩ : ∃ x, D.getD n dc0 = x := ⟨_, rfl⟩
      have hpre : ∀ y ∈ D.take n, y.1 ≠ x.1 := by
        intro y hy e
        have hg : D[n] = x := by rw [← hx, List.getD_eq_getElem?_getD, List.getElem?_eq_getElem hlt]; rfl
        have hnd : ((D.take (n + 1)).map (·.1)).Nodup := Hok.out.nd.sublist ((List.take_sublist _ _).map _)
        rw [List.take_succ_eq_append_getElem hlt, List.map_append, List.nodup_append, hg] at hnd
        exact hnd.2.2 y.1 (List.mem_map.2 ⟨y, hy, rfl⟩) x.1 (by simp) e
      rw [hx] at q0 q1 q2
      obtain ⟨x1, x2, x3⟩ := x
      simp only at q0 q1 q2 hpre
      have lg := lt_of_cell q0
      have hn1 : (n : Int) < D.length := by omega
      have hn0 : (0 : Int) ≤ (n : Int) := by omega
      have hnc : (n : Int) ≤ cap := by omega
      obtain ⟨w5, hw5⟩ : ∃ q, q = wr.alloc (.cells #[.string x1, .int .i64 x2, .string x3] 34) := ⟨_, rfl⟩
      obtain ⟨n5, hn5⟩ : ∃ n, n = wr.heap.size := ⟨_, rfl⟩
      have hc5 : Chg [] wr w5 := by rw [hw5]; exact (Chg.refl [] wr).alloc _
      have hb5 : w5.heap[n5]? = some (.cells #[.string x1, .int .i64 x2, .string x3] 34 (0, 0)) := by rw [hw5, hn5]; exact heap_at _ _ _ rfl
      have Hcf := Lib.hid (vd3_cf p w5 _ (D.take n) n5 ((H.out.same (Hcw.out.trans hc5)).take n (by omega)) (fun W hW a b c hm => vd3_any a b c W n5 x1 x2 x3 ((hW.block _ (lt_of_obj hb5) (by simp)).trans hb5) (hpre _ hm)))
      have HW5 := Lib.hid (And.intro hw5 hn5)
      have H5 := Lib.hid (Hcw.out.trans hc5)
      clear hx hpre hw5 hn5 hc5 hb5
      go_wp2_with (rw [← HW5.out.1, ← HW5.out.2]; refine Hcf.out.mono ?_; rintro e w6 ⟨rfl, hc6⟩)
      exact ⟨⟨n + 1, by omega, by go_num, Lib.hid (H5.out.trans hc6)⟩, by simp [intOf]; omega⟩
    · have hn1 : ¬ ((n : Int) < D.length) := by omega
      go_wp2_with fail
      go_ret
      exact ⟨rfl, Hcw.out⟩
end Go.Proofs.YticfigfipbcmhaaGreatDoor
