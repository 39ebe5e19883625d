/- JSON texts: a number. -/
import Derived.Test.YtpnaegfldkjikaaDoorJvX
namespace Go.Proofs.YtpnaegfldkjikaaDoor.Jv
open Go.RowKit Go.ChangeMaps Go.MapKept
set_option linter.unusedVariables false
set_option linter.unusedSimpArgs false
/-! ### the numeral's law -/
theorem dg_u8 {d : Nat} (h : d < 10) : (UInt8.ofNat (48 + d)).toNat = 48 + d := by simp [UInt8.toNat_ofNat']; omega
theorem dig_all (m : Nat) : ∀ c ∈ Lib.decDigits m, 48 ≤ c.toNat ∧ c.toNat ≤ 57 := by
  induction m using Nat.strongRecOn with
  | _ m ih =>
    intro c hc
    rw [Lib.decDigits] at hc
    split at hc
    · simp only [List.mem_singleton] at hc
      subst hc
      rw [dg_u8 (by omega)]
      omega
    · rw [List.mem_append, List.mem_singleton] at hc
      rcases hc with hc | hc
      · exact ih (m / 10) (by omega) c hc
      · subst hc
        rw [dg_u8 (by omega)]
        omega
theorem dig_ne (m : Nat) : 1 ≤ (Lib.decDigits m).length := by
  rw [Lib.decDigits_length]
  exact Lib.nDigits_pos m
theorem dig_head (m : Nat) : peekL (Lib.decDigits m) = 48 → m = 0 := by
  induction m using Nat.strongRecOn with
  | _ m ih =>
    intro hc
    rw [Lib.decDigits] at hc
    split at hc
    · simp only [peekL] at hc
      rw [dg_u8 (by omega)] at hc
      omega
    · have h1 := dig_ne (m / 10)
      have := ih (m / 10) (by omega) (by
        generalize Lib.decDigits (m / 10) = L at hc h1
        cases L with
        | nil => simp at h1
        | cons c l => exact hc)
      omega
theorem decFrom_app : ∀ (l : List UInt8) (acc n : Nat) (c : UInt8) (d : Nat), Lib.decFrom acc l = some n → Lib.digitVal c = some d → Lib.decFrom acc (l ++ [c]) = some (n * 10 + d)
  | [], acc, n, c, d, h, hd => by
    simp only [Lib.decFrom, Option.some.injEq] at h
    subst h
    simp [Lib.decFrom, hd]
  | a :: t, acc, n, c, d, h, hd => by
    simp only [Lib.decFrom, List.cons_append] at h ⊢
    cases ha : Lib.digitVal a with
    | none => simp [ha] at h
    | some e =>
      simp only [ha] at h ⊢
      exact decFrom_app t _ n c d h hd
theorem digVal_u8 {d : Nat} (h : d < 10) : Lib.digitVal (UInt8.ofNat (48 + d)) = some d := by
  unfold Lib.digitVal
  rw [dg_u8 h, if_pos (by omega)]
  exact congrArg some (by omega)
theorem dig_from (m : Nat) : Lib.decFrom 0 (Lib.decDigits m) = some m := by
  induction m using Nat.strongRecOn with
  | _ m ih =>
    rw [Lib.decDigits]
    split
    · exact (decFrom_app [] 0 0 _ m rfl (digVal_u8 (by omega))).trans (congrArg some (by omega))
    · rw [decFrom_app _ _ _ _ _ (ih (m / 10) (by omega)) (digVal_u8 (by omega))]
      exact congrArg some (by omega)
theorem nDigits_le (k : Nat) : ∀ u, u < 10 ^ (k + 1) → Lib.nDigits u ≤ k + 1 := by
  induction k with
  | zero =>
    intro u h
    rw [Lib.nDigits_small (by simpa using h)]
    omega
  | succ k ih =>
    intro u h
    by_cases h1 : u < 10
    · rw [Lib.nDigits_small h1]
      omega
    · rw [Lib.nDigits_big h1]
      have := ih (u / 10) (by rw [Nat.pow_succ] at h; omega)
      omega
/-- a number's sign -/
def sg (n : Int) : List UInt8 := if n < 0 then [45] else []
theorem itoa_sg (n : Int) : Lib.itoa n = sg n ++ Lib.decDigits n.natAbs := by
  unfold Lib.itoa sg
  split
  · rfl
  · rw [show n.toNat = n.natAbs by omega]
    rfl
theorem sg_len (n : Int) : (sg n).length = if n < 0 then 1 else 0 := by
  unfold sg
  split <;> rfl
theorem atoi_itoa (n : Int) : Lib.atoi (sg n ++ Lib.decDigits n.natAbs) = some n := by
  have hd := dig_all n.natAbs
  have hn := dig_ne n.natAbs
  have hf := dig_from n.natAbs
  unfold sg
  generalize Lib.decDigits n.natAbs = L at hd hn hf
  cases L with
  | nil => simp at hn
  | cons c l =>
    have hc := hd c (by simp)
    split
    · rw [List.singleton_append]
      unfold Lib.atoi
      simp only [Lib.decNat, List.isEmpty_cons, if_false, hf, beq_self_eq_true, if_true, Option.map_some, Option.some.injEq, Bool.false_eq_true]
      omega
    · rw [List.nil_append]
      unfold Lib.atoi
      have h45 : (c == 45) = false := beq_eq_false_iff_ne.2 (fun h => by subst h; simp at hc)
      have h43 : (c == 43) = false := beq_eq_false_iff_ne.2 (fun h => by subst h; simp at hc)
      simp only [Lib.decNat, List.isEmpty_cons, if_false, hf, h45, h43, Option.map_some, Option.some.injEq, Bool.false_eq_true]
      omega
set_option maxRecDepth 100000 in
set_option maxHeartbeats 8000000 in
theorem number_yes (db : Nat) (s : ByteArray) (o : Nat) (n : Int) (r : List UInt8) (w : World) (h : DS w db s o) (hs : s.size ≤ 100000) (hr : s.data.toList.drop o = sg n ++ (Lib.decDigits n.natAbs ++ r)) (hn0 : -9007199254740991 ≤ n) (hn1 : n ≤ 9007199254740991) (hrd : peekL r < 48 ∨ 57 < peekL r) :
    Calls Tryd.prog 41 #[.pointer (some ⟨db, 0, none⟩)] w fun e w' => e = .returned (.int .i64 n) ∧ DS w' db s (o + (Lib.itoa n).length) ∧ Chg [db] w w' := by
  have hD := dig_all n.natAbs
  have hD1 := dig_ne n.natAbs
  have hD2 : (Lib.decDigits n.natAbs).length ≤ 16 := by rw [Lib.decDigits_length]; exact nDigits_le 15 _ (by omega)
  have hD0 : peekL (Lib.decDigits n.natAbs) = 48 → (Lib.decDigits n.natAbs).length = 1 := fun h => by rw [dig_head _ h, Lib.decDigits_one (by decide)]; rfl
  have hat := atoi_itoa n
  have hit : (Lib.itoa n).length = (sg n).length + (Lib.decDigits n.natAbs).length := by rw [itoa_sg, List.length_append]
  rw [hit, ← Nat.add_assoc]
  generalize Lib.decDigits n.natAbs = D at hD hD1 hD2 hD0 hat hr hit ⊢
  have hG : sg n = [] ∨ sg n = [45] := by unfold sg; split <;> simp
  generalize sg n = G at hat hr hit hG ⊢
  have hsl : s.data.toList.length = s.size := rfl
  have hlen : o + G.length + D.length ≤ s.size := by
    have := congrArg List.length hr
    rw [List.length_drop, List.length_append, List.length_append] at this
    omega
  have hacc : Lib.hasPrefix (G ++ (D ++ r)) [45] = decide (G.length = 1) := by
    rcases hG with h | h
    · subst h
      cases D with
      | nil => simp at hD1
      | cons c l =>
        have hc := hD c (by simp)
        have h45 : (45 == c) = false := beq_eq_false_iff_ne.2 (fun h => by subst h; simp at hc)
        simp [Lib.hasPrefix, List.isPrefixOf, h45]
    · subst h
      exact pre_cons _ _
  have Hac := Lib.hid (accept_any db s ⟨#[45]⟩ o w h (by omega) hs (by decide))
  rw [show (ByteArray.mk #[45]).data.toList = [45] from rfl, hr, hacc] at Hac
  have hdr : s.data.toList.drop (o + G.length) = D ++ r := by rw [← List.drop_drop, hr, List.drop_left]
  have hex : (s.extract o (o + G.length + D.length)).data.toList = G ++ D := by
    rw [extract_mid, hr, ← List.append_assoc, List.take_left' (by rw [List.length_append]; omega)]
  have hexl : (s.extract o (o + G.length + D.length)).size ≤ 18 := by
    rw [ByteArray.size_extract]
    have : G.length ≤ 1 := by rcases hG with h | h <;> subst h <;> simp
    omega
  have hacl : (if decide (G.length = 1) = true then o + (ByteArray.mk #[45]).size else o) = o + G.length := by
    rcases hG with h | h <;> subst h <;> simp
    rfl
  rw [hacl] at Hac
  have Hat := Lib.hid (fun W => Tryd.strconv_Atoi (s.extract o (o + G.length + D.length)) n hexl (by rw [hex]; exact hat) W)
  have He := Lib.hid (fun W => expect_any db true W)
  have HD := Lib.hid (And.intro hD (And.intro hdr (And.intro hD0 hrd)))
  have c0 := h.c0
  have c1 := h.c1
  have lb := lt_of_cell c0
  obtain ⟨g, hg⟩ : ∃ g, g = o + G.length := ⟨_, rfl⟩
  rw [← hg] at Hac HD Hat hlen ⊢
  have Hg := Lib.hid (And.intro hg (And.intro hG hat))
  generalize hdl : D.length = dl at hD1 hD2 hlen Hat ⊢
  have Hdl := Lib.hid hdl
  clear h hr hD hD0 hat hit hG hacc hdr hex hexl hacl hrd hg hdl
  go_enter Tryd.func41, Tryd.ntmps41
  go_wp2_with fail
  refine Hac.out.mono ?_
  rintro e w1 ⟨rfl, hd1, hc1⟩
  have H1 : Hid (DS w1 db s g ∧ Chg [db] w w1) := Lib.hid ⟨hd1, hc1⟩
  have c0 := H1.out.1.c0
  have c1 := H1.out.1.c1
  have lb := lt_of_cell c0
  clear hd1 hc1
  go_wp2_with fail
  refine (peek_any db s g w1 H1.out.1 hs).mono ?_
  rintro e w2 ⟨rfl, hc2⟩
  have H2 : Hid (DS w2 db s (g + 0) ∧ Chg [db] w w2) := Lib.hid ⟨H1.out.1.new hc2, H1.out.2.new hc2⟩
  clear hc2
  go_wp2_with fail
  go_loopw [5] (fun v5 wr => ∃ (k x : Nat), k ≤ dl ∧ v5 = .int .u8 (x : Nat) ∧ Hid (x = peekL (s.data.toList.drop (g + k))) ∧ Hid (DS wr db s (g + k) ∧ Chg [db] w wr)) (fun _ wr => s.size - offW wr db)
  case atStart => exact ⟨0, _, by omega, rfl, Lib.hid rfl, H2⟩
  case round =>
    obtain ⟨k, x, hk, rfl, Hx, HR⟩ := hrel
    have c0 := HR.out.1.c0
    have c1 := HR.out.1.c1
    have f1 := HR.out.1.fz 1
    have lb := lt_of_cell c0
    have hoff := HR.out.1.off
    by_cases hlt : k < dl
    · have hx2 : 48 ≤ x ∧ x ≤ 57 := by
        have h1 := Hdl.out
        have h2 : s.data.toList.drop (g + k) = D.drop k ++ r := by rw [← List.drop_drop, HD.out.2.1, List.drop_append_of_le_length (by omega)]
        rw [Hx.out, h2, List.drop_eq_getElem_cons (show k < D.length by omega)]
        exact HD.out.1 _ (List.getElem_mem _)
      obtain ⟨hx0, hx1⟩ := hx2
      have d0 : decide ((48 : Int) ≤ (x : Int)) = true := decide_eq_true (by omega)
      have d1 : decide ((x : Int) ≤ 57) = true := decide_eq_true (by omega)
      go_wp2_with fail
      have H3 : Hid (DS (wr.setCell ⟨db, 1, none⟩ (.int .i64 ((g : Int) + k + 1))) db s (g + (k + 1))) := Lib.hid (HR.out.1.setI (by omega))
      have H3c := Lib.hid (HR.out.2.trans (set_chg wr db (.int .i64 ((g : Int) + k + 1))))
      have ho3 : offW (wr.setCell ⟨db, 1, none⟩ (.int .i64 ((g : Int) + k + 1))) db = g + (k + 1) := H3.out.off
      refine (peek_any db s _ _ H3.out hs).mono ?_
      rintro e w4 ⟨rfl, hc4⟩
      have H4 : Hid (DS w4 db s (g + (k + 1)) ∧ Chg [db] w w4) := Lib.hid ⟨H3.out.new hc4, H3c.out.new hc4⟩
      have ho4 := H4.out.1.off
      clear hc4
      go_wp2_with fail
      exact ⟨⟨k + 1, _, by omega, rfl, Lib.hid rfl, H4⟩, by rw [ho4, hoff]; omega⟩
    · have hke : k = dl := by omega
      subst hke
      have hx2 : x < 48 ∨ 57 < x := by
        have h1 := Hdl.out
        have h2 : s.data.toList.drop (g + k) = r := by rw [← List.drop_drop, HD.out.2.1, ← h1, List.drop_left]
        rw [Hx.out, h2]
        exact HD.out.2.2.2
      have hgs : g < s.size := by omega
      have hgi : (g : Int) < s.size := by omega
      have hg0 : (0 : Int) ≤ g := by omega
      obtain ⟨a, ha⟩ : ∃ a, a = s[g].toNat := ⟨_, rfl⟩
      have ha48 : a = 48 → k = 1 := by
        have h1 := Hdl.out
        have h2 : s.data.toList.drop g = D ++ r := HD.out.2.1
        have h3 : peekL D = s[g].toNat := by
          rw [← peek_at hgs, h2]
          cases D with
          | nil => simp at h1; omega
          | cons c l => rfl
        rw [ha, ← h3, ← h1]
        exact HD.out.2.2.1
      have hau : s[g].toNat = a := ha.symm
      have hg1 : decide ((g : Int) < (g : Int) + k) = true := decide_eq_true (by omega)
      have ha256 : a < 256 := by rw [ha]; exact s[g].toNat_lt
      clear ha
      have hx3 : (48 ≤ x → x ≤ 57 → False) := fun h1 h2 => by omega
      by_cases hx : x < 48
      · have d0 : decide ((48 : Int) ≤ (x : Int)) = false := decide_eq_false (by omega)
        clear hx2 hx3
        by_cases h48 : a = 48
        · obtain rfl : k = 1 := ha48 h48
          subst h48
          clear ha48
          go_wp2_with fail
          refine (He.out _).mono ?_
          rintro e wy ⟨rfl, rfl⟩
          go_upto_region 9 with fail
          have HA : Hid (∀ q : Nat, q = g + 1 → (DS wy db s q ∧ ∀ W, Calls Tryd.prog 53 #[.string (s.extract o q)] W fun e w' => e = .returned (.tuple #[.int .i64 n, .nilIface]) ∧ ∃ t, w' = Lib.bytesWorld W 5 t)) := Lib.hid (fun q hq => by subst hq; exact ⟨HR.out.1, Hat.out⟩)
          have Hfin : Hid (∀ q : Nat, q = g + 1 → ∀ w', DS w' db s q → DS w' db s (g + 1)) := Lib.hid (fun q hq w' h => by subst hq; exact h)
          obtain ⟨q, hq⟩ : ∃ q : Nat, q = g + 1 := ⟨_, rfl⟩
          have Hq := Lib.hid hq
          have hoq : (o : Int) ≤ q := by have := Hg.out.1; omega
          have ho0 : (0 : Int) ≤ o := by omega
          have hqs : (q : Int) ≤ s.size := by omega
          clear hq c0 c1 f1 lb hoff hg0 hgi hgs hg1 hau ha256 hk hlt hD1 hD2 hlen d0 
          refine wp_region_U (fun w' => w'.cell? ⟨db, 0, none⟩ = some (.string s) ∧ w'.cell? ⟨db, 1, none⟩ = some (.int .i64 (q : Nat))) (fun w' => w'.cell? ⟨db, 0, none⟩ = some (.string s) ∧ w'.cell? ⟨db, 1, none⟩ = some (.int .i64 (q : Nat))) 15 (by kernel_rfl) ?_
          intro wd hwd
          have hcd : Chg [] wy wd := by rw [hwd]; exact (Chg.refl _ _).drew
          have Hd : Hid (DS wd db s q) := Lib.hid ((HA.out q Hq.out).1.new hcd)
          have hSW := And.intro Hd.out.c0 Hd.out.c1
          have Hcd : Hid (Chg [db] w wd) := Lib.hid (HR.out.2.new hcd)
          clear hwd hcd
          refine anyU_pure (i := 0) (v := .pointer (some ⟨db, 0, none⟩)) rfl (by kernel_rfl) (fun _ _ _ h => h) (Or.inl ⟨by rfl, fun w' hS => by go_simp⟩) (fun _ => hSW) hSW ?_
          simp only [Act.put, List.setIfInBounds_toArray, List.set_cons_zero, List.set_cons_succ]
          refine anyU_pure (i := 1) (v := .pointer (some ⟨db, 0, none⟩)) rfl (by kernel_rfl) (fun _ _ _ h => h) (Or.inl ⟨by rfl, fun w' hS => by go_simp⟩) (fun _ => hSW) hSW ?_
          simp only [Act.put, List.setIfInBounds_toArray, List.set_cons_zero, List.set_cons_succ]
          refine anyU_pure (i := 2) (v := .pointer (some ⟨db, 0, none⟩)) rfl (by kernel_rfl) (fun _ _ _ h => h) (Or.inl ⟨by rfl, fun w' hS => by go_simp⟩) (fun _ => hSW) hSW ?_
          simp only [Act.put, List.setIfInBounds_toArray, List.set_cons_zero, List.set_cons_succ]
          refine anyU_keep (i := 3) (v := .string s) rfl (by kernel_rfl) (fun _ _ _ h => h) (Or.inl ⟨by rfl, fun w' hS => by go_simp⟩) (fun _ h => h) (fun _ => hSW) hSW ?_
          simp only [Act.put, List.setIfInBounds_toArray, List.set_cons_zero, List.set_cons_succ]
          refine anyU_pure (i := 4) (v := .int .i64 (o : Nat)) rfl (by kernel_rfl) (fun _ _ _ h => h) (Or.inl ⟨by rfl, fun w' hS => by go_simp⟩) (fun _ => hSW) hSW ?_
          simp only [Act.put, List.setIfInBounds_toArray, List.set_cons_zero, List.set_cons_succ]
          refine anyU_pure (i := 5) (v := .pointer (some ⟨db, 0, none⟩)) rfl (by kernel_rfl) (fun _ _ _ h => h) (Or.inl ⟨by rfl, fun w' hS => by go_simp⟩) (fun _ => hSW) hSW ?_
          simp only [Act.put, List.setIfInBounds_toArray, List.set_cons_zero, List.set_cons_succ]
          refine anyU_pure (i := 6) (v := .pointer (some ⟨db, 0, none⟩)) rfl (by kernel_rfl) (fun _ _ _ h => h) (Or.inl ⟨by rfl, fun w' hS => by go_simp⟩) (fun _ => hSW) hSW ?_
          simp only [Act.put, List.setIfInBounds_toArray, List.set_cons_zero, List.set_cons_succ]
          refine anyU_pure (i := 7) (v := .pointer (some ⟨db, 1, none⟩)) rfl (by kernel_rfl) (fun _ _ _ h => h) (Or.inl ⟨by rfl, fun w' hS => by go_simp⟩) (fun _ => hSW) hSW ?_
          simp only [Act.put, List.setIfInBounds_toArray, List.set_cons_zero, List.set_cons_succ]
          refine anyU_keep (i := 8) (v := .int .i64 (q : Nat)) rfl (by kernel_rfl) (fun _ _ _ h => h) (Or.inl ⟨by rfl, fun w' hS => by go_simp⟩) (fun _ h => h) (fun _ => hSW) hSW ?_
          simp only [Act.put, List.setIfInBounds_toArray, List.set_cons_zero, List.set_cons_succ]
          refine anyU_pure (i := 9) (v := .string (s.extract o q)) rfl (by kernel_rfl) (fun _ _ _ h => h) (Or.inl ⟨by rfl, fun w' hS => by go_simp⟩) (fun _ => hSW) hSW ?_
          simp only [Act.put, List.setIfInBounds_toArray, List.set_cons_zero, List.set_cons_succ]
          refine anyU_one (k := 10) (by kernel_rfl) rfl (fun K hK => ?_)
          go_simp
          refine ((HA.out q Hq.out).2 wd).mono ?_
          rintro e w2 ⟨rfl, t, hw2⟩
          have hc2 : Chg [] wd w2 := by rw [hw2]; exact bytesWorld_chg _ _
          have H2 : Hid (DS w2 db s q) := Lib.hid (Hd.out.new hc2)
          have hS2 := And.intro H2.out.c0 H2.out.c1
          have Hc2 := Lib.hid (Hcd.out.new hc2)
          refine hK _ _ (fun _ => hS2) hS2 ?_
          clear hK K hc2 hSW hw2
          refine anyU_one (k := 11) (by kernel_rfl) rfl (fun K hK => ?_)
          go_simp
          refine hK _ _ (fun _ => hS2) hS2 ?_
          clear hK K
          refine anyU_pure (i := 12) (v := .int .i64 n) rfl (by kernel_rfl) (fun _ _ _ h => h) (Or.inl ⟨by rfl, fun w' hS => by go_simp⟩) (fun _ => hS2) hS2 ?_
          simp only [Act.put, List.setIfInBounds_toArray, List.set_cons_zero, List.set_cons_succ]
          refine anyU_pure (i := 13) (v := .nilIface) rfl (by kernel_rfl) (fun _ _ _ h => h) (Or.inl ⟨by rfl, fun w' hS => by go_simp⟩) (fun _ => hS2) hS2 ?_
          simp only [Act.put, List.setIfInBounds_toArray, List.set_cons_zero, List.set_cons_succ]
          refine anyU_one (k := 14) (by kernel_rfl) rfl (fun K hK => ?_)
          go_simp
          refine hK _ _ (fun _ => hS2) hS2 ?_
          clear hK K
          refine anyU_one (k := 15) (by kernel_rfl) rfl (fun K hK => ?_)
          go_simp
          refine hK _ _ (fun h => by simp at h) hS2 ?_
          clear hK K hS2
          refine anyU_done (by kernel_rfl) ?_
          have n0 : decide ((-9007199254740991 : Int) ≤ n) = true := decide_eq_true hn0
          have n1 : decide (n ≤ 9007199254740991) = true := decide_eq_true hn1
          go_wp2_with fail
          refine (He.out w2).mono ?_
          rintro e w3 ⟨rfl, rfl⟩
          go_wp2_with fail
          go_ret
          exact ⟨rfl, Hfin.out q Hq.out _ H2.out, Hc2.out⟩
        · have ha48n : ((a : Int) == 48) = false := by simp; omega
          have ha48m : ((a : Int) != 48) = true := by simp; omega
          clear ha48
          go_wp2_with fail
          refine (He.out _).mono ?_
          rintro e wy ⟨rfl, rfl⟩
          go_upto_region 9 with fail
          have HA : Hid (∀ q : Nat, q = g + k → (DS wy db s q ∧ ∀ W, Calls Tryd.prog 53 #[.string (s.extract o q)] W fun e w' => e = .returned (.tuple #[.int .i64 n, .nilIface]) ∧ ∃ t, w' = Lib.bytesWorld W 5 t)) := Lib.hid (fun q hq => by subst hq; exact ⟨HR.out.1, Hat.out⟩)
          have Hfin : Hid (∀ q : Nat, q = g + k → ∀ w', DS w' db s q → DS w' db s (g + k)) := Lib.hid (fun q hq w' h => by subst hq; exact h)
          obtain ⟨q, hq⟩ : ∃ q : Nat, q = g + k := ⟨_, rfl⟩
          have Hq := Lib.hid hq
          have hoq : (o : Int) ≤ q := by have := Hg.out.1; omega
          have ho0 : (0 : Int) ≤ o := by omega
          have hqs : (q : Int) ≤ s.size := by omega
          clear hq c0 c1 f1 lb hoff hg0 hgi hgs hg1 hau ha256 hk hlt hD1 hD2 hlen d0 
          refine wp_region_U (fun w' => w'.cell? ⟨db, 0, none⟩ = some (.string s) ∧ w'.cell? ⟨db, 1, none⟩ = some (.int .i64 (q : Nat))) (fun w' => w'.cell? ⟨db, 0, none⟩ = some (.string s) ∧ w'.cell? ⟨db, 1, none⟩ = some (.int .i64 (q : Nat))) 15 (by kernel_rfl) ?_
          intro wd hwd
          have hcd : Chg [] wy wd := by rw [hwd]; exact (Chg.refl _ _).drew
          have Hd : Hid (DS wd db s q) := Lib.hid ((HA.out q Hq.out).1.new hcd)
          have hSW := And.intro Hd.out.c0 Hd.out.c1
          have Hcd : Hid (Chg [db] w wd) := Lib.hid (HR.out.2.new hcd)
          clear hwd hcd
          refine anyU_pure (i := 0) (v := .pointer (some ⟨db, 0, none⟩)) rfl (by kernel_rfl) (fun _ _ _ h => h) (Or.inl ⟨by rfl, fun w' hS => by go_simp⟩) (fun _ => hSW) hSW ?_
          simp only [Act.put, List.setIfInBounds_toArray, List.set_cons_zero, List.set_cons_succ]
          refine anyU_pure (i := 1) (v := .pointer (some ⟨db, 0, none⟩)) rfl (by kernel_rfl) (fun _ _ _ h => h) (Or.inl ⟨by rfl, fun w' hS => by go_simp⟩) (fun _ => hSW) hSW ?_
          simp only [Act.put, List.setIfInBounds_toArray, List.set_cons_zero, List.set_cons_succ]
          refine anyU_pure (i := 2) (v := .pointer (some ⟨db, 0, none⟩)) rfl (by kernel_rfl) (fun _ _ _ h => h) (Or.inl ⟨by rfl, fun w' hS => by go_simp⟩) (fun _ => hSW) hSW ?_
          simp only [Act.put, List.setIfInBounds_toArray, List.set_cons_zero, List.set_cons_succ]
          refine anyU_keep (i := 3) (v := .string s) rfl (by kernel_rfl) (fun _ _ _ h => h) (Or.inl ⟨by rfl, fun w' hS => by go_simp⟩) (fun _ h => h) (fun _ => hSW) hSW ?_
          simp only [Act.put, List.setIfInBounds_toArray, List.set_cons_zero, List.set_cons_succ]
          refine anyU_pure (i := 4) (v := .int .i64 (o : Nat)) rfl (by kernel_rfl) (fun _ _ _ h => h) (Or.inl ⟨by rfl, fun w' hS => by go_simp⟩) (fun _ => hSW) hSW ?_
          simp only [Act.put, List.setIfInBounds_toArray, List.set_cons_zero, List.set_cons_succ]
          refine anyU_pure (i := 5) (v := .pointer (some ⟨db, 0, none⟩)) rfl (by kernel_rfl) (fun _ _ _ h => h) (Or.inl ⟨by rfl, fun w' hS => by go_simp⟩) (fun _ => hSW) hSW ?_
          simp only [Act.put, List.setIfInBounds_toArray, List.set_cons_zero, List.set_cons_succ]
          refine anyU_pure (i := 6) (v := .pointer (some ⟨db, 0, none⟩)) rfl (by kernel_rfl) (fun _ _ _ h => h) (Or.inl ⟨by rfl, fun w' hS => by go_simp⟩) (fun _ => hSW) hSW ?_
          simp only [Act.put, List.setIfInBounds_toArray, List.set_cons_zero, List.set_cons_succ]
          refine anyU_pure (i := 7) (v := .pointer (some ⟨db, 1, none⟩)) rfl (by kernel_rfl) (fun _ _ _ h => h) (Or.inl ⟨by rfl, fun w' hS => by go_simp⟩) (fun _ => hSW) hSW ?_
          simp only [Act.put, List.setIfInBounds_toArray, List.set_cons_zero, List.set_cons_succ]
          refine anyU_keep (i := 8) (v := .int .i64 (q : Nat)) rfl (by kernel_rfl) (fun _ _ _ h => h) (Or.inl ⟨by rfl, fun w' hS => by go_simp⟩) (fun _ h => h) (fun _ => hSW) hSW ?_
          simp only [Act.put, List.setIfInBounds_toArray, List.set_cons_zero, List.set_cons_succ]
          refine anyU_pure (i := 9) (v := .string (s.extract o q)) rfl (by kernel_rfl) (fun _ _ _ h => h) (Or.inl ⟨by rfl, fun w' hS => by go_simp⟩) (fun _ => hSW) hSW ?_
          simp only [Act.put, List.setIfInBounds_toArray, List.set_cons_zero, List.set_cons_succ]
          refine anyU_one (k := 10) (by kernel_rfl) rfl (fun K hK => ?_)
          go_simp
          refine ((HA.out q Hq.out).2 wd).mono ?_
          rintro e w2 ⟨rfl, t, hw2⟩
          have hc2 : Chg [] wd w2 := by rw [hw2]; exact bytesWorld_chg _ _
          have H2 : Hid (DS w2 db s q) := Lib.hid (Hd.out.new hc2)
          have hS2 := And.intro H2.out.c0 H2.out.c1
          have Hc2 := Lib.hid (Hcd.out.new hc2)
          refine hK _ _ (fun _ => hS2) hS2 ?_
          clear hK K hc2 hSW hw2
          refine anyU_one (k := 11) (by kernel_rfl) rfl (fun K hK => ?_)
          go_simp
          refine hK _ _ (fun _ => hS2) hS2 ?_
          clear hK K
          refine anyU_pure (i := 12) (v := .int .i64 n) rfl (by kernel_rfl) (fun _ _ _ h => h) (Or.inl ⟨by rfl, fun w' hS => by go_simp⟩) (fun _ => hS2) hS2 ?_
          simp only [Act.put, List.setIfInBounds_toArray, List.set_cons_zero, List.set_cons_succ]
          refine anyU_pure (i := 13) (v := .nilIface) rfl (by kernel_rfl) (fun _ _ _ h => h) (Or.inl ⟨by rfl, fun w' hS => by go_simp⟩) (fun _ => hS2) hS2 ?_
          simp only [Act.put, List.setIfInBounds_toArray, List.set_cons_zero, List.set_cons_succ]
          refine anyU_one (k := 14) (by kernel_rfl) rfl (fun K hK => ?_)
          go_simp
          refine hK _ _ (fun _ => hS2) hS2 ?_
          clear hK K
          refine anyU_one (k := 15) (by kernel_rfl) rfl (fun K hK => ?_)
          go_simp
          refine hK _ _ (fun h => by simp at h) hS2 ?_
          clear hK K hS2
          refine anyU_done (by kernel_rfl) ?_
          have n0 : decide ((-9007199254740991 : Int) ≤ n) = true := decide_eq_true hn0
          have n1 : decide (n ≤ 9007199254740991) = true := decide_eq_true hn1
          go_wp2_with fail
          refine (He.out w2).mono ?_
          rintro e w3 ⟨rfl, rfl⟩
          go_wp2_with fail
          go_ret
          exact ⟨rfl, Hfin.out q Hq.out _ H2.out, Hc2.out⟩
      · have d0 : decide ((48 : Int) ≤ (x : Int)) = true := decide_eq_true (by omega)
        have d1 : decide ((x : Int) ≤ 57) = false := decide_eq_false (by omega)
        clear hx2 hx3
        by_cases h48 : a = 48
        · obtain rfl : k = 1 := ha48 h48
          subst h48
          clear ha48
          go_wp2_with fail
          refine (He.out _).mono ?_
          rintro e wy ⟨rfl, rfl⟩
          go_upto_region 9 with fail
          have HA : Hid (∀ q : Nat, q = g + 1 → (DS wy db s q ∧ ∀ W, Calls Tryd.prog 53 #[.string (s.extract o q)] W fun e w' => e = .returned (.tuple #[.int .i64 n, .nilIface]) ∧ ∃ t, w' = Lib.bytesWorld W 5 t)) := Lib.hid (fun q hq => by subst hq; exact ⟨HR.out.1, Hat.out⟩)
          have Hfin : Hid (∀ q : Nat, q = g + 1 → ∀ w', DS w' db s q → DS w' db s (g + 1)) := Lib.hid (fun q hq w' h => by subst hq; exact h)
          obtain ⟨q, hq⟩ : ∃ q : Nat, q = g + 1 := ⟨_, rfl⟩
          have Hq := Lib.hid hq
          have hoq : (o : Int) ≤ q := by have := Hg.out.1; omega
          have ho0 : (0 : Int) ≤ o := by omega
          have hqs : (q : Int) ≤ s.size := by omega
          clear hq c0 c1 f1 lb hoff hg0 hgi hgs hg1 hau ha256 hk hlt hD1 hD2 hlen d0 
          refine wp_region_U (fun w' => w'.cell? ⟨db, 0, none⟩ = some (.string s) ∧ w'.cell? ⟨db, 1, none⟩ = some (.int .i64 (q : Nat))) (fun w' => w'.cell? ⟨db, 0, none⟩ = some (.string s) ∧ w'.cell? ⟨db, 1, none⟩ = some (.int .i64 (q : Nat))) 15 (by kernel_rfl) ?_
          intro wd hwd
          have hcd : Chg [] wy wd := by rw [hwd]; exact (Chg.refl _ _).drew
          have Hd : Hid (DS wd db s q) := Lib.hid ((HA.out q Hq.out).1.new hcd)
          have hSW := And.intro Hd.out.c0 Hd.out.c1
          have Hcd : Hid (Chg [db] w wd) := Lib.hid (HR.out.2.new hcd)
          clear hwd hcd
          refine anyU_pure (i := 0) (v := .pointer (some ⟨db, 0, none⟩)) rfl (by kernel_rfl) (fun _ _ _ h => h) (Or.inl ⟨by rfl, fun w' hS => by go_simp⟩) (fun _ => hSW) hSW ?_
          simp only [Act.put, List.setIfInBounds_toArray, List.set_cons_zero, List.set_cons_succ]
          refine anyU_pure (i := 1) (v := .pointer (some ⟨db, 0, none⟩)) rfl (by kernel_rfl) (fun _ _ _ h => h) (Or.inl ⟨by rfl, fun w' hS => by go_simp⟩) (fun _ => hSW) hSW ?_
          simp only [Act.put, List.setIfInBounds_toArray, List.set_cons_zero, List.set_cons_succ]
          refine anyU_pure (i := 2) (v := .pointer (some ⟨db, 0, none⟩)) rfl (by kernel_rfl) (fun _ _ _ h => h) (Or.inl ⟨by rfl, fun w' hS => by go_simp⟩) (fun _ => hSW) hSW ?_
          simp only [Act.put, List.setIfInBounds_toArray, List.set_cons_zero, List.set_cons_succ]
          refine anyU_keep (i := 3) (v := .string s) rfl (by kernel_rfl) (fun _ _ _ h => h) (Or.inl ⟨by rfl, fun w' hS => by go_simp⟩) (fun _ h => h) (fun _ => hSW) hSW ?_
          simp only [Act.put, List.setIfInBounds_toArray, List.set_cons_zero, List.set_cons_succ]
          refine anyU_pure (i := 4) (v := .int .i64 (o : Nat)) rfl (by kernel_rfl) (fun _ _ _ h => h) (Or.inl ⟨by rfl, fun w' hS => by go_simp⟩) (fun _ => hSW) hSW ?_
          simp only [Act.put, List.setIfInBounds_toArray, List.set_cons_zero, List.set_cons_succ]
          refine anyU_pure (i := 5) (v := .pointer (some ⟨db, 0, none⟩)) rfl (by kernel_rfl) (fun _ _ _ h => h) (Or.inl ⟨by rfl, fun w' hS => by go_simp⟩) (fun _ => hSW) hSW ?_
          simp only [Act.put, List.setIfInBounds_toArray, List.set_cons_zero, List.set_cons_succ]
          refine anyU_pure (i := 6) (v := .pointer (some ⟨db, 0, none⟩)) rfl (by kernel_rfl) (fun _ _ _ h => h) (Or.inl ⟨by rfl, fun w' hS => by go_simp⟩) (fun _ => hSW) hSW ?_
          simp only [Act.put, List.setIfInBounds_toArray, List.set_cons_zero, List.set_cons_succ]
          refine anyU_pure (i := 7) (v := .pointer (some ⟨db, 1, none⟩)) rfl (by kernel_rfl) (fun _ _ _ h => h) (Or.inl ⟨by rfl, fun w' hS => by go_simp⟩) (fun _ => hSW) hSW ?_
          simp only [Act.put, List.setIfInBounds_toArray, List.set_cons_zero, List.set_cons_succ]
          refine anyU_keep (i := 8) (v := .int .i64 (q : Nat)) rfl (by kernel_rfl) (fun _ _ _ h => h) (Or.inl ⟨by rfl, fun w' hS => by go_simp⟩) (fun _ h => h) (fun _ => hSW) hSW ?_
          simp only [Act.put, List.setIfInBounds_toArray, List.set_cons_zero, List.set_cons_succ]
          refine anyU_pure (i := 9) (v := .string (s.extract o q)) rfl (by kernel_rfl) (fun _ _ _ h => h) (Or.inl ⟨by rfl, fun w' hS => by go_simp⟩) (fun _ => hSW) hSW ?_
          simp only [Act.put, List.setIfInBounds_toArray, List.set_cons_zero, List.set_cons_succ]
          refine anyU_one (k := 10) (by kernel_rfl) rfl (fun K hK => ?_)
          go_simp
          refine ((HA.out q Hq.out).2 wd).mono ?_
          rintro e w2 ⟨rfl, t, hw2⟩
          have hc2 : Chg [] wd w2 := by rw [hw2]; exact bytesWorld_chg _ _
          have H2 : Hid (DS w2 db s q) := Lib.hid (Hd.out.new hc2)
          have hS2 := And.intro H2.out.c0 H2.out.c1
          have Hc2 := Lib.hid (Hcd.out.new hc2)
          refine hK _ _ (fun _ => hS2) hS2 ?_
          clear hK K hc2 hSW hw2
          refine anyU_one (k := 11) (by kernel_rfl) rfl (fun K hK => ?_)
          go_simp
          refine hK _ _ (fun _ => hS2) hS2 ?_
          clear hK K
          refine anyU_pure (i := 12) (v := .int .i64 n) rfl (by kernel_rfl) (fun _ _ _ h => h) (Or.inl ⟨by rfl, fun w' hS => by go_simp⟩) (fun _ => hS2) hS2 ?_
          simp only [Act.put, List.setIfInBounds_toArray, List.set_cons_zero, List.set_cons_succ]
          refine anyU_pure (i := 13) (v := .nilIface) rfl (by kernel_rfl) (fun _ _ _ h => h) (Or.inl ⟨by rfl, fun w' hS => by go_simp⟩) (fun _ => hS2) hS2 ?_
          simp only [Act.put, List.setIfInBounds_toArray, List.set_cons_zero, List.set_cons_succ]
          refine anyU_one (k := 14) (by kernel_rfl) rfl (fun K hK => ?_)
          go_simp
          refine hK _ _ (fun _ => hS2) hS2 ?_
          clear hK K
          refine anyU_one (k := 15) (by kernel_rfl) rfl (fun K hK => ?_)
          go_simp
          refine hK _ _ (fun h => by simp at h) hS2 ?_
          clear hK K hS2
          refine anyU_done (by kernel_rfl) ?_
          have n0 : decide ((-9007199254740991 : Int) ≤ n) = true := decide_eq_true hn0
          have n1 : decide (n ≤ 9007199254740991) = true := decide_eq_true hn1
          go_wp2_with fail
          refine (He.out w2).mono ?_
          rintro e w3 ⟨rfl, rfl⟩
          go_wp2_with fail
          go_ret
          exact ⟨rfl, Hfin.out q Hq.out _ H2.out, Hc2.out⟩
        · have ha48n : ((a : Int) == 48) = false := by simp; omega
          have ha48m : ((a : Int) != 48) = true := by simp; omega
          clear ha48
          go_wp2_with fail
          refine (He.out _).mono ?_
          rintro e wy ⟨rfl, rfl⟩
          go_upto_region 9 with fail
          have HA : Hid (∀ q : Nat, q = g + k → (DS wy db s q ∧ ∀ W, Calls Tryd.prog 53 #[.string (s.extract o q)] W fun e w' => e = .returned (.tuple #[.int .i64 n, .nilIface]) ∧ ∃ t, w' = Lib.bytesWorld W 5 t)) := Lib.hid (fun q hq => by subst hq; exact ⟨HR.out.1, Hat.out⟩)
          have Hfin : Hid (∀ q : Nat, q = g + k → ∀ w', DS w' db s q → DS w' db s (g + k)) := Lib.hid (fun q hq w' h => by subst hq; exact h)
          obtain ⟨q, hq⟩ : ∃ q : Nat, q = g + k := ⟨_, rfl⟩
          have Hq := Lib.hid hq
          have hoq : (o : Int) ≤ q := by have := Hg.out.1; omega
          have ho0 : (0 : Int) ≤ o := by omega
          have hqs : (q : Int) ≤ s.size := by omega
          clear hq c0 c1 f1 lb hoff hg0 hgi hgs hg1 hau ha256 hk hlt hD1 hD2 hlen d0 
          refine wp_region_U (fun w' => w'.cell? ⟨db, 0, none⟩ = some (.string s) ∧ w'.cell? ⟨db, 1, none⟩ = some (.int .i64 (q : Nat))) (fun w' => w'.cell? ⟨db, 0, none⟩ = some (.string s) ∧ w'.cell? ⟨db, 1, none⟩ = some (.int .i64 (q : Nat))) 15 (by kernel_rfl) ?_
          intro wd hwd
          have hcd : Chg [] wy wd := by rw [hwd]; exact (Chg.refl _ _).drew
          have Hd : Hid (DS wd db s q) := Lib.hid ((HA.out q Hq.out).1.new hcd)
          have hSW := And.intro Hd.out.c0 Hd.out.c1
          have Hcd : Hid (Chg [db] w wd) := Lib.hid (HR.out.2.new hcd)
          clear hwd hcd
          refine anyU_pure (i := 0) (v := .pointer (some ⟨db, 0, none⟩)) rfl (by kernel_rfl) (fun _ _ _ h => h) (Or.inl ⟨by rfl, fun w' hS => by go_simp⟩) (fun _ => hSW) hSW ?_
          simp only [Act.put, List.setIfInBounds_toArray, List.set_cons_zero, List.set_cons_succ]
          refine anyU_pure (i := 1) (v := .pointer (some ⟨db, 0, none⟩)) rfl (by kernel_rfl) (fun _ _ _ h => h) (Or.inl ⟨by rfl, fun w' hS => by go_simp⟩) (fun _ => hSW) hSW ?_
          simp only [Act.put, List.setIfInBounds_toArray, List.set_cons_zero, List.set_cons_succ]
          refine anyU_pure (i := 2) (v := .pointer (some ⟨db, 0, none⟩)) rfl (by kernel_rfl) (fun _ _ _ h => h) (Or.inl ⟨by rfl, fun w' hS => by go_simp⟩) (fun _ => hSW) hSW ?_
          simp only [Act.put, List.setIfInBounds_toArray, List.set_cons_zero, List.set_cons_succ]
          refine anyU_keep (i := 3) (v := .string s) rfl (by kernel_rfl) (fun _ _ _ h => h) (Or.inl ⟨by rfl, fun w' hS => by go_simp⟩) (fun _ h => h) (fun _ => hSW) hSW ?_
          simp only [Act.put, List.setIfInBounds_toArray, List.set_cons_zero, List.set_cons_succ]
          refine anyU_pure (i := 4) (v := .int .i64 (o : Nat)) rfl (by kernel_rfl) (fun _ _ _ h => h) (Or.inl ⟨by rfl, fun w' hS => by go_simp⟩) (fun _ => hSW) hSW ?_
          simp only [Act.put, List.setIfInBounds_toArray, List.set_cons_zero, List.set_cons_succ]
          refine anyU_pure (i := 5) (v := .pointer (some ⟨db, 0, none⟩)) rfl (by kernel_rfl) (fun _ _ _ h => h) (Or.inl ⟨by rfl, fun w' hS => by go_simp⟩) (fun _ => hSW) hSW ?_
          simp only [Act.put, List.setIfInBounds_toArray, List.set_cons_zero, List.set_cons_succ]
          refine anyU_pure (i := 6) (v := .pointer (some ⟨db, 0, none⟩)) rfl (by kernel_rfl) (fun _ _ _ h => h) (Or.inl ⟨by rfl, fun w' hS => by go_simp⟩) (fun _ => hSW) hSW ?_
          simp only [Act.put, List.setIfInBounds_toArray, List.set_cons_zero, List.set_cons_succ]
          refine anyU_pure (i := 7) (v := .pointer (some ⟨db, 1, none⟩)) rfl (by kernel_rfl) (fun _ _ _ h => h) (Or.inl ⟨by rfl, fun w' hS => by go_simp⟩) (fun _ => hSW) hSW ?_
          simp only [Act.put, List.setIfInBounds_toArray, List.set_cons_zero, List.set_cons_succ]
          refine anyU_keep (i := 8) (v := .int .i64 (q : Nat)) rfl (by kernel_rfl) (fun _ _ _ h => h) (Or.inl ⟨by rfl, fun w' hS => by go_simp⟩) (fun _ h => h) (fun _ => hSW) hSW ?_
          simp only [Act.put, List.setIfInBounds_toArray, List.set_cons_zero, List.set_cons_succ]
          refine anyU_pure (i := 9) (v := .string (s.extract o q)) rfl (by kernel_rfl) (fun _ _ _ h => h) (Or.inl ⟨by rfl, fun w' hS => by go_simp⟩) (fun _ => hSW) hSW ?_
          simp only [Act.put, List.setIfInBounds_toArray, List.set_cons_zero, List.set_cons_succ]
          refine anyU_one (k := 10) (by kernel_rfl) rfl (fun K hK => ?_)
          go_simp
          refine ((HA.out q Hq.out).2 wd).mono ?_
          rintro e w2 ⟨rfl, t, hw2⟩
          have hc2 : Chg [] wd w2 := by rw [hw2]; exact bytesWorld_chg _ _
          have H2 : Hid (DS w2 db s q) := Lib.hid (Hd.out.new hc2)
          have hS2 := And.intro H2.out.c0 H2.out.c1
          have Hc2 := Lib.hid (Hcd.out.new hc2)
          refine hK _ _ (fun _ => hS2) hS2 ?_
          clear hK K hc2 hSW hw2
          refine anyU_one (k := 11) (by kernel_rfl) rfl (fun K hK => ?_)
          go_simp
          refine hK _ _ (fun _ => hS2) hS2 ?_
          clear hK K
          refine anyU_pure (i := 12) (v := .int .i64 n) rfl (by kernel_rfl) (fun _ _ _ h => h) (Or.inl ⟨by rfl, fun w' hS => by go_simp⟩) (fun _ => hS2) hS2 ?_
          simp only [Act.put, List.setIfInBounds_toArray, List.set_cons_zero, List.set_cons_succ]
          refine anyU_pure (i := 13) (v := .nilIface) rfl (by kernel_rfl) (fun _ _ _ h => h) (Or.inl ⟨by rfl, fun w' hS => by go_simp⟩) (fun _ => hS2) hS2 ?_
          simp only [Act.put, List.setIfInBounds_toArray, List.set_cons_zero, List.set_cons_succ]
          refine anyU_one (k := 14) (by kernel_rfl) rfl (fun K hK => ?_)
          go_simp
          refine hK _ _ (fun _ => hS2) hS2 ?_
          clear hK K
          refine anyU_one (k := 15) (by kernel_rfl) rfl (fun K hK => ?_)
          go_simp
          refine hK _ _ (fun h => by simp at h) hS2 ?_
          clear hK K hS2
          refine anyU_done (by kernel_rfl) ?_
          have n0 : decide ((-9007199254740991 : Int) ≤ n) = true := decide_eq_true hn0
          have n1 : decide (n ≤ 9007199254740991) = true := decide_eq_true hn1
          go_wp2_with fail
          refine (He.out w2).mono ?_
          rintro e w3 ⟨rfl, rfl⟩
          go_wp2_with fail
          go_ret
          exact ⟨rfl, Hfin.out q Hq.out _ H2.out, Hc2.out⟩
end Go.Proofs.YtpnaegfldkjikaaDoor.Jv
