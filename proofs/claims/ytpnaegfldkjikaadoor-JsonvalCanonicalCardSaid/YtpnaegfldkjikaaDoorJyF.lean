/- JSON texts, any text: number(). -/
import Derived.Test.YtpnaegfldkjikaaDoorJyE
import Derived.Test.YtpnaegfldkjikaaDoorJyShelf
import Derived.Lib.AtoiAllCases
namespace Go.Proofs.YtpnaegfldkjikaaDoor.Jv
open Go.RowKit Go.ChangeMaps Go.MapKept
set_option linter.unusedVariables false
set_option linter.unusedSimpArgs false
theorem pu10_lt : ∀ (l : List UInt8) (acc u : Nat), Lib.parseUint10 acc l = .ok u → u < (acc + 1) * 10 ^ l.length
  | [], acc, u, h => by
    simp only [Lib.parseUint10] at h
    injection h with h
    subst h
    simp
  | c :: r, acc, u, h => by
    simp only [Lib.parseUint10] at h
    split at h
    · rename_i hc
      split at h
      · cases h
      · split at h
        · cases h
        · have h1 := pu10_lt r _ u h
          have h2 : (acc * 10 + (c.toNat - 48) + 1) * 10 ^ r.length ≤ ((acc + 1) * 10) * 10 ^ r.length := Nat.mul_le_mul_right _ (by omega)
          rw [List.length_cons, Nat.pow_succ, Nat.mul_comm (10 ^ r.length) 10, ← Nat.mul_assoc]
          omega
    · cases h
theorem mag_len {l : List UInt8} {u : Nat} (h : Lib.parseMag l = .ok u) : (Lib.decDigits u).length ≤ l.length := by
  unfold Lib.parseMag at h
  split at h
  · cases h
  · rename_i hne
    have h1 := pu10_lt l 0 u h
    have h2 : 1 ≤ l.length := by
      cases l with
      | nil => exact absurd rfl hne
      | cons c r => simp
    obtain ⟨k, hk⟩ : ∃ k, l.length = k + 1 := ⟨l.length - 1, by omega⟩
    rw [Lib.decDigits_length, hk]
    rw [hk] at h1
    exact nDigits_le k u (by omega)
theorem signless_len {l : List UInt8} {v : Int} (h : Lib.signless (Lib.parseMag l) = .ok v) : (Lib.itoa v).length ≤ l.length := by
  rcases hm : Lib.parseMag l with u | _ | _
  rotate_left
  · rw [hm] at h; cases h
  · rw [hm] at h; cases h
  · rw [hm] at h
    unfold Lib.signless at h
    simp only at h
    split at h
    · cases h
    · injection h with h
      subst h
      rw [itoa_sg, List.length_append, sg_len, if_neg (by omega)]
      have := mag_len hm
      simp only [Int.natAbs_natCast]
      omega
theorem signed_len {l : List UInt8} {v : Int} (h : Lib.signed (Lib.parseMag l) = .ok v) : (Lib.itoa v).length ≤ l.length + 1 := by
  rcases hm : Lib.parseMag l with u | _ | _
  rotate_left
  · rw [hm] at h; cases h
  · rw [hm] at h; cases h
  · rw [hm] at h
    unfold Lib.signed at h
    simp only at h
    split at h
    · cases h
    · injection h with h
      subst h
      rw [itoa_sg, List.length_append, sg_len]
      have := mag_len hm
      simp only [Int.natAbs_neg, Int.natAbs_natCast]
      split <;> omega
/-- a numeral that is read is no shorter than the number's own -/
theorem atoiAll_len {l : List UInt8} {v : Int} (h : Lib.atoiAll l = .ok v) : (Lib.itoa v).length ≤ l.length := by
  cases l with
  | nil => cases h
  | cons c r =>
    have hcu : c = c.toNat.toUInt8 := by simp [Nat.toUInt8]
    by_cases h43 : c.toNat = 43
    · have : c = 43 := by rw [hcu, h43]; rfl
      subst this
      rw [Lib.atoiAll_plus] at h
      have := signless_len h
      simp
      omega
    by_cases h45 : c.toNat = 45
    · have : c = 45 := by rw [hcu, h45]; rfl
      subst this
      rw [Lib.atoiAll_minus] at h
      have := signed_len h
      simp
      omega
    rw [Lib.atoiAll_plain c r h43 h45] at h
    exact signless_len h
/-- Atoi, on any text -/
theorem atoi_all (t : ByteArray) (w : World) (ht : t.size ≤ 100000) (hE : Er w) :
    Calls Tryd.prog 53 #[.string t] w fun e w' => ∃ (n : Int) (ev : Value), e = .returned (.tuple #[.int .i64 n, ev]) ∧ Chg [] w w' ∧ ((ev = .nilIface ∧ Lib.atoiAll t.data.toList = .ok n) ∨ ∃ ta tb, ev = .iface ta tb) := by
  obtain ⟨a, b, ha, hb, ha', hb'⟩ := hE
  rcases h : Lib.atoiAll t.data.toList with v | _ | _
  · refine (Tryd.strconv_Atoi_ok t (by omega) v h w).mono ?_
    rintro e w' ⟨rfl, hw⟩
    refine ⟨v, .nilIface, rfl, ?_, Or.inl ⟨rfl, rfl⟩⟩
    rcases hw with rfl | ⟨x, rfl⟩
    · exact Chg.refl _ _
    · exact bytesWorld_chg _ _
  · refine (Tryd.strconv_Atoi_syntax t (by omega) (fun v hv => by rw [h] at hv; cases hv) (fun hv => by rw [h] at hv; cases hv) a w ha ha').mono ?_
    rintro e w' ⟨N, rfl, _, _, hw⟩
    exact ⟨_, _, rfl, Chg.of_below hw, Or.inr ⟨_, _, rfl⟩⟩
  · refine (Tryd.strconv_Atoi_range t (by omega) h b w hb hb').mono ?_
    rintro e w' ⟨N, rfl, _, _, hw⟩
    exact ⟨_, _, rfl, Chg.of_below hw, Or.inr ⟨_, _, rfl⟩⟩
/-- what number() does, on any text -/
def NmA (db : Nat) (s : ByteArray) (o : Nat) (w : World) (e : Ending) (w' : World) : Prop :=
  (e = .panicked sx ∧ Chg [db] w w') ∨ ∃ (n : Int) (q : Nat), e = .returned (.int .i64 n) ∧ -9007199254740991 ≤ n ∧ n ≤ 9007199254740991 ∧ o + (Lib.itoa n).length ≤ q ∧ q ≤ s.size ∧ DS w' db s q ∧ Chg [db] w w'
set_option maxRecDepth 100000 in
set_option maxHeartbeats 16000000 in
theorem number_any (db : Nat) (s : ByteArray) (o : Nat) (w : World) (h : DS w db s o) (hs : s.size ≤ 100000) (ho : o ≤ s.size) (hE : DE db w) :
    Calls Tryd.prog 41 #[.pointer (some ⟨db, 0, none⟩)] w (NmA db s o w) := by
  have hsl : s.data.toList.length = s.size := rfl
  have Hac := Lib.hid (accept_any db s ⟨#[45]⟩ o w h ho hs (by decide))
  have hpl : Lib.hasPrefix (s.data.toList.drop o) (ByteArray.mk #[45]).data.toList = true → o + 1 ≤ s.size := fun h => by
    have h1 := Lib.hasPrefix_le h
    rw [List.length_drop] at h1
    have h3 : (ByteArray.mk #[45]).data.toList.length = 1 := rfl
    omega
  generalize Lib.hasPrefix (s.data.toList.drop o) (ByteArray.mk #[45]).data.toList = p at Hac hpl
  have He := Lib.hid (fun W => expect_any db true W)
  have Hf := Lib.hid (fun W => expect_any db false W)
  have HE := Lib.hid hE
  have Hex : Hid (∀ q, (s.extract o q).size ≤ 100000) := Lib.hid (fun q => by rw [ByteArray.size_extract]; omega)
  have Hfin : Hid (∀ q, q ≤ s.size → ∀ n : Int, Lib.atoiAll (s.extract o q).data.toList = .ok n → o + (Lib.itoa n).length ≤ q) := Lib.hid (fun q hq n h => by
    have h1 := atoiAll_len h
    have h2 : (s.extract o q).data.toList.length = (s.extract o q).size := rfl
    rw [ByteArray.size_extract] at h2
    have h3 : 1 ≤ (Lib.itoa n).length := by rw [itoa_sg, List.length_append]; have := dig_ne n.natAbs; omega
    omega)
  have c0 := h.c0
  have c1 := h.c1
  have lb := lt_of_cell c0
  have hgx : ∃ g, g = (if p = true then o + (ByteArray.mk #[45]).size else o) ∧ o ≤ g ∧ g ≤ s.size := by
    cases p with
    | false => exact ⟨o, rfl, Nat.le_refl _, ho⟩
    | true => exact ⟨o + 1, rfl, by omega, hpl rfl⟩
  obtain ⟨g, hg, hog, hgs0⟩ := hgx
  rw [← hg] at Hac
  clear h hg hpl hE ho
  go_enter Tryd.func41, Tryd.ntmps41
  go_wp2_with fail
  refine Hac.out.mono ?_
  rintro e w1 ⟨rfl, hd1, hc1⟩
  have H1 : Hid (DS w1 db s g ∧ Chg [db] w w1) := Lib.hid ⟨hd1, hc1⟩
  have c0 := H1.out.1.c0
  have c1 := H1.out.1.c1
  have lb := lt_of_cell c0
  clear hd1 hc1
  go_wp2_with fail
  refine (peek_any db s g w1 H1.out.1 hs).mono ?_
  rintro e w2 ⟨rfl, hc2⟩
  have H2 : Hid (DS w2 db s g ∧ Chg [db] w w2) := Lib.hid ⟨H1.out.1.new hc2, H1.out.2.new hc2⟩
  clear hc2
  go_wp2_with fail
  go_loopw [5] (fun v5 wr => ∃ (q x : Nat), g ≤ q ∧ q ≤ s.size ∧ v5 = .int .u8 (x : Nat) ∧ Hid (x = peekL (s.data.toList.drop q)) ∧ Hid (DS wr db s q ∧ Chg [db] w wr)) (fun _ wr => s.size - offW wr db)
  case atStart => exact ⟨g, _, Nat.le_refl _, hgs0, rfl, Lib.hid rfl, H2⟩
  case round =>
    obtain ⟨q, x, hgq, hqs', rfl, Hx, HR⟩ := hrel
    have c0 := HR.out.1.c0
    have c1 := HR.out.1.c1
    have f1 := HR.out.1.fz 1
    have lb := lt_of_cell c0
    have hoff := HR.out.1.off
    by_cases hx2 : 48 ≤ x ∧ x ≤ 57
    · obtain ⟨hx0, hx1⟩ := hx2
      have hqs : q < s.size := by
        by_cases h : q < s.size
        · exact h
        · have h1 := Hx.out
          rw [peek_end h] at h1
          omega
      have d0 : decide ((48 : Int) ≤ (x : Int)) = true := decide_eq_true (by omega)
      have d1 : decide ((x : Int) ≤ 57) = true := decide_eq_true (by omega)
      go_wp2_with fail
      have H3 : Hid (DS (wr.setCell ⟨db, 1, none⟩ (.int .i64 ((q : Int) + 1))) db s (q + 1)) := Lib.hid (HR.out.1.setI (by omega))
      have H3c := Lib.hid (HR.out.2.trans (set_chg wr db (.int .i64 ((q : Int) + 1))))
      have ho3 : offW (wr.setCell ⟨db, 1, none⟩ (.int .i64 ((q : Int) + 1))) db = q + 1 := H3.out.off
      refine (peek_any db s _ _ H3.out hs).mono ?_
      rintro e w4 ⟨rfl, hc4⟩
      have H4 : Hid (DS w4 db s (q + 1) ∧ Chg [db] w w4) := Lib.hid ⟨H3.out.new hc4, H3c.out.new hc4⟩
      have ho4 := H4.out.1.off
      clear hc4
      go_wp2_with fail
      exact ⟨⟨q + 1, _, by omega, by omega, rfl, Lib.hid rfl, H4⟩, by rw [ho4, hoff]; omega⟩
    · have hoq : (o : Int) ≤ q := by omega
      have ho0 : (0 : Int) ≤ o := by omega
      have hqsi : (q : Int) ≤ s.size := by omega
      have hg0 : (0 : Int) ≤ g := by omega
      by_cases hx : x < 48
      · have d0 : decide ((48 : Int) ≤ (x : Int)) = false := decide_eq_false (by omega)
        clear hx2
        by_cases hk : g < q
        · have hgs : g < s.size := by omega
          have hgi : (g : Int) < s.size := by omega
          obtain ⟨a, ha⟩ : ∃ a, s[g].toNat = a := ⟨_, rfl⟩
          have hau : s[g].toNat = a := ha
          have ha256 : a < 256 := by rw [← ha]; exact s[g].toNat_lt
          clear ha
          have hg1 : decide ((g : Int) < (q : Int)) = true := decide_eq_true (by omega)
          have hg2 : decide (g < q) = true := decide_eq_true hk
          by_cases h48 : a = 48
          · subst h48
            by_cases hk1 : q = g + 1
            · have hk2 : ((q : Int) == (g : Int) + 1) = true := by simp; omega
              have hk3 : (q == g + 1) = true := by simp; omega
              go_wp2_with fail
              refine (He.out _).mono ?_
              rintro e wy ⟨rfl, rfl⟩
              go_upto_region 9 with fail
              clear c0 c1 f1 lb hoff hgi hg0 hk hgs hau ha256 hg1 hg2 hk1 hk2 hk3 d0
              refine wp_region_U (fun w' => w'.cell? ⟨db, 0, none⟩ = some (.string s) ∧ w'.cell? ⟨db, 1, none⟩ = some (.int .i64 (q : Nat))) (fun w' => w'.cell? ⟨db, 0, none⟩ = some (.string s) ∧ w'.cell? ⟨db, 1, none⟩ = some (.int .i64 (q : Nat))) 15 (by kernel_rfl) ?_
              intro wd hwd
              have hcd : Chg [] wy wd := by rw [hwd]; exact (Chg.refl _ _).drew
              have Hd : Hid (DS wd db s q) := Lib.hid (HR.out.1.new hcd)
              have hSW := And.intro Hd.out.c0 Hd.out.c1
              have Hcd : Hid (Chg [db] w wd) := Lib.hid (HR.out.2.new hcd)
              have Hat := Lib.hid (atoi_all (s.extract o q) wd (Hex.out q) (HE.out.db Hcd.out).1)
              clear hwd hcd
              refine anyU_pure (i := 0) (v := .pointer (some ⟨db, 0, none⟩)) rfl (by kernel_rfl) (fun _ _ _ h => h) (Or.inl ⟨by rfl, fun w' hS => by go_simp⟩) (fun _ => hSW) hSW ?_
              simp only [Act.put, List.setIfInBounds_toArray, List.set_cons_zero, List.set_cons_succ]
              refine anyU_pure (i := 1) (v := .pointer (some ⟨db, 0, none⟩)) rfl (by kernel_rfl) (fun _ _ _ h => h) (Or.inl ⟨by rfl, fun w' hS => by go_simp⟩) (fun _ => hSW) hSW ?_
              simp only [Act.put, List.setIfInBounds_toArray, List.set_cons_zero, List.set_cons_succ]
              refine anyU_pure (i := 2) (v := .pointer (some ⟨db, 0, none⟩)) rfl (by kernel_rfl) (fun _ _ _ h => h) (Or.inl ⟨by rfl, fun w' hS => by go_simp⟩) (fun _ => hSW) hSW ?_
              simp only [Act.put, List.setIfInBounds_toArray, List.set_cons_zero, List.set_cons_succ]
              refine anyU_keep (i := 3) (v := .string s) rfl (by kernel_rfl) (fun _ _ _ h => h) (Or.inl ⟨by rfl, fun w' hS => by go_simp⟩) (fun _ h => h) (fun _ => hSW) hSW ?_
              simp only [Act.put, List.setIfInBounds_toArray, List.set_cons_zero, List.set_cons_succ]
              refine anyU_pure (i := 4) (v := .int .i64 (o : Nat)) rfl (by kernel_rfl) (fun _ _ _ h => h) (Or.inl ⟨by rfl, fun w' hS => by go_simp⟩) (fun _ => hSW) hSW ?_
              simp only [Act.put, List.setIfInBounds_toArray, List.set_cons_zero, List.set_cons_succ]
              refine anyU_pure (i := 5) (v := .pointer (some ⟨db, 0, none⟩)) rfl (by kernel_rfl) (fun _ _ _ h => h) (Or.inl ⟨by rfl, fun w' hS => by go_simp⟩) (fun _ => hSW) hSW ?_
              simp only [Act.put, List.setIfInBounds_toArray, List.set_cons_zero, List.set_cons_succ]
              refine anyU_pure (i := 6) (v := .pointer (some ⟨db, 0, none⟩)) rfl (by kernel_rfl) (fun _ _ _ h => h) (Or.inl ⟨by rfl, fun w' hS => by go_simp⟩) (fun _ => hSW) hSW ?_
              simp only [Act.put, List.setIfInBounds_toArray, List.set_cons_zero, List.set_cons_succ]
              refine anyU_pure (i := 7) (v := .pointer (some ⟨db, 1, none⟩)) rfl (by kernel_rfl) (fun _ _ _ h => h) (Or.inl ⟨by rfl, fun w' hS => by go_simp⟩) (fun _ => hSW) hSW ?_
              simp only [Act.put, List.setIfInBounds_toArray, List.set_cons_zero, List.set_cons_succ]
              refine anyU_keep (i := 8) (v := .int .i64 (q : Nat)) rfl (by kernel_rfl) (fun _ _ _ h => h) (Or.inl ⟨by rfl, fun w' hS => by go_simp⟩) (fun _ h => h) (fun _ => hSW) hSW ?_
              simp only [Act.put, List.setIfInBounds_toArray, List.set_cons_zero, List.set_cons_succ]
              refine anyU_pure (i := 9) (v := .string (s.extract o q)) rfl (by kernel_rfl) (fun _ _ _ h => h) (Or.inl ⟨by rfl, fun w' hS => by go_simp⟩) (fun _ => hSW) hSW ?_
              simp only [Act.put, List.setIfInBounds_toArray, List.set_cons_zero, List.set_cons_succ]
              refine anyU_one (k := 10) (by kernel_rfl) rfl (fun K hK => ?_)
              go_simp
              refine Hat.out.mono ?_
              rintro e w2 ⟨n, ev, rfl, hc2, hev⟩
              have H2 : Hid (DS w2 db s q) := Lib.hid (Hd.out.new hc2)
              have hS2 := And.intro H2.out.c0 H2.out.c1
              have Hc2 := Lib.hid (Hcd.out.new hc2)
              have Hev := Lib.hid hev
              refine hK _ _ (fun _ => hS2) hS2 ?_
              clear hK K hc2 hSW hev
              refine anyU_one (k := 11) (by kernel_rfl) rfl (fun K hK => ?_)
              go_simp
              refine hK _ _ (fun _ => hS2) hS2 ?_
              clear hK K
              refine anyU_pure (i := 12) (v := .int .i64 n) rfl (by kernel_rfl) (fun _ _ _ h => h) (Or.inl ⟨by rfl, fun w' hS => by go_simp⟩) (fun _ => hS2) hS2 ?_
              simp only [Act.put, List.setIfInBounds_toArray, List.set_cons_zero, List.set_cons_succ]
              refine anyU_pure (i := 13) (v := ev) rfl (by kernel_rfl) (fun _ _ _ h => h) (Or.inl ⟨by rfl, fun w' hS => by go_simp⟩) (fun _ => hS2) hS2 ?_
              simp only [Act.put, List.setIfInBounds_toArray, List.set_cons_zero, List.set_cons_succ]
              refine anyU_one (k := 14) (by kernel_rfl) rfl (fun K hK => ?_)
              go_simp
              refine hK _ _ (fun _ => hS2) hS2 ?_
              clear hK K
              refine anyU_one (k := 15) (by kernel_rfl) rfl (fun K hK => ?_)
              go_simp
              refine hK _ _ (fun h => by simp at h) hS2 ?_
              clear hK K hS2
              refine anyU_done (by kernel_rfl) ?_
              rcases Hev.out with ⟨rfl, hok⟩ | ⟨ta, tb, rfl⟩
              · have Hok := Lib.hid hok
                clear hok
                by_cases hn0 : -9007199254740991 ≤ n
                · have n0 : decide ((-9007199254740991 : Int) ≤ n) = true := decide_eq_true hn0
                  by_cases hn1 : n ≤ 9007199254740991
                  · have n1 : decide (n ≤ 9007199254740991) = true := decide_eq_true hn1
                    go_wp2_with fail
                    refine (He.out w2).mono ?_
                    rintro e w3 ⟨rfl, rfl⟩
                    go_wp2_with fail
                    go_ret
                    exact Or.inr ⟨n, q, rfl, hn0, hn1, Hfin.out q hqs' n Hok.out, hqs', H2.out, Hc2.out⟩
                  · have n1 : decide (n ≤ 9007199254740991) = false := decide_eq_false hn1
                    go_wp2_with fail
                    refine (Hf.out w2).mono ?_
                    rintro e w3 ⟨rfl, rfl⟩
                    go_wp2_with fail
                    exact ⟨rfl, Or.inl ⟨rfl, Hc2.out⟩⟩
                · have n0 : decide ((-9007199254740991 : Int) ≤ n) = false := decide_eq_false hn0
                  go_wp2_with fail
                  refine (Hf.out w2).mono ?_
                  rintro e w3 ⟨rfl, rfl⟩
                  go_wp2_with fail
                  exact ⟨rfl, Or.inl ⟨rfl, Hc2.out⟩⟩
              · go_wp2_with fail
                refine (Hf.out w2).mono ?_
                rintro e w3 ⟨rfl, rfl⟩
                go_wp2_with fail
                exact ⟨rfl, Or.inl ⟨rfl, Hc2.out⟩⟩
            · have hk2 : ((q : Int) == (g : Int) + 1) = false := by simp; omega
              have hk3 : (q == g + 1) = false := by simp; omega
              go_wp2_with fail
              refine (Hf.out _).mono ?_
              rintro e wy ⟨rfl, rfl⟩
              go_wp2_with fail
              exact ⟨rfl, Or.inl ⟨rfl, HR.out.2⟩⟩
          · have ha48n : ((a : Int) == 48) = false := by simp; omega
            have ha48m : ((a : Int) != 48) = true := by simp; omega
            have ha48k : (a == 48) = false := by simp; omega
            go_wp2_with fail
            refine (He.out _).mono ?_
            rintro e wy ⟨rfl, rfl⟩
            go_upto_region 9 with fail
            clear c0 c1 f1 lb hoff hgi hg0 hk hgs hau ha256 hg1 hg2 h48 ha48n ha48m ha48k d0
            refine wp_region_U (fun w' => w'.cell? ⟨db, 0, none⟩ = some (.string s) ∧ w'.cell? ⟨db, 1, none⟩ = some (.int .i64 (q : Nat))) (fun w' => w'.cell? ⟨db, 0, none⟩ = some (.string s) ∧ w'.cell? ⟨db, 1, none⟩ = some (.int .i64 (q : Nat))) 15 (by kernel_rfl) ?_
            intro wd hwd
            have hcd : Chg [] wy wd := by rw [hwd]; exact (Chg.refl _ _).drew
            have Hd : Hid (DS wd db s q) := Lib.hid (HR.out.1.new hcd)
            have hSW := And.intro Hd.out.c0 Hd.out.c1
            have Hcd : Hid (Chg [db] w wd) := Lib.hid (HR.out.2.new hcd)
            have Hat := Lib.hid (atoi_all (s.extract o q) wd (Hex.out q) (HE.out.db Hcd.out).1)
            clear hwd hcd
            refine anyU_pure (i := 0) (v := .pointer (some ⟨db, 0, none⟩)) rfl (by kernel_rfl) (fun _ _ _ h => h) (Or.inl ⟨by rfl, fun w' hS => by go_simp⟩) (fun _ => hSW) hSW ?_
            simp only [Act.put, List.setIfInBounds_toArray, List.set_cons_zero, List.set_cons_succ]
            refine anyU_pure (i := 1) (v := .pointer (some ⟨db, 0, none⟩)) rfl (by kernel_rfl) (fun _ _ _ h => h) (Or.inl ⟨by rfl, fun w' hS => by go_simp⟩) (fun _ => hSW) hSW ?_
            simp only [Act.put, List.setIfInBounds_toArray, List.set_cons_zero, List.set_cons_succ]
            refine anyU_pure (i := 2) (v := .pointer (some ⟨db, 0, none⟩)) rfl (by kernel_rfl) (fun _ _ _ h => h) (Or.inl ⟨by rfl, fun w' hS => by go_simp⟩) (fun _ => hSW) hSW ?_
            simp only [Act.put, List.setIfInBounds_toArray, List.set_cons_zero, List.set_cons_succ]
            refine anyU_keep (i := 3) (v := .string s) rfl (by kernel_rfl) (fun _ _ _ h => h) (Or.inl ⟨by rfl, fun w' hS => by go_simp⟩) (fun _ h => h) (fun _ => hSW) hSW ?_
            simp only [Act.put, List.setIfInBounds_toArray, List.set_cons_zero, List.set_cons_succ]
            refine anyU_pure (i := 4) (v := .int .i64 (o : Nat)) rfl (by kernel_rfl) (fun _ _ _ h => h) (Or.inl ⟨by rfl, fun w' hS => by go_simp⟩) (fun _ => hSW) hSW ?_
            simp only [Act.put, List.setIfInBounds_toArray, List.set_cons_zero, List.set_cons_succ]
            refine anyU_pure (i := 5) (v := .pointer (some ⟨db, 0, none⟩)) rfl (by kernel_rfl) (fun _ _ _ h => h) (Or.inl ⟨by rfl, fun w' hS => by go_simp⟩) (fun _ => hSW) hSW ?_
            simp only [Act.put, List.setIfInBounds_toArray, List.set_cons_zero, List.set_cons_succ]
            refine anyU_pure (i := 6) (v := .pointer (some ⟨db, 0, none⟩)) rfl (by kernel_rfl) (fun _ _ _ h => h) (Or.inl ⟨by rfl, fun w' hS => by go_simp⟩) (fun _ => hSW) hSW ?_
            simp only [Act.put, List.setIfInBounds_toArray, List.set_cons_zero, List.set_cons_succ]
            refine anyU_pure (i := 7) (v := .pointer (some ⟨db, 1, none⟩)) rfl (by kernel_rfl) (fun _ _ _ h => h) (Or.inl ⟨by rfl, fun w' hS => by go_simp⟩) (fun _ => hSW) hSW ?_
            simp only [Act.put, List.setIfInBounds_toArray, List.set_cons_zero, List.set_cons_succ]
            refine anyU_keep (i := 8) (v := .int .i64 (q : Nat)) rfl (by kernel_rfl) (fun _ _ _ h => h) (Or.inl ⟨by rfl, fun w' hS => by go_simp⟩) (fun _ h => h) (fun _ => hSW) hSW ?_
            simp only [Act.put, List.setIfInBounds_toArray, List.set_cons_zero, List.set_cons_succ]
            refine anyU_pure (i := 9) (v := .string (s.extract o q)) rfl (by kernel_rfl) (fun _ _ _ h => h) (Or.inl ⟨by rfl, fun w' hS => by go_simp⟩) (fun _ => hSW) hSW ?_
            simp only [Act.put, List.setIfInBounds_toArray, List.set_cons_zero, List.set_cons_succ]
            refine anyU_one (k := 10) (by kernel_rfl) rfl (fun K hK => ?_)
            go_simp
            refine Hat.out.mono ?_
            rintro e w2 ⟨n, ev, rfl, hc2, hev⟩
            have H2 : Hid (DS w2 db s q) := Lib.hid (Hd.out.new hc2)
            have hS2 := And.intro H2.out.c0 H2.out.c1
            have Hc2 := Lib.hid (Hcd.out.new hc2)
            have Hev := Lib.hid hev
            refine hK _ _ (fun _ => hS2) hS2 ?_
            clear hK K hc2 hSW hev
            refine anyU_one (k := 11) (by kernel_rfl) rfl (fun K hK => ?_)
            go_simp
            refine hK _ _ (fun _ => hS2) hS2 ?_
            clear hK K
            refine anyU_pure (i := 12) (v := .int .i64 n) rfl (by kernel_rfl) (fun _ _ _ h => h) (Or.inl ⟨by rfl, fun w' hS => by go_simp⟩) (fun _ => hS2) hS2 ?_
            simp only [Act.put, List.setIfInBounds_toArray, List.set_cons_zero, List.set_cons_succ]
            refine anyU_pure (i := 13) (v := ev) rfl (by kernel_rfl) (fun _ _ _ h => h) (Or.inl ⟨by rfl, fun w' hS => by go_simp⟩) (fun _ => hS2) hS2 ?_
            simp only [Act.put, List.setIfInBounds_toArray, List.set_cons_zero, List.set_cons_succ]
            refine anyU_one (k := 14) (by kernel_rfl) rfl (fun K hK => ?_)
            go_simp
            refine hK _ _ (fun _ => hS2) hS2 ?_
            clear hK K
            refine anyU_one (k := 15) (by kernel_rfl) rfl (fun K hK => ?_)
            go_simp
            refine hK _ _ (fun h => by simp at h) hS2 ?_
            clear hK K hS2
            refine anyU_done (by kernel_rfl) ?_
            rcases Hev.out with ⟨rfl, hok⟩ | ⟨ta, tb, rfl⟩
            · have Hok := Lib.hid hok
              clear hok
              by_cases hn0 : -9007199254740991 ≤ n
              · have n0 : decide ((-9007199254740991 : Int) ≤ n) = true := decide_eq_true hn0
                by_cases hn1 : n ≤ 9007199254740991
                · have n1 : decide (n ≤ 9007199254740991) = true := decide_eq_true hn1
                  go_wp2_with fail
                  refine (He.out w2).mono ?_
                  rintro e w3 ⟨rfl, rfl⟩
                  go_wp2_with fail
                  go_ret
                  exact Or.inr ⟨n, q, rfl, hn0, hn1, Hfin.out q hqs' n Hok.out, hqs', H2.out, Hc2.out⟩
                · have n1 : decide (n ≤ 9007199254740991) = false := decide_eq_false hn1
                  go_wp2_with fail
                  refine (Hf.out w2).mono ?_
                  rintro e w3 ⟨rfl, rfl⟩
                  go_wp2_with fail
                  exact ⟨rfl, Or.inl ⟨rfl, Hc2.out⟩⟩
              · have n0 : decide ((-9007199254740991 : Int) ≤ n) = false := decide_eq_false hn0
                go_wp2_with fail
                refine (Hf.out w2).mono ?_
                rintro e w3 ⟨rfl, rfl⟩
                go_wp2_with fail
                exact ⟨rfl, Or.inl ⟨rfl, Hc2.out⟩⟩
            · go_wp2_with fail
              refine (Hf.out w2).mono ?_
              rintro e w3 ⟨rfl, rfl⟩
              go_wp2_with fail
              exact ⟨rfl, Or.inl ⟨rfl, Hc2.out⟩⟩
        · have hg1 : decide ((g : Int) < (q : Int)) = false := decide_eq_false (by omega)
          have hg2 : decide (g < q) = false := decide_eq_false hk
          go_wp2_with fail
          refine (Hf.out _).mono ?_
          rintro e wy ⟨rfl, rfl⟩
          go_wp2_with fail
          exact ⟨rfl, Or.inl ⟨rfl, HR.out.2⟩⟩
      · have d0 : decide ((48 : Int) ≤ (x : Int)) = true := decide_eq_true (by omega)
        have d1 : decide ((x : Int) ≤ 57) = false := decide_eq_false (by omega)
        clear hx2
        by_cases hk : g < q
        · have hgs : g < s.size := by omega
          have hgi : (g : Int) < s.size := by omega
          obtain ⟨a, ha⟩ : ∃ a, s[g].toNat = a := ⟨_, rfl⟩
          have hau : s[g].toNat = a := ha
          have ha256 : a < 256 := by rw [← ha]; exact s[g].toNat_lt
          clear ha
          have hg1 : decide ((g : Int) < (q : Int)) = true := decide_eq_true (by omega)
          have hg2 : decide (g < q) = true := decide_eq_true hk
          by_cases h48 : a = 48
          · subst h48
            by_cases hk1 : q = g + 1
            · have hk2 : ((q : Int) == (g : Int) + 1) = true := by simp; omega
              have hk3 : (q == g + 1) = true := by simp; omega
              go_wp2_with fail
              refine (He.out _).mono ?_
              rintro e wy ⟨rfl, rfl⟩
              go_upto_region 9 with fail
              clear c0 c1 f1 lb hoff hgi hg0 hk hgs hau ha256 hg1 hg2 hk1 hk2 hk3 d0 d1
              refine wp_region_U (fun w' => w'.cell? ⟨db, 0, none⟩ = some (.string s) ∧ w'.cell? ⟨db, 1, none⟩ = some (.int .i64 (q : Nat))) (fun w' => w'.cell? ⟨db, 0, none⟩ = some (.string s) ∧ w'.cell? ⟨db, 1, none⟩ = some (.int .i64 (q : Nat))) 15 (by kernel_rfl) ?_
              intro wd hwd
              have hcd : Chg [] wy wd := by rw [hwd]; exact (Chg.refl _ _).drew
              have Hd : Hid (DS wd db s q) := Lib.hid (HR.out.1.new hcd)
              have hSW := And.intro Hd.out.c0 Hd.out.c1
              have Hcd : Hid (Chg [db] w wd) := Lib.hid (HR.out.2.new hcd)
              have Hat := Lib.hid (atoi_all (s.extract o q) wd (Hex.out q) (HE.out.db Hcd.out).1)
              clear hwd hcd
              refine anyU_pure (i := 0) (v := .pointer (some ⟨db, 0, none⟩)) rfl (by kernel_rfl) (fun _ _ _ h => h) (Or.inl ⟨by rfl, fun w' hS => by go_simp⟩) (fun _ => hSW) hSW ?_
              simp only [Act.put, List.setIfInBounds_toArray, List.set_cons_zero, List.set_cons_succ]
              refine anyU_pure (i := 1) (v := .pointer (some ⟨db, 0, none⟩)) rfl (by kernel_rfl) (fun _ _ _ h => h) (Or.inl ⟨by rfl, fun w' hS => by go_simp⟩) (fun _ => hSW) hSW ?_
              simp only [Act.put, List.setIfInBounds_toArray, List.set_cons_zero, List.set_cons_succ]
              refine anyU_pure (i := 2) (v := .pointer (some ⟨db, 0, none⟩)) rfl (by kernel_rfl) (fun _ _ _ h => h) (Or.inl ⟨by rfl, fun w' hS => by go_simp⟩) (fun _ => hSW) hSW ?_
              simp only [Act.put, List.setIfInBounds_toArray, List.set_cons_zero, List.set_cons_succ]
              refine anyU_keep (i := 3) (v := .string s) rfl (by kernel_rfl) (fun _ _ _ h => h) (Or.inl ⟨by rfl, fun w' hS => by go_simp⟩) (fun _ h => h) (fun _ => hSW) hSW ?_
              simp only [Act.put, List.setIfInBounds_toArray, List.set_cons_zero, List.set_cons_succ]
              refine anyU_pure (i := 4) (v := .int .i64 (o : Nat)) rfl (by kernel_rfl) (fun _ _ _ h => h) (Or.inl ⟨by rfl, fun w' hS => by go_simp⟩) (fun _ => hSW) hSW ?_
              simp only [Act.put, List.setIfInBounds_toArray, List.set_cons_zero, List.set_cons_succ]
              refine anyU_pure (i := 5) (v := .pointer (some ⟨db, 0, none⟩)) rfl (by kernel_rfl) (fun _ _ _ h => h) (Or.inl ⟨by rfl, fun w' hS => by go_simp⟩) (fun _ => hSW) hSW ?_
              simp only [Act.put, List.setIfInBounds_toArray, List.set_cons_zero, List.set_cons_succ]
              refine anyU_pure (i := 6) (v := .pointer (some ⟨db, 0, none⟩)) rfl (by kernel_rfl) (fun _ _ _ h => h) (Or.inl ⟨by rfl, fun w' hS => by go_simp⟩) (fun _ => hSW) hSW ?_
              simp only [Act.put, List.setIfInBounds_toArray, List.set_cons_zero, List.set_cons_succ]
              refine anyU_pure (i := 7) (v := .pointer (some ⟨db, 1, none⟩)) rfl (by kernel_rfl) (fun _ _ _ h => h) (Or.inl ⟨by rfl, fun w' hS => by go_simp⟩) (fun _ => hSW) hSW ?_
              simp only [Act.put, List.setIfInBounds_toArray, List.set_cons_zero, List.set_cons_succ]
              refine anyU_keep (i := 8) (v := .int .i64 (q : Nat)) rfl (by kernel_rfl) (fun _ _ _ h => h) (Or.inl ⟨by rfl, fun w' hS => by go_simp⟩) (fun _ h => h) (fun _ => hSW) hSW ?_
              simp only [Act.put, List.setIfInBounds_toArray, List.set_cons_zero, List.set_cons_succ]
              refine anyU_pure (i := 9) (v := .string (s.extract o q)) rfl (by kernel_rfl) (fun _ _ _ h => h) (Or.inl ⟨by rfl, fun w' hS => by go_simp⟩) (fun _ => hSW) hSW ?_
              simp only [Act.put, List.setIfInBounds_toArray, List.set_cons_zero, List.set_cons_succ]
              refine anyU_one (k := 10) (by kernel_rfl) rfl (fun K hK => ?_)
              go_simp
              refine Hat.out.mono ?_
              rintro e w2 ⟨n, ev, rfl, hc2, hev⟩
              have H2 : Hid (DS w2 db s q) := Lib.hid (Hd.out.new hc2)
              have hS2 := And.intro H2.out.c0 H2.out.c1
              have Hc2 := Lib.hid (Hcd.out.new hc2)
              have Hev := Lib.hid hev
              refine hK _ _ (fun _ => hS2) hS2 ?_
              clear hK K hc2 hSW hev
              refine anyU_one (k := 11) (by kernel_rfl) rfl (fun K hK => ?_)
              go_simp
              refine hK _ _ (fun _ => hS2) hS2 ?_
              clear hK K
              refine anyU_pure (i := 12) (v := .int .i64 n) rfl (by kernel_rfl) (fun _ _ _ h => h) (Or.inl ⟨by rfl, fun w' hS => by go_simp⟩) (fun _ => hS2) hS2 ?_
              simp only [Act.put, List.setIfInBounds_toArray, List.set_cons_zero, List.set_cons_succ]
              refine anyU_pure (i := 13) (v := ev) rfl (by kernel_rfl) (fun _ _ _ h => h) (Or.inl ⟨by rfl, fun w' hS => by go_simp⟩) (fun _ => hS2) hS2 ?_
              simp only [Act.put, List.setIfInBounds_toArray, List.set_cons_zero, List.set_cons_succ]
              refine anyU_one (k := 14) (by kernel_rfl) rfl (fun K hK => ?_)
              go_simp
              refine hK _ _ (fun _ => hS2) hS2 ?_
              clear hK K
              refine anyU_one (k := 15) (by kernel_rfl) rfl (fun K hK => ?_)
              go_simp
              refine hK _ _ (fun h => by simp at h) hS2 ?_
              clear hK K hS2
              refine anyU_done (by kernel_rfl) ?_
              rcases Hev.out with ⟨rfl, hok⟩ | ⟨ta, tb, rfl⟩
              · have Hok := Lib.hid hok
                clear hok
                by_cases hn0 : -9007199254740991 ≤ n
                · have n0 : decide ((-9007199254740991 : Int) ≤ n) = true := decide_eq_true hn0
                  by_cases hn1 : n ≤ 9007199254740991
                  · have n1 : decide (n ≤ 9007199254740991) = true := decide_eq_true hn1
                    go_wp2_with fail
                    refine (He.out w2).mono ?_
                    rintro e w3 ⟨rfl, rfl⟩
                    go_wp2_with fail
                    go_ret
                    exact Or.inr ⟨n, q, rfl, hn0, hn1, Hfin.out q hqs' n Hok.out, hqs', H2.out, Hc2.out⟩
                  · have n1 : decide (n ≤ 9007199254740991) = false := decide_eq_false hn1
                    go_wp2_with fail
                    refine (Hf.out w2).mono ?_
                    rintro e w3 ⟨rfl, rfl⟩
                    go_wp2_with fail
                    exact ⟨rfl, Or.inl ⟨rfl, Hc2.out⟩⟩
                · have n0 : decide ((-9007199254740991 : Int) ≤ n) = false := decide_eq_false hn0
                  go_wp2_with fail
                  refine (Hf.out w2).mono ?_
                  rintro e w3 ⟨rfl, rfl⟩
                  go_wp2_with fail
                  exact ⟨rfl, Or.inl ⟨rfl, Hc2.out⟩⟩
              · go_wp2_with fail
                refine (Hf.out w2).mono ?_
                rintro e w3 ⟨rfl, rfl⟩
                go_wp2_with fail
                exact ⟨rfl, Or.inl ⟨rfl, Hc2.out⟩⟩
            · have hk2 : ((q : Int) == (g : Int) + 1) = false := by simp; omega
              have hk3 : (q == g + 1) = false := by simp; omega
              go_wp2_with fail
              refine (Hf.out _).mono ?_
              rintro e wy ⟨rfl, rfl⟩
              go_wp2_with fail
              exact ⟨rfl, Or.inl ⟨rfl, HR.out.2⟩⟩
          · have ha48n : ((a : Int) == 48) = false := by simp; omega
            have ha48m : ((a : Int) != 48) = true := by simp; omega
            have ha48k : (a == 48) = false := by simp; omega
            go_wp2_with fail
            refine (He.out _).mono ?_
            rintro e wy ⟨rfl, rfl⟩
            go_upto_region 9 with fail
            clear c0 c1 f1 lb hoff hgi hg0 hk hgs hau ha256 hg1 hg2 h48 ha48n ha48m ha48k d0 d1
            refine wp_region_U (fun w' => w'.cell? ⟨db, 0, none⟩ = some (.string s) ∧ w'.cell? ⟨db, 1, none⟩ = some (.int .i64 (q : Nat))) (fun w' => w'.cell? ⟨db, 0, none⟩ = some (.string s) ∧ w'.cell? ⟨db, 1, none⟩ = some (.int .i64 (q : Nat))) 15 (by kernel_rfl) ?_
            intro wd hwd
            have hcd : Chg [] wy wd := by rw [hwd]; exact (Chg.refl _ _).drew
            have Hd : Hid (DS wd db s q) := Lib.hid (HR.out.1.new hcd)
            have hSW := And.intro Hd.out.c0 Hd.out.c1
            have Hcd : Hid (Chg [db] w wd) := Lib.hid (HR.out.2.new hcd)
            have Hat := Lib.hid (atoi_all (s.extract o q) wd (Hex.out q) (HE.out.db Hcd.out).1)
            clear hwd hcd
            refine anyU_pure (i := 0) (v := .pointer (some ⟨db, 0, none⟩)) rfl (by kernel_rfl) (fun _ _ _ h => h) (Or.inl ⟨by rfl, fun w' hS => by go_simp⟩) (fun _ => hSW) hSW ?_
            simp only [Act.put, List.setIfInBounds_toArray, List.set_cons_zero, List.set_cons_succ]
            refine anyU_pure (i := 1) (v := .pointer (some ⟨db, 0, none⟩)) rfl (by kernel_rfl) (fun _ _ _ h => h) (Or.inl ⟨by rfl, fun w' hS => by go_simp⟩) (fun _ => hSW) hSW ?_
            simp only [Act.put, List.setIfInBounds_toArray, List.set_cons_zero, List.set_cons_succ]
            refine anyU_pure (i := 2) (v := .pointer (some ⟨db, 0, none⟩)) rfl (by kernel_rfl) (fun _ _ _ h => h) (Or.inl ⟨by rfl, fun w' hS => by go_simp⟩) (fun _ => hSW) hSW ?_
            simp only [Act.put, List.setIfInBounds_toArray, List.set_cons_zero, List.set_cons_succ]
            refine anyU_keep (i := 3) (v := .string s) rfl (by kernel_rfl) (fun _ _ _ h => h) (Or.inl ⟨by rfl, fun w' hS => by go_simp⟩) (fun _ h => h) (fun _ => hSW) hSW ?_
            simp only [Act.put, List.setIfInBounds_toArray, List.set_cons_zero, List.set_cons_succ]
            refine anyU_pure (i := 4) (v := .int .i64 (o : Nat)) rfl (by kernel_rfl) (fun _ _ _ h => h) (Or.inl ⟨by rfl, fun w' hS => by go_simp⟩) (fun _ => hSW) hSW ?_
            simp only [Act.put, List.setIfInBounds_toArray, List.set_cons_zero, List.set_cons_succ]
            refine anyU_pure (i := 5) (v := .pointer (some ⟨db, 0, none⟩)) rfl (by kernel_rfl) (fun _ _ _ h => h) (Or.inl ⟨by rfl, fun w' hS => by go_simp⟩) (fun _ => hSW) hSW ?_
            simp only [Act.put, List.setIfInBounds_toArray, List.set_cons_zero, List.set_cons_succ]
            refine anyU_pure (i := 6) (v := .pointer (some ⟨db, 0, none⟩)) rfl (by kernel_rfl) (fun _ _ _ h => h) (Or.inl ⟨by rfl, fun w' hS => by go_simp⟩) (fun _ => hSW) hSW ?_
            simp only [Act.put, List.setIfInBounds_toArray, List.set_cons_zero, List.set_cons_succ]
            refine anyU_pure (i := 7) (v := .pointer (some ⟨db, 1, none⟩)) rfl (by kernel_rfl) (fun _ _ _ h => h) (Or.inl ⟨by rfl, fun w' hS => by go_simp⟩) (fun _ => hSW) hSW ?_
            simp only [Act.put, List.setIfInBounds_toArray, List.set_cons_zero, List.set_cons_succ]
            refine anyU_keep (i := 8) (v := .int .i64 (q : Nat)) rfl (by kernel_rfl) (fun _ _ _ h => h) (Or.inl ⟨by rfl, fun w' hS => by go_simp⟩) (fun _ h => h) (fun _ => hSW) hSW ?_
            simp only [Act.put, List.setIfInBounds_toArray, List.set_cons_zero, List.set_cons_succ]
            refine anyU_pure (i := 9) (v := .string (s.extract o q)) rfl (by kernel_rfl) (fun _ _ _ h => h) (Or.inl ⟨by rfl, fun w' hS => by go_simp⟩) (fun _ => hSW) hSW ?_
            simp only [Act.put, List.setIfInBounds_toArray, List.set_cons_zero, List.set_cons_succ]
            refine anyU_one (k := 10) (by kernel_rfl) rfl (fun K hK => ?_)
            go_simp
            refine Hat.out.mono ?_
            rintro e w2 ⟨n, ev, rfl, hc2, hev⟩
            have H2 : Hid (DS w2 db s q) := Lib.hid (Hd.out.new hc2)
            have hS2 := And.intro H2.out.c0 H2.out.c1
            have Hc2 := Lib.hid (Hcd.out.new hc2)
            have Hev := Lib.hid hev
            refine hK _ _ (fun _ => hS2) hS2 ?_
            clear hK K hc2 hSW hev
            refine anyU_one (k := 11) (by kernel_rfl) rfl (fun K hK => ?_)
            go_simp
            refine hK _ _ (fun _ => hS2) hS2 ?_
            clear hK K
            refine anyU_pure (i := 12) (v := .int .i64 n) rfl (by kernel_rfl) (fun _ _ _ h => h) (Or.inl ⟨by rfl, fun w' hS => by go_simp⟩) (fun _ => hS2) hS2 ?_
            simp only [Act.put, List.setIfInBounds_toArray, List.set_cons_zero, List.set_cons_succ]
            refine anyU_pure (i := 13) (v := ev) rfl (by kernel_rfl) (fun _ _ _ h => h) (Or.inl ⟨by rfl, fun w' hS => by go_simp⟩) (fun _ => hS2) hS2 ?_
            simp only [Act.put, List.setIfInBounds_toArray, List.set_cons_zero, List.set_cons_succ]
            refine anyU_one (k := 14) (by kernel_rfl) rfl (fun K hK => ?_)
            go_simp
            refine hK _ _ (fun _ => hS2) hS2 ?_
            clear hK K
            refine anyU_one (k := 15) (by kernel_rfl) rfl (fun K hK => ?_)
            go_simp
            refine hK _ _ (fun h => by simp at h) hS2 ?_
            clear hK K hS2
            refine anyU_done (by kernel_rfl) ?_
            rcases Hev.out with ⟨rfl, hok⟩ | ⟨ta, tb, rfl⟩
            · have Hok := Lib.hid hok
              clear hok
              by_cases hn0 : -9007199254740991 ≤ n
              · have n0 : decide ((-9007199254740991 : Int) ≤ n) = true := decide_eq_true hn0
                by_cases hn1 : n ≤ 9007199254740991
                · have n1 : decide (n ≤ 9007199254740991) = true := decide_eq_true hn1
                  go_wp2_with fail
                  refine (He.out w2).mono ?_
                  rintro e w3 ⟨rfl, rfl⟩
                  go_wp2_with fail
                  go_ret
                  exact Or.inr ⟨n, q, rfl, hn0, hn1, Hfin.out q hqs' n Hok.out, hqs', H2.out, Hc2.out⟩
                · have n1 : decide (n ≤ 9007199254740991) = false := decide_eq_false hn1
                  go_wp2_with fail
                  refine (Hf.out w2).mono ?_
                  rintro e w3 ⟨rfl, rfl⟩
                  go_wp2_with fail
                  exact ⟨rfl, Or.inl ⟨rfl, Hc2.out⟩⟩
              · have n0 : decide ((-9007199254740991 : Int) ≤ n) = false := decide_eq_false hn0
                go_wp2_with fail
                refine (Hf.out w2).mono ?_
                rintro e w3 ⟨rfl, rfl⟩
                go_wp2_with fail
                exact ⟨rfl, Or.inl ⟨rfl, Hc2.out⟩⟩
            · go_wp2_with fail
              refine (Hf.out w2).mono ?_
              rintro e w3 ⟨rfl, rfl⟩
              go_wp2_with fail
              exact ⟨rfl, Or.inl ⟨rfl, Hc2.out⟩⟩
        · have hg1 : decide ((g : Int) < (q : Int)) = false := decide_eq_false (by omega)
          have hg2 : decide (g < q) = false := decide_eq_false hk
          go_wp2_with fail
          refine (Hf.out _).mono ?_
          rintro e wy ⟨rfl, rfl⟩
          go_wp2_with fail
          exact ⟨rfl, Or.inl ⟨rfl, HR.out.2⟩⟩
end Go.Proofs.YtpnaegfldkjikaaDoor.Jv
