/- JSON texts: four hexadecimal digits. -/
import Derived.Test.YtpnaegfldkjikaaDoorJvS
import Derived.Lib.ConvBytes
import Derived.Lib.AtoiAllMem
namespace Go.Proofs.YtpnaegfldkjikaaDoor.Jv
open Go.RowKit Go.ChangeMaps Go.MapKept
set_option linter.unusedVariables false
set_option linter.unusedSimpArgs false
def hxD (a : Nat) : Option Nat := if 48 ≤ a ∧ a ≤ 57 then some (a - 48) else if 97 ≤ a ∧ a ≤ 102 then some (a - 87) else if 65 ≤ a ∧ a ≤ 70 then some (a - 55) else none
def hexF : Nat → List UInt8 → Option Nat
  | acc, [] => some acc
  | acc, c :: r => match hxD c.toNat with | none => none | some d => hexF (acc * 16 + d) r
/-- what a parse of hexadecimal digits answers -/
def hexTup (r : Option Nat) : Value := match r with | some n => .tuple #[.int .u64 (n : Nat), .nilIface] | none => .tuple #[.int .u64 0, .iface 100 (.int .i64 2)]
set_option maxRecDepth 100000 in
theorem low_all : ∀ a : Fin 256, bits .or .u8 (a.val : Int) 32 = ((a.val ||| 32 : Nat) : Int) := by decide
set_option maxRecDepth 100000 in
theorem low_dig : ∀ a : Fin 256, (97 ≤ a.val ∧ a.val ≤ 122 → a.val ||| 32 = a.val) ∧ (65 ≤ a.val ∧ a.val ≤ 90 → a.val ||| 32 = a.val + 32) ∧ (97 ≤ (a.val ||| 32) ∧ (a.val ||| 32) ≤ 122 → (97 ≤ a.val ∧ a.val ≤ 122) ∨ (65 ≤ a.val ∧ a.val ≤ 90)) := by decide
set_option maxHeartbeats 32000000 in
set_option maxRecDepth 100000 in
theorem puint16 (t : ByteArray) (ht : t.size = 4) (w : World) :
    Calls Tryd.prog 83 #[.string t, .int .i64 16, .int .i64 32] w fun e w' => e = .returned (hexTup (hexF 0 t.data.toList)) ∧ w' = Lib.bytesWorld w 5 t := by
  have hemp : t.toList.isEmpty = false := by
    rw [← decide_eq_emptyBytes]
    exact decide_eq_false (fun h => by rw [h] at ht; cases ht)
  have hcv := Lib.run_convert_string_bytes (P := Tryd.prog) w 9 47 5 t (u := .string) Tryd.underlying9 Tryd.underlying47 Tryd.underlying5
  have hB : ∀ j, j < t.size → (Lib.bytesWorld w 5 t).cell? ⟨w.heap.size, j, none⟩ = some (.int .u8 (t.data.toList.getD j 0).toNat) := fun j hj => Lib.bytesWorld_cell w 5 t j hj
  obtain ⟨W1, hW1⟩ : ∃ W1, W1 = Lib.bytesWorld w 5 t := ⟨_, rfl⟩
  rw [← hW1] at hcv hB ⊢
  clear hW1
  obtain ⟨bs, hL⟩ : ∃ bs, bs = t.data.toList := ⟨_, rfl⟩
  have hLn : bs.length = t.size := by rw [hL, Lib.size_eq]
  rw [← hL] at hB ⊢
  clear hL
  obtain ⟨m, hm⟩ : ∃ m, m = t.size := ⟨_, rfl⟩
  have hm4 : m = 4 := hm.trans ht
  have HHm := Lib.hid hm4
  rw [← hm] at hcv hB hLn
  have HL := Lib.hid hLn
  have hm5 : (m : Int) ≤ 4 := by omega
  have hmv : IntKind.u64.wrap (IntKind.u64.wrap 4294967296 - 1) = 4294967295 := by
    rw [IntKind.wrap_u64, IntKind.wrap_u64]
    decide
  clear ht hm4 hm
  go_enter Tryd.func83, Tryd.ntmps83
  go_wp2_with fail
  go_loopw [12, 13, 101] (fun vu vn vi wr => ∃ (k acc : Nat) (a : Int), vu = .bool false ∧ vn = .int .u64 a ∧ vi = .int .i64 (k : Nat) ∧ k ≤ m ∧ Hid (a = (acc : Int) ∧ acc < 16 ^ k ∧ hexF 0 bs = hexF acc (bs.drop k)) ∧ Hid (wr = W1))
    (fun _ _ vi _ => m - (intOf vi).toNat)
  case atStart => exact ⟨0, 0, 0, rfl, rfl, rfl, by omega, Lib.hid ⟨rfl, by simp, by simp⟩, Lib.hid rfl⟩
  case round =>
    obtain ⟨k, acc, a, rfl, rfl, rfl, hk, hh, hw⟩ := hrel
    have hwe := hw.out
    subst hwe
    obtain ⟨ha, hacc, hdec⟩ := hh.out
    clear hh
    have h4 : m ≤ 4 := Nat.le_of_eq HHm.out
    by_cases hkn : k < m
    · have hp : 16 ^ k ≤ 4096 := Nat.le_trans (Nat.pow_le_pow_right (by decide) (show k ≤ 3 by omega)) (by decide)
      have hp1 : 16 ^ (k + 1) = 16 ^ k * 16 := Nat.pow_succ 16 k
      have a0 : 0 ≤ a := by omega
      have a1 : a < 4096 := by omega
      have hkn1 : (k : Int) < m := by omega
      have hk0 : (0 : Int) ≤ k := by omega
      have hc := hB k hkn
      have hln := HL.out
      have hdrop : bs.drop k = bs[k]'(by omega) :: bs.drop (k + 1) := List.drop_eq_getElem_cons (by omega)
      have hget : bs.getD k 0 = bs[k]'(by omega) := by simp [List.getD, List.getElem?_eq_getElem (show k < bs.length by omega)]
      rw [hdrop] at hdec
      rw [hget] at hc
      generalize bs[k]'(by omega) = c at hc hdec
      obtain ⟨n, hn⟩ : ∃ n, n = c.toNat := ⟨_, rfl⟩
      have hc256 : n < 256 := by rw [hn]; exact c.toNat_lt
      rw [← hn] at hc
      have hlo := low_all ⟨n, hc256⟩
      have hld := low_dig ⟨n, hc256⟩
      simp only at hlo hld
      rw [hexF, ← hn] at hdec
      have lW := lt_of_cell hc
      clear hB hdrop hget hln hn
      by_cases hdig : 48 ≤ n ∧ n ≤ 57
      · have hF : hxD n = some (n - 48) := if_pos hdig
        rw [hF] at hdec
        simp only at hdec
        obtain ⟨hd0, hd1⟩ := hdig
        have HN : Hid (a * 16 + ((n : Int) - 48) = ((acc * 16 + (n - 48) : Nat) : Int) ∧ acc * 16 + (n - 48) < 16 ^ (k + 1) ∧ hexF 0 bs = hexF (acc * 16 + (n - 48)) (bs.drop (k + 1))) := Lib.hid ⟨by omega, by omega, hdec⟩
        clear hdec hp hp1 hacc ha hlo hld hF
        go_wp2_with fail
        exact ⟨⟨k + 1, _, _, rfl, rfl, by go_num, by omega, HN, Lib.hid trivial⟩, by simp [intOf]; omega⟩
      · have hd1 : ¬ n ≤ 57 ∨ ¬ 48 ≤ n := by omega
        obtain ⟨l, hl⟩ : ∃ l, l = n ||| 32 := ⟨_, rfl⟩
        rw [← hl] at hlo hld
        have Hlow := Lib.hid (fun W : World => by have h := Tryd.internal_strconv_lower (n : Int) W; rw [hlo] at h; exact h)
        have hl256 : l < 256 := by
          rw [hl]; exact Nat.or_lt_two_pow (n := 8) hc256 (by decide)
        by_cases hx : (97 ≤ n ∧ n ≤ 102) ∨ (65 ≤ n ∧ n ≤ 70)
        · have hl2 : 97 ≤ l ∧ l ≤ 102 := by
            rcases hx with h | h
            · have := hld.1 (by omega); omega
            · have := hld.2.1 (by omega); omega
          have hF : hxD n = some (l - 87) := by
            unfold hxD
            rw [if_neg hdig]
            rcases hx with h | h
            · rw [if_pos h, hld.1 (by omega)]
            · rw [if_neg (by omega), if_pos h, hld.2.1 (by omega)]
              exact congrArg some (by omega)
          rw [hF] at hdec
          simp only at hdec
          obtain ⟨hl3, hl4⟩ := hl2
          have HN : Hid (a * 16 + ((l : Int) - 97 + 10) = ((acc * 16 + (l - 87) : Nat) : Int) ∧ acc * 16 + (l - 87) < 16 ^ (k + 1) ∧ hexF 0 bs = hexF (acc * 16 + (l - 87)) (bs.drop (k + 1))) := Lib.hid ⟨by omega, by omega, hdec⟩
          have h57 : (57 : Int) < n := by omega
          have h48 : (48 : Int) ≤ n := by omega
          have hnu : ¬ (n : Int) = 95 := by omega
          have hnb : ((n : Int) == 95) = false := by simp; omega
          have hnb2 : (n == 95) = false := by simp; omega
          clear hdec hp hp1 hacc ha hlo hld hF hl hx hdig hd1
          go_wp2_with fail
          refine (Hlow.out _).mono ?_
          rintro e w' ⟨rfl, rfl⟩
          go_wp2_with fail
          refine (Hlow.out _).mono ?_
          rintro e w' ⟨rfl, rfl⟩
          go_wp2_with fail
          refine (Hlow.out _).mono ?_
          rintro e w' ⟨rfl, rfl⟩
          go_wp2_with fail
          exact ⟨⟨k + 1, _, _, rfl, rfl, by go_num, by omega, HN, Lib.hid trivial⟩, by simp [intOf]; omega⟩
        · have hF : hxD n = none := by
            unfold hxD
            rw [if_neg hdig, if_neg (by omega), if_neg (by omega)]
          rw [hF] at hdec
          simp only at hdec
          have Hdec := Lib.hid hdec
          have hlow48 : ∀ n l : Nat, l = n ||| 32 → n < 48 → l < 64 := fun n l h h' => by rw [h]; exact Nat.or_lt_two_pow (n := 6) (by omega) (by decide)
          have hlx : (97 ≤ l ∧ l ≤ 122) → 103 ≤ l := fun h => by
            rcases hld.2.2 h with h' | h'
            · have := hld.1 h'; omega
            · have := hld.2.1 h'; omega
          clear hdec hp hp1 hacc ha hlo hld hF
          have hnb : n = 95 → l = 127 := fun h => by subst h; exact (hl.trans (by decide))
          by_cases h95 : (n == 95) = true
          · have hl127 : l = 127 := hnb (by simpa using h95)
            have hn95 : n = 95 := by simpa using h95
            subst hl127
            subst hn95
            clear hnb hlx hx hdig hd1 h95
            go_wp2_with fail
            refine (Hlow.out _).mono ?_
            rintro e w' ⟨rfl, rfl⟩
            go_wp2_with fail
            refine (Hlow.out _).mono ?_
            rintro e w' ⟨rfl, rfl⟩
            go_wp2_with fail
            go_ret2
            exact ⟨by rw [Hdec.out]; rfl, rfl⟩
          · have h95f : (n == 95) = false := by simpa using h95
            have h95i : ((n : Int) == 95) = false := by simp at h95f ⊢; omega
            have h95n : ¬ n = 95 := by simpa using h95f
            have hl9 := hl
            clear hnb h95 hl
            by_cases h48 : 48 ≤ n
            · have h57 : (57 : Int) < n := by omega
              have h57n : 57 < n := by omega
              have h48i : (48 : Int) ≤ n := by omega
              by_cases h97 : 97 ≤ l
              · have h97i : (97 : Int) ≤ l := by omega
                by_cases h122 : l ≤ 122
                · have h103 := hlx ⟨h97, h122⟩
                  have h122i : (l : Int) ≤ 122 := by omega
                  have h103i : (103 : Int) ≤ l := by omega
                  clear hlx hx hdig hd1
                  go_wp2_with fail
                  refine (Hlow.out _).mono ?_
                  rintro e w' ⟨rfl, rfl⟩
                  go_wp2_with fail
                  refine (Hlow.out _).mono ?_
                  rintro e w' ⟨rfl, rfl⟩
                  go_wp2_with fail
                  refine (Hlow.out _).mono ?_
                  rintro e w' ⟨rfl, rfl⟩
                  go_wp2_with fail
                  go_ret2
                  exact ⟨by rw [Hdec.out]; rfl, rfl⟩
                · have h122i : (122 : Int) < l := by omega
                  clear hlx hx hdig hd1
                  go_wp2_with fail
                  refine (Hlow.out _).mono ?_
                  rintro e w' ⟨rfl, rfl⟩
                  go_wp2_with fail
                  refine (Hlow.out _).mono ?_
                  rintro e w' ⟨rfl, rfl⟩
                  go_wp2_with fail
                  go_ret2
                  exact ⟨by rw [Hdec.out]; rfl, rfl⟩
              · have h97i : (l : Int) < 97 := by omega
                clear hlx hx hdig hd1
                go_wp2_with fail
                refine (Hlow.out _).mono ?_
                rintro e w' ⟨rfl, rfl⟩
                go_wp2_with fail
                go_ret2
                exact ⟨by rw [Hdec.out]; rfl, rfl⟩
            · have h48i : (n : Int) < 48 := by omega
              by_cases h97 : 97 ≤ l
              · exfalso
                have := hlow48 n l hl9 (by omega)
                omega
              · have h97i : (l : Int) < 97 := by omega
                clear hlx hx hdig hd1
                go_wp2_with fail
                refine (Hlow.out _).mono ?_
                rintro e w' ⟨rfl, rfl⟩
                go_wp2_with fail
                go_ret2
                exact ⟨by rw [Hdec.out]; rfl, rfl⟩
    · have hkm : k = m := by omega
      have hln := HL.out
      rw [List.drop_of_length_le (show bs.length ≤ k by omega), hexF] at hdec
      have Hdec := Lib.hid hdec
      have Ha := Lib.hid ha
      have hkn1 : ¬ (k : Int) < m := by omega
      clear hdec ha hacc hln
      go_wp2_with fail
      go_ret2
      have e1 := Ha.out
      subst e1
      exact ⟨by rw [Hdec.out]; rfl, rfl⟩
end Go.Proofs.YtpnaegfldkjikaaDoor.Jv
