/- WordindexCrash: hex. -/
import Derived.Test.YticfigfipbcmhaaGreatDoorWiE
import Derived.Lib.Bytealg
namespace Go.Proofs.YticfigfipbcmhaaGreatDoor
open Go.RowKit Go.ChangeMaps Go.MapKept Go.Shelf
set_option linter.unusedVariables false
set_option linter.unusedSimpArgs false
/-- a hexadecimal digit -/
def hexD (n : Nat) : UInt8 := if n < 10 then UInt8.ofNat (48 + n) else UInt8.ofNat (87 + n)
theorem hexD_nat (n : Nat) (h : n < 16) : (hexD n).toNat = if n < 10 then 48 + n else 87 + n := by
  unfold hexD
  split <;> simp <;> omega
theorem hexD_inj {a b : Nat} (ha : a < 16) (hb : b < 16) (h : hexD a = hexD b) : a = b := by
  have := congrArg UInt8.toNat h
  rw [hexD_nat a ha, hexD_nat b hb] at this
  split at this <;> split at this <;> omega
def hexI (n i : Nat) : Nat := n / 16 ^ (7 - i) % 16
theorem hexI_lt (n i : Nat) : hexI n i < 16 := Nat.mod_lt _ (by decide)
def hx8 (n : Nat) : List UInt8 := (List.range 8).map fun i => hexD (hexI n i)
theorem hx8_len (n : Nat) : (hx8 n).length = 8 := by simp [hx8]
theorem hx8_inj {a b : Nat} (ha : a < 4294967296) (hb : b < 4294967296) (h : hx8 a = hx8 b) : a = b := by
  have k : ∀ i, i < 8 → hexI a i = hexI b i := by
    intro i hi
    have h1 : (hx8 a)[i]? = (hx8 b)[i]? := by rw [h]
    simp only [hx8, List.getElem?_map, List.getElem?_range hi, Option.map_some, Option.some.injEq] at h1
    exact hexD_inj (hexI_lt _ _) (hexI_lt _ _) h1
  have k0 := k 0 (by omega)
  have k1 := k 1 (by omega)
  have k2 := k 2 (by omega)
  have k3 := k 3 (by omega)
  have k4 := k 4 (by omega)
  have k5 := k 5 (by omega)
  have k6 := k 6 (by omega)
  have k7 := k 7 (by omega)
  unfold hexI at k0 k1 k2 k3 k4 k5 k6 k7
  simp only [Nat.reduceSub, Nat.reducePow, Nat.sub_zero, Nat.sub_self, Nat.pow_zero, Nat.div_one] at k0 k1 k2 k3 k4 k5 k6 k7
  omega
def hexCells (n k : Nat) : Array Value := ((List.range 8).map fun j => if j < k then Value.int .u8 ((hexD (hexI n j)).toNat : Int) else .int .u8 0).toArray
theorem hexCells_get (n k j : Nat) (hj : j < 8) : (hexCells n k)[j]? = some (if j < k then Value.int .u8 ((hexD (hexI n j)).toNat : Int) else .int .u8 0) := by
  simp [hexCells, hj]
theorem hexCells_set (n k : Nat) (hk : k < 8) : (hexCells n k).setIfInBounds k (.int .u8 ((hexD (hexI n k)).toNat : Int)) = hexCells n (k + 1) := by
  apply Array.ext_getElem?
  intro j
  rw [Array.getElem?_setIfInBounds]
  by_cases hj : j < 8
  · rw [hexCells_get n (k + 1) j hj, hexCells_get n k j hj]
    by_cases e : k = j
    · subst e; simp [hexCells, hk]
    · rw [if_neg e]
      by_cases h : j < k
      · rw [if_pos h, if_pos (by omega)]
      · rw [if_neg h, if_neg (by omega)]
  · rw [if_neg (by omega)]
    simp [hexCells, hj]
theorem hex_and (n k : Nat) (hn : n < 4294967296) (hk : k < 8) : bits .and .u32 ((n : Int) / 2 ^ (28 - 4 * k)) 15 = ((hexI n k : Nat) : Int) := by
  have e : ((n : Int) / 2 ^ (28 - 4 * k)) = ((n / 2 ^ (28 - 4 * k) : Nat) : Int) := by
    rw [Int.natCast_ediv, Int.natCast_pow]; rfl
  have h1 : n / 2 ^ (28 - 4 * k) < 4294967296 := Nat.lt_of_le_of_lt (Nat.div_le_self _ _) hn
  rw [e, show (15 : Int) = ((15 : Nat) : Int) from rfl, u32_and_nat _ _ h1 (by decide)]
  have h2 := Nat.and_two_pow_sub_one_eq_mod (n / 2 ^ (28 - 4 * k)) 4
  rw [show 2 ^ 4 - 1 = 15 from rfl, show 2 ^ 4 = 16 from rfl] at h2
  rw [h2]
  unfold hexI
  have h3 : 16 ^ (7 - k) = 2 ^ (28 - 4 * k) := by
    rw [show 16 = 2 ^ 4 from rfl, ← Nat.pow_mul]
    congr 1
    omega
  rw [h3]
def hexDs : ByteArray := ⟨#[48, 49, 50, 51, 52, 53, 54, 55, 56, 57, 97, 98, 99, 100, 101, 102]⟩
theorem hexDs_at (m : Nat) (h : m < 16) : hexDs[m]'h = hexD m := by
  have : ∀ m : Fin 16, hexDs[m.val]'m.isLt = hexD m.val := by decide
  exact this ⟨m, h⟩
theorem hexDs_nat (m : Nat) (x : Int) (hx : x = (m : Int)) (h : m < 16) (h' : x.toNat < hexDs.size) : ((hexDs[x.toNat]'h').toNat : Int) = ((hexD m).toNat : Int) := by
  subst hx
  exact congrArg (fun b : UInt8 => (b.toNat : Int)) (hexDs_at m h)
set_option maxRecDepth 100000 in
theorem hex_any (n : Nat) (w : World) (hn : n < 4294967296) : Calls Tryz.prog 41 #[.int .u32 (n : Nat)] w fun e w' => e = .returned (.string (lb (hx8 n))) ∧ Chg [] w w' := by
  have Hn := Lib.hid hn
  go_enter Tryz.func41, Tryz.ntmps41
  go_wp2_with fail
  go_loopw [5] (fun i wr => ∃ k : Nat, k ≤ 8 ∧ i = .int .i64 (k : Nat) ∧ Hid (wr.heap[w.heap.size]? = some (.cells (hexCells n k) 101 (0, 0)) ∧ Chg [] w wr)) (fun i _ => 8 - (intOf i).toNat)
  case atStart => exact ⟨0, by omega, rfl, Lib.hid ⟨heap_at _ _ _ rfl, (Chg.refl [] _).alloc _⟩⟩
  case round =>
    obtain ⟨k, hk, rfl, HR⟩ := hrel
    by_cases hlt : k < 8
    · have hk1 : (k : Int) < 8 := by omega
      have hk0 : (0 : Int) ≤ (k : Int) := by omega
      have c0 : wr.cell? ⟨w.heap.size, k, none⟩ = some (.int .u8 0) := cell_of_heap HR.out.1 (by rw [hexCells_get n k k hlt, if_neg (by omega)])
      have f0 : wr.frozen? ⟨w.heap.size, k, none⟩ = false := frozen_of_heap HR.out.1
      have l0 := lt_of_cell c0
      have hz := hex_and n k Hn.out hlt
      have hz0 : (0 : Int) ≤ ((hexI n k : Nat) : Int) := by omega
      have hz1 : ((hexI n k : Nat) : Int) < 16 := by have := hexI_lt n k; omega
      have hI := hexI_lt n k
      go_wp2_with fail
      refine ⟨⟨k + 1, by omega, by go_num, Lib.hid ⟨?_, HR.out.2.setCell (Or.inr (Nat.le_refl _)) _⟩⟩, by simp [intOf]; omega⟩
      rw [heap_setCell_same HR.out.1, ← hexCells_set n k hlt, ← hexDs_at _ hI]
      rfl
    · have hk1 : ¬ ((k : Int) < 8) := by omega
      obtain rfl : k = 8 := by omega
      have hcv : (convert 100 9 (.slice (some ⟨w.heap.size, 0, none⟩) 8 8)).run Tryz.prog wr = .ok (.string (lb (hx8 n))) wr := by
        have hl : (hx8 n).length = 8 := hx8_len n
        have := run_convert_bytes_back wr 100 9 5 ⟨w.heap.size, 0, none⟩ 8 (hx8 n) Tryz.underlying100 Tryz.underlying5 Tryz.underlying9 (fun j hj => by
          rw [Addr.add_lit, Nat.zero_add]
          have hj8 : j < 8 := by omega
          exact cell_of_heap HR.out.1 (by rw [hexCells_get n 8 j hj8, if_pos hj8]; simp [hx8]))
        rw [hl] at this
        exact this
      go_wp2_with fail
      go_ret
      exact ⟨rfl, HR.out.2⟩
end Go.Proofs.YticfigfipbcmhaaGreatDoor
