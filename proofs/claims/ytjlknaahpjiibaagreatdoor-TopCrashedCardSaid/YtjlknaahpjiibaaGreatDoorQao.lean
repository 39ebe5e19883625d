/- Part of the proof of topCrashedLaw_holds. -/
import Derived.Lib.Bytealg
import Derived.Lib.SplitLaws
import Derived.Lib.IndexBytes
import Derived.Lib.Strings
import Derived.Test.YtjlknaahpjiibaaGreatDoorQab
import Derived.Test.YtjlknaahpjiibaaGreatDoorQaf
import Derived.Test.YtjlknaahpjiibaaGreatDoorQah
import Derived.Test.YtjlknaahpjiibaaGreatDoorQak
import Derived.Test.YtjlknaahpjiibaaGreatDoorQan
namespace Go.Proofs.YtjlknaahpjiibaaGreatDoor
open Go.RowKit Go.ChangeMaps Go.MapKept Go.Shelf
set_option linter.unusedVariables false
theorem ltN_irrefl (a : ByteArray) : ¬ ltN a a := by
 unfold ltN
 have := (cb_eq (bl a) (bl a)).2 rfl
 omega
theorem ltN_trans {a b c : ByteArray} (h : ltN a b) (k : ltN b c) : ltN a c := cb_trans _ _ _ h k
theorem IsIdx.unique {D : List Dc} {I J : List Ie} (h : IsIdx D I) (k : IsIdx D J) : I = J :=
 (h.perm.trans k.perm.symm).eq_of_pairwise (le := fun a b => ltN a.1 b.1) (fun a b _ _ h1 h2 => absurd (ltN_trans h1 h2) (ltN_irrefl _)) h.lt k.lt
theorem IsIdx.mem {D : List Dc} {I : List Ie} (h : IsIdx D I) (x : Ie) : x ∈ I ↔ ∃ d ∈ D, entO d = x := by
 rw [h.perm.mem_iff, List.mem_map]
theorem IsIdx.len {D : List Dc} {I : List Ie} (h : IsIdx D I) : I.length = D.length := by
 rw [h.perm.length_eq, List.length_map]
theorem IsIdx.ok {D : List Dc} {I : List Ie} (h : IsIdx D I) (hD : DcOk D) : IxOk I := by
 refine ⟨by rw [h.len]; exact hD.len, h.lt, fun x hx => ?_⟩
 obtain ⟨d, hd, rfl⟩ := (h.mem x).1 hx
 obtain ⟨h1, h2, h3⟩ := hD.ok d hd
 exact ⟨h1, h2, words_ok _ h3⟩
theorem dcCells_set3 (es : List Dc) (k : Nat) (hk : k < es.length) (e : Dc) : (((dcCells es).set (k * 3) (.string e.1)).set (k * 3 + 1) (.int .i64 e.2.1)).set (k * 3 + 2) (.string e.2.2) = dcCells (es.set k e) := by
 refine List.ext_getElem? fun i => ?_
 by_cases hi : i < es.length * 3
 · have hj : i / 3 < (es.set k e).length := by rw [List.length_set]; omega
   have hj' : i / 3 < es.length := by omega
   have h2 := dcCells_get (es.set k e) (i / 3) hj (i % 3) (Nat.mod_lt _ (by decide))
   have h1 := dcCells_get es (i / 3) hj' (i % 3) (Nat.mod_lt _ (by decide))
   rw [show i / 3 * 3 + i % 3 = i by omega] at h1 h2
   rw [h2, List.getElem?_set, List.getElem?_set, List.getElem?_set]
   simp only [List.length_set, dcCells_len]
   by_cases hjk : i / 3 = k
   · have hs : (es.set k e)[i / 3] = e := by
      have : (es.set k e)[k]'(by rw [List.length_set]; exact hk) = e := List.getElem_set_self _
      simp only [hjk]
      exact this
     rw [hs]
     rcases (by omega : i % 3 = 0 ∨ i % 3 = 1 ∨ i % 3 = 2) with r | r | r
     · rw [if_neg (by omega), if_neg (by omega), if_pos (by omega), if_pos (by omega), r]; rfl
     · rw [if_neg (by omega), if_pos (by omega), if_pos (by omega), r]; rfl
     · rw [if_pos (by omega), if_pos (by omega), r]; rfl
   · rw [if_neg (by omega), if_neg (by omega), if_neg (by omega), List.getElem_set_ne (by omega), h1]
 · rw [List.getElem?_eq_none (by simp [dcCells_len]; omega), List.getElem?_eq_none (by rw [dcCells_len, List.length_set]; omega)]
end Go.Proofs.YtjlknaahpjiibaaGreatDoor
namespace Go.Proofs.YtjlknaahpjiibaaGreatDoor
open Go.RowKit Go.ChangeMaps Go.MapKept Go.Shelf
set_option linter.unusedVariables false
set_option linter.unusedSimpArgs false
def hexD (n : Nat) : UInt8 := if n < 10 then UInt8.ofNat (48 + n) else UInt8.ofNat (87 + n)
theorem hexD_nat (n : Nat) (h : n < 16) : (hexD n).toNat = if n < 10 then 48 + n else 87 + n := by
 unfold hexD
 split <;> simp <;> omega
theorem hexD_inj {a b : Nat} (ha : a < 16) (hb : b < 16) (h : hexD a = hexD b) : a = b := by
 have := congrArg UInt8.toNat h
 rw [hexD_nat a ha, hexD_nat b hb] at this
 split at this <;> split at this <;> omega
def hexI (n i : Nat) : Nat := n / 16 ^ (7 - i) % 16
theorem hexI_lt (n i : Nat) : hexI n i < 16 := Nat.mod_lt _ (by decide)
def hx8 (n : Nat) : List UInt8 := (List.range 8).map fun i => hexD (hexI n i)
theorem hx8_len (n : Nat) : (hx8 n).length = 8 := by simp [hx8]
theorem hx8_inj {a b : Nat} (ha : a < 4294967296) (hb : b < 4294967296) (h : hx8 a = hx8 b) : a = b := by
 have k : ∀ i, i < 8 → hexI a i = hexI b i := by
  intro i hi
  have h1 : (hx8 a)[i]? = (hx8 b)[i]? := by rw [h]
  simp only [hx8, List.getElem?_map, List.getElem?_range hi, Option.map_some, Option.some.injEq] at h1
  exact hexD_inj (hexI_lt _ _) (hexI_lt _ _) h1
 have k0 := k 0 (by omega)
 have k1 := k 1 (by omega)
 have k2 := k 2 (by omega)
 have k3 := k 3 (by omega)
 have k4 := k 4 (by omega)
 have k5 := k 5 (by omega)
 have k6 := k 6 (by omega)
 have k7 := k 7 (by omega)
 unfold hexI at k0 k1 k2 k3 k4 k5 k6 k7
 simp only [Nat.reduceSub, Nat.reducePow, Nat.sub_zero, Nat.sub_self, Nat.pow_zero, Nat.div_one] at k0 k1 k2 k3 k4 k5 k6 k7
 omega
def hexCells (n k : Nat) : Array Value := ((List.range 8).map fun j => if j < k then Value.int .u8 ((hexD (hexI n j)).toNat : Int) else .int .u8 0).toArray
theorem hexCells_get (n k j : Nat) (hj : j < 8) : (hexCells n k)[j]? = some (if j < k then Value.int .u8 ((hexD (hexI n j)).toNat : Int) else .int .u8 0) := by
 simp [hexCells, hj]
theorem hexCells_set (n k : Nat) (hk : k < 8) : (hexCells n k).setIfInBounds k (.int .u8 ((hexD (hexI n k)).toNat : Int)) = hexCells n (k + 1) := by
 apply Array.ext_getElem?
 intro j
 rw [Array.getElem?_setIfInBounds]
 by_cases hj : j < 8
 · rw [hexCells_get n (k + 1) j hj, hexCells_get n k j hj]
   by_cases e : k = j
   · subst e; simp [hexCells, hk]
   · rw [if_neg e]
     by_cases h : j < k
     · rw [if_pos h, if_pos (by omega)]
     · rw [if_neg h, if_neg (by omega)]
 · rw [if_neg (by omega)]
   simp [hexCells, hj]
theorem hex_and (n k : Nat) (hn : n < 4294967296) (hk : k < 8) : bits .and .u32 ((n : Int) / 2 ^ (28 - 4 * k)) 15 = ((hexI n k : Nat) : Int) := by
 have e : ((n : Int) / 2 ^ (28 - 4 * k)) = ((n / 2 ^ (28 - 4 * k) : Nat) : Int) := by
  rw [Int.natCast_ediv, Int.natCast_pow]; rfl
 have h1 : n / 2 ^ (28 - 4 * k) < 4294967296 := Nat.lt_of_le_of_lt (Nat.div_le_self _ _) hn
 rw [e, show (15 : Int) = ((15 : Nat) : Int) from rfl, u32_and_nat _ _ h1 (by decide)]
 have h2 := Nat.and_two_pow_sub_one_eq_mod (n / 2 ^ (28 - 4 * k)) 4
 rw [show 2 ^ 4 - 1 = 15 from rfl, show 2 ^ 4 = 16 from rfl] at h2
 rw [h2]
 unfold hexI
 have h3 : 16 ^ (7 - k) = 2 ^ (28 - 4 * k) := by
  rw [show 16 = 2 ^ 4 from rfl, ← Nat.pow_mul]
  congr 1
  omega
 rw [h3]
def hexDs : ByteArray := ⟨#[48, 49, 50, 51, 52, 53, 54, 55, 56, 57, 97, 98, 99, 100, 101, 102]⟩
theorem hexDs_at (m : Nat) (h : m < 16) : hexDs[m]'h = hexD m := by
 have : ∀ m : Fin 16, hexDs[m.val]'m.isLt = hexD m.val := by decide
 exact this ⟨m, h⟩
set_option maxRecDepth 100000 in
theorem hex_any (n : Nat) (w : World) (hn : n < 4294967296) : Calls Tryz.prog 60 #[.int .u32 (n : Nat)] w fun e w' => e = .returned (.string (lb (hx8 n))) ∧ Chg [] w w' := by
 have Hn := Lib.hid hn
 go_enter Tryz.func60, Tryz.ntmps60
 go_wp2_with fail
 go_loopw [5] (fun i wr => ∃ k : Nat, k ≤ 8 ∧ i = .int .i64 (k : Nat) ∧ Hid (wr.heap[w.heap.size]? = some (.cells (hexCells n k) 169 (0, 0)) ∧ Chg [] w wr)) (fun i _ => 8 - (intOf i).toNat)
 case atStart => exact ⟨0, by omega, rfl, Lib.hid ⟨heap_at _ _ _ rfl, (Chg.refl [] _).alloc _⟩⟩
 case round =>
  obtain ⟨k, hk, rfl, HR⟩ := hrel
  by_cases hlt : k < 8
  · have hk1 : (k : Int) < 8 := by omega
    have hk0 : (0 : Int) ≤ (k : Int) := by omega
    have c0 : wr.cell? ⟨w.heap.size, k, none⟩ = some (.int .u8 0) := cell_of_heap HR.out.1 (by rw [hexCells_get n k k hlt, if_neg (by omega)])
    have f0 : wr.frozen? ⟨w.heap.size, k, none⟩ = false := frozen_of_heap HR.out.1
    have l0 := lt_of_cell c0
    have hz := hex_and n k Hn.out hlt
    have hz0 : (0 : Int) ≤ ((hexI n k : Nat) : Int) := by omega
    have hz1 : ((hexI n k : Nat) : Int) < 16 := by have := hexI_lt n k; omega
    have hI := hexI_lt n k
    go_wp2_with fail
    refine ⟨⟨k + 1, by omega, by go_num, Lib.hid ⟨?_, HR.out.2.setCell (Or.inr (Nat.le_refl _)) _⟩⟩, by simp [intOf]; omega⟩
    rw [heap_setCell_same HR.out.1, ← hexCells_set n k hlt, ← hexDs_at _ hI]
    rfl
  · have hk1 : ¬ ((k : Int) < 8) := by omega
    obtain rfl : k = 8 := by omega
    have hcv : (convert 137 9 (.slice (some ⟨w.heap.size, 0, none⟩) 8 8)).run Tryz.prog wr = .ok (.string (lb (hx8 n))) wr := by
     have hl : (hx8 n).length = 8 := hx8_len n
     have := run_convert_bytes_back wr 137 9 5 ⟨w.heap.size, 0, none⟩ 8 (hx8 n) Tryz.underlying137 Tryz.underlying5 Tryz.underlying9 (fun j hj => by
      rw [Addr.add_lit, Nat.zero_add]
      have hj8 : j < 8 := by omega
      exact cell_of_heap HR.out.1 (by rw [hexCells_get n 8 j hj8, if_pos hj8]; simp [hx8]))
     rw [hl] at this
     exact this
    go_wp2_with fail
    go_ret
    exact ⟨rfl, HR.out.2⟩
end Go.Proofs.YtjlknaahpjiibaaGreatDoor
namespace Go.Proofs.YtjlknaahpjiibaaGreatDoor
set_option linter.unusedVariables false
set_option linter.unusedSimpArgs false
def tailW (l : List ByteArray) : List UInt8 := l.flatMap fun x => 32 :: bl x
theorem tailW_snoc (l : List ByteArray) (x : ByteArray) : tailW (l ++ [x]) = tailW l ++ 32 :: bl x := by simp [tailW]
theorem tailW_len (l : List ByteArray) : (tailW l).length = wsum l := by
 induction l with
 | nil => rfl
 | cons x r ih =>
   have : (bl x).length = x.size := rfl
   unfold tailW at ih ⊢
   unfold wsum at ih ⊢
   rw [List.flatMap_cons, List.length_append, ih, List.map_cons, List.sum_cons, List.length_cons, this]
def encL (n : Nat) (l : List ByteArray) : List UInt8 := hx8 n ++ tailW l
def encV (e : Ie) : ByteArray := lb (encL e.2.1.toNat e.2.2)
theorem idx_byte (t : List UInt8) : ∀ x : List UInt8, (32 : UInt8) ∉ x → Lib.indexByte (x ++ 32 :: t) 32 = x.length
 | [], _ => by simp [Lib.indexByte]
 | b :: l, h => by
   have hb : ¬ b = 32 := fun e => h (by rw [e]; simp)
   have ih := idx_byte t l (fun hm => h (List.mem_cons_of_mem _ hm))
   rw [List.cons_append, Lib.indexByte, if_neg (by simpa using hb), ih, if_neg (by simp), List.length_cons]
   omega
theorem idx_none : ∀ x : List UInt8, (32 : UInt8) ∉ x → Lib.indexByte x 32 = -1
 | [], _ => rfl
 | b :: l, h => by
   have hb : ¬ b = 32 := fun e => h (by rw [e]; simp)
   rw [Lib.indexByte, if_neg (by simpa using hb), idx_none l (fun hm => h (List.mem_cons_of_mem _ hm))]
   rfl
theorem split_words : ∀ (r : List (List UInt8)) (x : List UInt8), (∀ y ∈ x :: r, (32 : UInt8) ∉ y) →
 Lib.splitK [32] 0 (Lib.count (x ++ r.flatMap (fun y => 32 :: y)) [32]) (x ++ r.flatMap (fun y => 32 :: y)) = x :: r
 | [], x, h => by
   have e : Lib.index x [32] = -1 := by rw [Lib.index_one]; exact idx_none x (h x (by simp))
   rw [List.flatMap_nil, List.append_nil, Lib.count_miss e]
   rfl
 | y :: r, x, h => by
   have e : Lib.index (x ++ 32 :: (y ++ r.flatMap (fun y => 32 :: y))) [32] = ((x.length : Nat) : Int) := by rw [Lib.index_one]; exact idx_byte _ x (h x (by simp))
   have ih := split_words r y (fun z hz => h z (by simp only [List.mem_cons] at hz ⊢; exact Or.inr hz))
   rw [List.flatMap_cons, List.cons_append, Lib.count_hit (by simp) e]
   have d : (x ++ 32 :: (y ++ r.flatMap (fun y => 32 :: y))).drop (x.length + ([32] : List UInt8).length) = y ++ r.flatMap (fun y => 32 :: y) := by
    rw [List.length_singleton, ← List.drop_drop, List.drop_left]
    rfl
   rw [d, Nat.add_comm 1, Lib.splitK, if_neg (by rw [e]; simp; try omega), e]
   have t : ((x.length : Nat) : Int).toNat = x.length := by omega
   rw [t, d, ih, Nat.add_zero, List.take_left]
theorem split_back (x : ByteArray) (r : List ByteArray) (hw : WsOk (x :: r)) (s : ByteArray) (hs : bl s = bl x ++ tailW r) :
 Lib.splitB ⟨#[32]⟩ 0 (Lib.countB s ⟨#[32]⟩) s = x :: r := by
 have hn : ∀ y ∈ bl x :: r.map bl, (32 : UInt8) ∉ y := by
  intro y hy hm
  rw [← List.map_cons, List.mem_map] at hy
  obtain ⟨z, hz, rfl⟩ := hy
  have := hw.isw z hz 32 hm
  rw [isW_space] at this
  cases this
 have h := split_words (r.map bl) (bl x) hn
 have e : bl x ++ (r.map bl).flatMap (fun y => 32 :: y) = s.data.toList := by
  show _ = bl s
  rw [hs]
  unfold tailW
  rw [List.flatMap_map]
 rw [e] at h
 have h2 := Lib.splitB_data ⟨#[32]⟩ 0 (Lib.countB s ⟨#[32]⟩) s
 rw [show (⟨#[32]⟩ : ByteArray).data.toList = [32] from rfl, show Lib.countB s ⟨#[32]⟩ = Lib.count s.data.toList [32] from rfl, h] at h2
 have h3 := congrArg (List.map lb) h2
 rw [List.map_map, List.map_cons, List.map_map] at h3
 rw [show (lb ∘ fun x : ByteArray => x.data.toList) = id from funext lb_bl, List.map_id, lb_bl, show lb ∘ bl = id from funext lb_bl, List.map_id] at h3
 exact h3
end Go.Proofs.YtjlknaahpjiibaaGreatDoor
namespace Go.Proofs.YtjlknaahpjiibaaGreatDoor
open Go.RowKit Go.ChangeMaps Go.MapKept Go.Shelf
set_option linter.unusedVariables false
set_option linter.unusedSimpArgs false
theorem lb_size (l : List UInt8) : (lb l).size = l.length := by simp [lb, ByteArray.size]
theorem encL_snoc (n : Nat) (l : List ByteArray) (x : ByteArray) : lb (encL n l) ++ (⟨#[32]⟩ ++ x) = lb (encL n (l ++ [x])) := by
 refine bl_inj ?_
 rw [bl_append, bl_append, bl_lb, bl_lb, show bl ⟨#[32]⟩ = [32] from rfl]
 unfold encL
 rw [tailW_snoc]
 simp
set_option maxRecDepth 100000 in
theorem encode_any (p : Nat → Prop) (w : World) (nm : ByteArray) (s : Nat) (u : Value) (l : List ByteArray) (hs : s < 4294967296) (hl : StrsP p w u l) (hw : WsOk l) :
 Calls Tryz.prog 29 #[.agg #[.string nm, .int .u32 (s : Nat), u]] w fun e w' => e = .returned (.string (lb (encL s l))) ∧ Chg [] w w' := by
 obtain ⟨a, cap, rfl, hml, hcp⟩ := hl.shape
 have hsum := hw.sum
 have H := Lib.hid (hl.same ((Chg.refl [] w).alloc (.cells #[.string nm, .int .u32 (s : Nat), .slice a l.length cap] 70)))
 have Hx := Lib.hid (fun W => hex_any s W hs)
 unfold maxLen at hml
 clear hl
 obtain ⟨w1, hw1⟩ : ∃ q, q = w.alloc (.cells #[.string nm, .int .u32 (s : Nat), .slice a l.length cap] 70) := ⟨_, rfl⟩
 obtain ⟨n1, hn1⟩ : ∃ q, q = w.heap.size := ⟨_, rfl⟩
 have hb1 : w1.heap[n1]? = some (.cells #[.string nm, .int .u32 (s : Nat), .slice a l.length cap] 70 (0, 0)) := by rw [hw1, hn1]; exact heap_at _ _ _ rfl
 have hc1 : Chg [] w w1 := by rw [hw1]; exact (Chg.refl [] _).alloc _
 have y1 : w1.cell? ⟨n1, 1, none⟩ = some (.int .u32 (s : Nat)) := cell_of_heap hb1 rfl
 have l1 := lt_of_cell y1
 rw [← hw1] at H
 have HW := Lib.hid (And.intro hw1 hn1)
 have HB := Lib.hid (And.intro hb1 hc1)
 clear hw1 hn1 hb1 hc1
 go_enter Tryz.func29, Tryz.ntmps29
 go_upto_region 1 with (fail)
 rw [← HW.out.1, ← HW.out.2]
 go_wp2_with fail
 refine (Hx.out _).mono ?_
 rintro e w2 ⟨rfl, hc2⟩
 have y2 : w2.cell? ⟨n1, 2, none⟩ = some (.slice a l.length cap) := cell_of_heap ((hc2.block _ (lt_of_obj HB.out.1) (by simp)).trans HB.out.1) rfl
 have l2 := lt_of_cell y2
 have H2 := Lib.hid (And.intro (H.out.same hc2) (HB.out.2.trans hc2))
 clear hc2
 obtain ⟨t0, ht0⟩ : ∃ t, t = lb (hx8 s) := ⟨_, rfl⟩
 rw [← ht0]
 have Ht0 := Lib.hid ht0
 clear ht0
 go_wp2_with fail
 go_loopw [3, 12] (fun v i wr => ∃ (k : Nat) (t : ByteArray), k ≤ l.length ∧ i = .int .i64 (k : Nat) ∧ v = .string t ∧ Hid (t = lb (encL s (l.take k))) ∧ Hid (Chg [] w2 wr)) (fun _ i _ => l.length - (intOf i).toNat)
 case atStart => exact ⟨0, t0, by omega, rfl, rfl, Lib.hid (by rw [Ht0.out]; simp [encL, tailW]), Lib.hid (Chg.refl _ _)⟩
 case round =>
  obtain ⟨k, t, hk, rfl, rfl, Ht, HC⟩ := hrel
  by_cases hlt : k < l.length
  · obtain ⟨g, off, rfl, _, c0⟩ := (H2.out.1.same HC.out).cell k hlt
    obtain ⟨x, hx⟩ : ∃ x, l.getD k ⟨#[]⟩ = x := ⟨_, rfl⟩
    rw [hx] at c0
    have hx' : l[k] = x := by rw [← hx, List.getD_eq_getElem?_getD, List.getElem?_eq_getElem hlt]; rfl
    have lc := lt_of_cell c0
    have hk1 : (k : Int) < l.length := by omega
    have hk0 : (0 : Int) ≤ (k : Int) := by omega
    have htk : l.take (k + 1) = l.take k ++ [x] := by rw [List.take_succ_eq_append_getElem hlt, hx']
    have hsz : t.size + (x.size + 1) ≤ 3000 := by
     have h1 := wsum_take_le l (k + 1)
     have h2 := wsum_take l k hlt
     rw [hx'] at h2
     have h3 : t.size = 8 + wsum (l.take k) := by rw [Ht.out, lb_size]; unfold encL; rw [List.length_append, hx8_len, tailW_len]
     omega
    have hx1 : (⟨#[32]⟩ ++ x : ByteArray).size = 1 + x.size := by rw [ByteArray.size_append]; rfl
    have Htk := Lib.hid htk
    have ht9 : ¬ (9223372036854775807 : Int) < ((⟨#[32]⟩ : ByteArray).size + x.size : Nat) := by have : (⟨#[32]⟩ : ByteArray).size = 1 := rfl; omega
    have ht8 : ¬ (9223372036854775807 : Int) < ((t.size + (⟨#[32]⟩ ++ x : ByteArray).size : Nat) : Int) := by omega
    clear hx hx' htk
    go_wp2_with fail
    refine ⟨⟨k + 1, t ++ (⟨#[32]⟩ ++ x), by omega, by go_num, rfl, Lib.hid ?_, HC⟩, by simp [intOf]; omega⟩
    rw [Ht.out, encL_snoc, Htk.out]
  · have hk1 : ¬ ((k : Int) < l.length) := by omega
    have hkl : k = l.length := by omega
    have Hkl := Lib.hid hkl
    clear hkl
    go_wp2_with fail
    go_ret
    exact ⟨by rw [Ht.out, Hkl.out, List.take_length]; rfl, H2.out.2.trans HC.out⟩
def recI (x : Ie) : J.Rec := ⟨x.1, encV x, false⟩
theorem recI_ok {x : Ie} (h1 : 0 < x.1.size) (h2 : x.1.size ≤ 60) (hw : WsOk x.2.2) : (recI x).ok := by
 unfold J.Rec.ok J.Rec.err recI
 have e1 : ¬ x.1.data.toList = [] := fun e => by
  have : x.1.data.toList.length = x.1.size := rfl
  rw [e] at this
  simp at this
  omega
 have e2 : (encV x).size ≤ 3000 := by
  unfold encV encL
  rw [lb_size, List.length_append, hx8_len, tailW_len]
  have := hw.sum
  omega
 rw [if_neg (by rintro (h | ⟨h, _⟩); exact e1 h; cases h), if_neg (by show ¬ (60 < x.1.size ∨ 3000 < (encV x).size); omega)]
set_option maxRecDepth 100000 in
set_option maxHeartbeats 4000000 in
theorem save_any (p q : Nat → Prop) (w : World) (v : Value) (I : List Ie) (h : IxP p q w v I) (hok : IxOk I) (hs : ∀ x ∈ I, ∃ n : Nat, x.2.1 = (n : Int) ∧ n < 4294967296) (hlen : (J.logOf (I.map recI)).length ≤ 40000) :
 Calls Tryz.prog 7 #[v] w fun e w' => e = .returned (.tuple #[.string (J.bs (J.logOf (I.map recI))), .int .i64 0]) ∧ Chg [] w w' := by
 obtain ⟨a, cap, rfl, hml, hcp⟩ := h.shape
 have H := Lib.hid h
 have Hok := Lib.hid hok
 have HS := Lib.hid hs
 have HL := Lib.hid hlen
 have HR : Hid (∀ r ∈ I.map recI, r.ok) := Lib.hid (by
  intro r hr
  obtain ⟨x, hx, rfl⟩ := List.mem_map.1 hr
  have := hok.ok x hx
  exact recI_ok this.1 this.2.1 this.2.2)
 have hl4 : (I.length : Int) ≤ 20 := by have := hok.len; omega
 unfold maxLen at hml
 clear h hok hs hlen
 go_enter Tryz.func7, Tryz.ntmps7
 go_wp2_with fail
 refine (valid_any p q _ _ I H.out Hok.out).mono ?_
 rintro e w1 ⟨rfl, hc1⟩
 have H1 := Lib.hid hc1
 clear hc1
 go_wp2_with fail
 go_loopw [4, 13] (fun v i wr => ∃ (k : Nat) (t : ByteArray), k ≤ I.length ∧ i = .int .i64 (k : Nat) ∧ v = .string t ∧ Hid (t = J.bs (J.logOf ((I.map recI).take k))) ∧ Hid (Chg [] w wr)) (fun _ i _ => I.length - (intOf i).toNat)
 case atStart => exact ⟨0, _, by omega, rfl, rfl, Lib.hid rfl, H1⟩
 case round =>
  obtain ⟨k, t, hk, rfl, rfl, Ht, HC⟩ := hrel
  by_cases hlt : k < I.length
  · obtain ⟨g, off, rfl, _, q0, q1, ua, uc, q2, q3⟩ := (H.out.same HC.out).cells k hlt
    have hge := getD_eqI hlt
    have hmem : I[k] ∈ I := List.getElem_mem hlt
    obtain ⟨x, hx⟩ : ∃ x, I.getD k ie0 = x := ⟨_, rfl⟩
    have hx' : I[k] = x := by rw [← hge, hx]
    rw [hx'] at hmem
    obtain ⟨n, hn, hn4⟩ := HS.out x hmem
    have hxo := Hok.out.ok x hmem
    rw [hx] at q0 q1 q2 q3
    obtain ⟨x1, x2, x3⟩ := x
    simp only at q0 q1 q2 q3 hn hxo
    subst hn
    have lg := lt_of_cell q0
    have hk1 : (k : Int) < I.length := by omega
    have hk0 : (0 : Int) ≤ (k : Int) := by omega
    obtain ⟨w2, hw2⟩ : ∃ q, q = wr.alloc (.cells #[.string x1, .int .u32 (n : Nat), .slice ua x3.length uc] 70) := ⟨_, rfl⟩
    obtain ⟨n2, hn2⟩ : ∃ q, q = wr.heap.size := ⟨_, rfl⟩
    have hc2 : Chg [] wr w2 := by rw [hw2]; exact (Chg.refl [] _).alloc _
    have hb2 : w2.heap[n2]? = some (.cells #[.string x1, .int .u32 (n : Nat), .slice ua x3.length uc] 70 (0, 0)) := by rw [hw2, hn2]; exact heap_at _ _ _ rfl
    have d0 : w2.cell? ⟨n2, 0, none⟩ = some (.string x1) := cell_of_heap hb2 rfl
    have d1 : w2.cell? ⟨n2, 1, none⟩ = some (.int .u32 (n : Nat)) := cell_of_heap hb2 rfl
    have d2 : w2.cell? ⟨n2, 2, none⟩ = some (.slice ua x3.length uc) := cell_of_heap hb2 rfl
    have ld := lt_of_cell d0
    have HW2 := Lib.hid (And.intro hw2 hn2)
    have Hc2 := Lib.hid (HC.out.trans hc2)
    have HE := Lib.hid (fun W (hW : Chg [] w2 W) => encode_any q W x1 n _ x3 hn4 ((q3.same hc2).same hW) hxo.2.2)
    obtain ⟨t', ht'⟩ : ∃ t', t' = J.bs (J.logOf ((I.map recI).take (k + 1))) := ⟨_, rfl⟩
    have HA : Hid (∀ W, Calls Tryz.prog 28 #[.string t, .agg #[.string x1, .string (lb (encL n x3)), .bool false]] W fun e w' => e = .returned (.tuple #[.string t', .int .i64 0]) ∧ Chg [] W w') := Lib.hid (fun W => by
     have hkl : k < (I.map recI).length := by simpa using hlt
     have hts : t.size ≤ 100000 := by
      rw [Ht.out, J.bs_size]
      have := congrArg List.length (J.logOf_take (I.map recI) k)
      rw [List.length_append] at this
      have := HL.out
      omega
     have h1 := J.append_any t (recI (x1, (n : Int), x3)) W hts
     have h2 := J.append_next HR.out hkl HL.out
     have h3 : (I.map recI).getD k J.Rec.zero = recI (x1, (n : Int), x3) := by
      rw [List.getD_eq_getElem?_getD, List.getElem?_eq_getElem hkl, Option.getD_some, List.getElem_map, hx']
     rw [h3] at h2
     rw [show t.data.toList = J.logOf ((I.map recI).take k) by rw [Ht.out]; rfl, h2, ← ht'] at h1
     exact h1)
    have Ht' := Lib.hid ht'
    clear hx hx' hge hmem hxo hn4 hc2 hb2 q3 hw2 hn2 ht'
    go_upto_region 8 with (fail)
    rw [← HW2.out.1, ← HW2.out.2]
    clear q0 q1 q2
    go_region_held3 (fun W => W.cell? ⟨n2, 0, none⟩ = some (.string x1) ∧ W.cell? ⟨n2, 1, none⟩ = some (.int .u32 (n : Nat)) ∧ W.cell? ⟨n2, 2, none⟩ = some (.slice ua x3.length uc))
     (first | (go_keep; done) | (exact ⟨r0, r1, r2⟩) | (exact ⟨s0, s1, s2⟩))
     (first
      | (go_at_call 29; (with_reducible refine (HE.out _ (Chg.refl [] _).drew).mono ?_); rintro e wA ⟨rfl, hcA⟩; have hcA' := (Chg.refl [] w2).drew.trans hcA; have r0 := (hcA'.cell ld (by simp)).trans d0; have r1 := (hcA'.cell (p := ⟨n2, 1, none⟩) ld (by simp)).trans d1; have r2 := (hcA'.cell (p := ⟨n2, 2, none⟩) ld (by simp)).trans d2; have lA := lt_of_cell r0; have HcA := Lib.hid hcA'; clear hcA hcA')
      | (go_at_call 28; (with_reducible refine (HA.out _).mono ?_); rintro e wB ⟨rfl, hcB⟩; have s0 := (hcB.cell lA (by simp)).trans r0; have s1 := (hcB.cell (p := ⟨n2, 1, none⟩) lA (by simp)).trans r1; have s2 := (hcB.cell (p := ⟨n2, 2, none⟩) lA (by simp)).trans r2; have HcB := Lib.hid (HcA.out.trans hcB); clear hcB))
    all_goals
     go_wp2_with fail
     exact ⟨⟨k + 1, t', by omega, by go_num, rfl, Ht', Lib.hid (Hc2.out.trans HcB.out)⟩, by simp [intOf]; omega⟩
  · have hk1 : ¬ ((k : Int) < I.length) := by omega
    have hkl : k = I.length := by omega
    have Hkl := Lib.hid hkl
    clear hkl
    go_wp2_with fail
    go_ret2
    refine ⟨?_, HC.out⟩
    rw [Ht.out, Hkl.out, List.take_of_length_le (by simp)]
    rfl
end Go.Proofs.YtjlknaahpjiibaaGreatDoor
namespace Go.Proofs.YtjlknaahpjiibaaGreatDoor
open Go.RowKit Go.ChangeMaps Go.MapKept Go.Shelf
set_option linter.unusedVariables false
set_option linter.unusedSimpArgs false
def ML (w : World) : Prop := ∃ m : Int, w.cell? ⟨0, 0, none⟩ = some (.int .i64 m)
theorem ML.new {w w' : World} (h : ML w) (hc : Chg [] w w') : ML w' := by
 obtain ⟨m, hm⟩ := h
 exact ⟨m, (hc.cell (lt_of_cell hm) (by simp)).trans hm⟩
theorem pre_self (a b : List UInt8) : Lib.hasPrefix (a ++ b) a = true := by
 unfold Lib.hasPrefix
 rw [List.isPrefixOf_iff_prefix]
 exact List.prefix_append a b
theorem cut_hit (s : Nat) (l : List ByteArray) (W : World) : Calls Tryz.prog 68 #[.string (lb (encL s l)), .string (lb (hx8 s))] W fun e w' => e = .returned (.tuple #[.string (lb (tailW l)), .bool true]) ∧ w' = W := by
 have h := Tryz.strings_CutPrefix (lb (encL s l)) (lb (hx8 s)) W
 have e1 : (lb (encL s l)).data.toList = hx8 s ++ tailW l := bl_lb _
 have e2 : (lb (hx8 s)).data.toList = hx8 s := bl_lb _
 rw [e1, e2, pre_self] at h
 unfold Lib.trimPrefix at h
 rw [pre_self, if_pos rfl, List.drop_left] at h
 exact h
theorem cut_miss (s s' : Nat) (l : List ByteArray) (W : World) (hs : s < 4294967296) (hs' : s' < 4294967296) (hne : s ≠ s') : Calls Tryz.prog 68 #[.string (lb (encL s' l)), .string (lb (hx8 s))] W fun e w' => e = .returned (.tuple #[.string (lb (encL s' l)), .bool false]) ∧ w' = W := by
 have h := Tryz.strings_CutPrefix (lb (encL s' l)) (lb (hx8 s)) W
 have e1 : (lb (encL s' l)).data.toList = hx8 s' ++ tailW l := bl_lb _
 have e2 : (lb (hx8 s)).data.toList = hx8 s := bl_lb _
 have e3 : Lib.hasPrefix (hx8 s' ++ tailW l) (hx8 s) = false := by
  rw [Bool.eq_false_iff]
  intro hp
  unfold Lib.hasPrefix at hp
  rw [List.isPrefixOf_iff_prefix] at hp
  obtain ⟨t, ht⟩ := hp
  have := congrArg (List.take 8) ht
  rw [List.take_left' (hx8_len s), List.take_left' (hx8_len s')] at this
  exact hne (hx8_inj hs hs' this)
 rw [e1, e2, e3] at h
 unfold Lib.trimPrefix at h
 rw [e3, if_neg (by decide)] at h
 exact h
theorem split_any' (l : List ByteArray) (hw : WsOk l) (h0 : l ≠ []) (W : World) (hM : ML W) : Calls Tryz.prog 69 #[.string ((lb (tailW l)).extract 1 (lb (tailW l)).size), .string ⟨#[32]⟩] W fun e w' => e = .returned (.slice (some ⟨W.heap.size, 0, none⟩) l.length l.length) ∧ w' = W.alloc (.cells (l.map Value.string).toArray 9) := by
 obtain ⟨m, hm⟩ := hM
 cases l with
 | nil => exact absurd rfl h0
 | cons x r =>
   obtain ⟨s, hs⟩ : ∃ s, s = (lb (tailW (x :: r))).extract 1 (lb (tailW (x :: r))).size := ⟨_, rfl⟩
   have hb : bl s = bl x ++ tailW r := by
    rw [hs, bl_extract, bl_lb]
    have e : tailW (x :: r) = 32 :: (bl x ++ tailW r) := by simp [tailW]
    rw [e, List.drop_one, List.tail_cons]
    refine List.take_of_length_le ?_
    rw [lb_size]
    simp
   have hz : s.size ≤ 3000 := by
    have h1 : (bl s).length = s.size := rfl
    have h2 := hw.sum
    rw [← h1, hb, List.length_append, tailW_len]
    have h3 : (bl x).length = x.size := rfl
    have h4 : wsum (x :: r) = x.size + 1 + wsum r := by simp [wsum]
    omega
   have h := Tryz.strings_Split s ⟨#[32]⟩ m W (by omega) hm (by decide)
   have e1 := split_back x r hw s hb
   have e2 := Lib.splitB_all ⟨#[32]⟩ (by decide) 0 _ s rfl
   rw [e1] at e2
   rw [e1, ← e2] at h
   rw [← hs]
   exact h
theorem tail_head (x : ByteArray) (r : List ByteArray) (h : 0 < (lb (tailW (x :: r))).size) : ((lb (tailW (x :: r)))[0]'h).toNat = 32 := by
 have e : tailW (x :: r) = 32 :: (bl x ++ tailW r) := by simp [tailW]
 have : (bl (lb (tailW (x :: r))))[0]? = some 32 := by rw [bl_lb, e]; rfl
 have h2 : (bl (lb (tailW (x :: r))))[0]? = some ((lb (tailW (x :: r)))[0]'h) := List.getElem?_eq_getElem (l := bl (lb (tailW (x :: r)))) h
 rw [h2] at this
 rw [Option.some.inj this]
 rfl
def DecPost (nm tx tx0 : ByteArray) (w : World) (e : Ending) (w' : World) : Prop := ∃ a c, e = .returned (.tuple #[.agg #[.string nm, .int .u32 (ck tx.data.toList : Nat), .slice a (words tx0).length c], .bool true]) ∧ StrsP (fun g => w.heap.size ≤ g ∧ g < w'.heap.size) w' (.slice a (words tx0).length c) (words tx0) ∧ Chg [] w w'
set_option maxRecDepth 100000 in
set_option maxHeartbeats 4000000 in
theorem decode_miss (nm : ByteArray) (ver : Int) (tx : ByteArray) (s' : Nat) (l : List ByteArray) (w : World) (ht : tx.size ≤ 2000) (hs' : s' < 4294967296) (hne : ck tx.data.toList ≠ s') :
 Calls Tryz.prog 37 #[.agg #[.string nm, .int .i64 ver, .string tx], .string (lb (encL s' l))] w fun e w' => e = .returned (.tuple #[.agg #[.string ⟨#[]⟩, .int .u32 0, .slice none 0 0], .bool false]) ∧ Chg [] w w' := by
 have hsl := ck_lt tx.data.toList
 have Hck := Lib.hid (fun W => checksum_any tx W (by omega))
 obtain ⟨s, hs⟩ : ∃ k, k = ck tx.data.toList := ⟨_, rfl⟩
 rw [← hs] at Hck hsl hne
 have Hcut := Lib.hid (fun W => cut_miss s s' l W hsl hs' hne)
 have Hhex := Lib.hid (fun W => hex_any s W hsl)
 obtain ⟨v, hv⟩ : ∃ v, v = lb (encL s' l) := ⟨_, rfl⟩
 obtain ⟨hx, hhx⟩ : ∃ v, v = lb (hx8 s) := ⟨_, rfl⟩
 rw [← hv, ← hhx] at Hcut
 rw [← hhx] at Hhex
 rw [← hv]
 clear hs hv hhx hs' hne
 obtain ⟨w1, hw1⟩ : ∃ q, q = (w.alloc (.cells #[.string nm, .int .i64 ver, .string tx] 28)).alloc (.cells #[.string ⟨#[]⟩, .int .u32 0, .slice none 0 0] 70) := ⟨_, rfl⟩
 obtain ⟨n1, hn1⟩ : ∃ n, n = w.heap.size := ⟨_, rfl⟩
 obtain ⟨n2, hn2⟩ : ∃ n, n = w.heap.size + 1 := ⟨_, rfl⟩
 have hc1 : Chg [] w w1 := by rw [hw1]; exact ((Chg.refl [] w).alloc _).alloc _
 have hb1 : w1.heap[n1]? = some (.cells #[.string nm, .int .i64 ver, .string tx] 28 (0, 0)) := by rw [hw1, hn1]; exact (heap_past _ _ _ (by simp)).trans (heap_at _ _ _ rfl)
 have hb2 : w1.heap[n2]? = some (.cells #[.string ⟨#[]⟩, .int .u32 0, .slice none 0 0] 70 (0, 0)) := by rw [hw1, hn2]; exact heap_at _ _ _ (by simp)
 have x2 : w1.cell? ⟨n1, 2, none⟩ = some (.string tx) := cell_of_heap hb1 rfl
 have lx := lt_of_cell x2
 have hge : w.heap.size ≤ n2 := by omega
 have HW := Lib.hid (And.intro hw1 (And.intro hn1 hn2))
 have H1 := Lib.hid (And.intro hc1 (And.intro hb1 hb2))
 clear hw1 hn1 hn2 hc1 hb1 hb2
 go_enter Tryz.func37, Tryz.ntmps37
 go_upto_region 1 with (fail)
 rw [← HW.out.1, ← HW.out.2.2, ← HW.out.2.1]
 go_wp2_with fail
 refine (Hck.out _).mono ?_
 rintro e wX ⟨rfl, hX⟩; rw [← hX]; clear hX
 go_wp2_with fail
 refine (Hhex.out _).mono ?_
 rintro e w2 ⟨rfl, hc2⟩
 have hb2 := (hc2.block _ (lt_of_obj H1.out.2.2) (by simp)).trans H1.out.2.2
 have y0 : w2.cell? ⟨n2, 0, none⟩ = some (.string ⟨#[]⟩) := cell_of_heap hb2 rfl
 have y1 : w2.cell? ⟨n2, 1, none⟩ = some (.int .u32 0) := cell_of_heap hb2 rfl
 have y2 : w2.cell? ⟨n2, 2, none⟩ = some (.slice none 0 0) := cell_of_heap hb2 rfl
 have f0 : w2.frozen? ⟨n2, 0, none⟩ = false := frozen_of_heap hb2
 have f1 : w2.frozen? ⟨n2, 1, none⟩ = false := frozen_of_heap hb2
 have f2 : w2.frozen? ⟨n2, 2, none⟩ = false := frozen_of_heap hb2
 have ly := lt_of_cell y0
 have H2 := Lib.hid (And.intro (H1.out.1.trans hc2) hb2)
 clear hc2 hb2
 go_wp2_with fail
 refine (Hcut.out _).mono ?_
 rintro e wX ⟨rfl, hX⟩; rw [hX]; clear hX
 go_wp2_with fail
 obtain ⟨w9, hw9⟩ : ∃ q, q = ((w2.setCell ⟨n2, 0, none⟩ (.string ⟨#[]⟩)).setCell ⟨n2, 1, none⟩ (.int .u32 0)).setCell ⟨n2, 2, none⟩ (.slice none 0 0) := ⟨_, rfl⟩
 have hb9 : w9.heap[n2]? = some (.cells #[.string ⟨#[]⟩, .int .u32 0, .slice none 0 0] 70 (0, 0)) := by
  rw [hw9]
  exact heap_setCell_same (heap_setCell_same (heap_setCell_same H2.out.2 _) _) _
 have hc9 : Chg [n2] w2 w9 := by
  rw [hw9]
  exact (((Chg.refl [n2] w2).setCell (p := ⟨n2, 0, none⟩) (Or.inl (by simp)) _).setCell (p := ⟨n2, 1, none⟩) (Or.inl (by simp)) _).setCell (p := ⟨n2, 2, none⟩) (Or.inl (by simp)) _
 rw [← hw9]
 have r0 : w9.cell? ⟨n2, 0, none⟩ = some (.string ⟨#[]⟩) := cell_of_heap hb9 rfl
 have r1 : w9.cell? ⟨n2, 1, none⟩ = some (.int .u32 0) := cell_of_heap hb9 rfl
 have r2 : w9.cell? ⟨n2, 2, none⟩ = some (.slice none 0 0) := cell_of_heap hb9 rfl
 refine bodyPost_ret (v := .tuple #[.agg #[.string ⟨#[]⟩, .int .u32 0, .slice none 0 0], .bool false]) (by simp [results, Tryz.results37, go_sem, r0, r1, r2]) rfl ⟨rfl, ?_⟩
 exact H2.out.1.comp hc9 fun g hg => Or.inr (by rw [List.mem_singleton.1 hg]; exact hge)
set_option maxRecDepth 100000 in
set_option maxHeartbeats 4000000 in
theorem decode_hit (nm : ByteArray) (ver : Int) (tx tx0 : ByteArray) (w : World) (ht : tx.size ≤ 2000) (ht0 : tx0.size ≤ 2000) (hM : ML w) :
 Calls Tryz.prog 37 #[.agg #[.string nm, .int .i64 ver, .string tx], .string (lb (encL (ck tx.data.toList) (words tx0)))] w (DecPost nm tx tx0 w) := by
 have hsl := ck_lt tx.data.toList
 have Hck := Lib.hid (fun W => checksum_any tx W (by omega))
 obtain ⟨s, hs⟩ : ∃ k, k = ck tx.data.toList := ⟨_, rfl⟩
 unfold DecPost
 have hw := words_ok tx0 ht0
 obtain ⟨l, hl⟩ : ∃ l, l = words tx0 := ⟨_, rfl⟩
 rw [← hs] at Hck hsl
 rw [← hs, ← hl]
 rw [← hl] at hw
 have Hcut := Lib.hid (fun W => cut_hit s l W)
 have Hhex := Lib.hid (fun W => hex_any s W hsl)
 obtain ⟨v, hv⟩ : ∃ v, v = lb (encL s l) := ⟨_, rfl⟩
 obtain ⟨hx, hhx⟩ : ∃ v, v = lb (hx8 s) := ⟨_, rfl⟩
 rw [← hv, ← hhx] at Hcut
 have Hvw := Lib.hid (fun W => fun (u : Value) (p : Nat → Prop) (h : StrsP p W u l) => validWords_any p W u l h hw)
 rw [← hhx] at Hhex
 rw [← hv]
 obtain ⟨rest, hrest⟩ : ∃ t, t = lb (tailW l) := ⟨_, rfl⟩
 rw [← hrest] at Hcut
 have Hrest := Lib.hid hrest
 have Hsp := Lib.hid (fun (h0 : l ≠ []) W (hM : ML W) => split_any' l hw h0 W hM)
 rw [← hrest] at Hsp
 clear hs hv hhx hl hrest
 have HM := Lib.hid hM
 have hlen := hw.len
 have Hw := Lib.hid hw
 clear hM hw
 obtain ⟨w1, hw1⟩ : ∃ q, q = (w.alloc (.cells #[.string nm, .int .i64 ver, .string tx] 28)).alloc (.cells #[.string ⟨#[]⟩, .int .u32 0, .slice none 0 0] 70) := ⟨_, rfl⟩
 obtain ⟨n1, hn1⟩ : ∃ n, n = w.heap.size := ⟨_, rfl⟩
 obtain ⟨n2, hn2⟩ : ∃ n, n = w.heap.size + 1 := ⟨_, rfl⟩
 have hc1 : Chg [] w w1 := by rw [hw1]; exact ((Chg.refl [] w).alloc _).alloc _
 have hb1 : w1.heap[n1]? = some (.cells #[.string nm, .int .i64 ver, .string tx] 28 (0, 0)) := by rw [hw1, hn1]; exact (heap_past _ _ _ (by simp)).trans (heap_at _ _ _ rfl)
 have hb2 : w1.heap[n2]? = some (.cells #[.string ⟨#[]⟩, .int .u32 0, .slice none 0 0] 70 (0, 0)) := by rw [hw1, hn2]; exact heap_at _ _ _ (by simp)
 have x0 : w1.cell? ⟨n1, 0, none⟩ = some (.string nm) := cell_of_heap hb1 rfl
 have x2 : w1.cell? ⟨n1, 2, none⟩ = some (.string tx) := cell_of_heap hb1 rfl
 have lx := lt_of_cell x2
 have hge : w.heap.size ≤ n2 := by omega
 have HW := Lib.hid (And.intro hw1 (And.intro hn1 hn2))
 have H1 := Lib.hid (And.intro hc1 (And.intro hb1 hb2))
 clear hw1 hn1 hn2 hc1 hb1 hb2
 go_enter Tryz.func37, Tryz.ntmps37
 go_upto_region 1 with (fail)
 rw [← HW.out.1, ← HW.out.2.2, ← HW.out.2.1]
 go_wp2_with fail
 refine (Hck.out _).mono ?_
 rintro e wX ⟨rfl, hX⟩; rw [← hX]; clear hX
 go_wp2_with fail
 refine (Hhex.out _).mono ?_
 rintro e w2 ⟨rfl, hc2⟩
 have hb2 := (hc2.block _ (lt_of_obj H1.out.2.2) (by simp)).trans H1.out.2.2
 have y0 : w2.cell? ⟨n2, 0, none⟩ = some (.string ⟨#[]⟩) := cell_of_heap hb2 rfl
 have y1 : w2.cell? ⟨n2, 1, none⟩ = some (.int .u32 0) := cell_of_heap hb2 rfl
 have y2 : w2.cell? ⟨n2, 2, none⟩ = some (.slice none 0 0) := cell_of_heap hb2 rfl
 have f0 : w2.frozen? ⟨n2, 0, none⟩ = false := frozen_of_heap hb2
 have f1 : w2.frozen? ⟨n2, 1, none⟩ = false := frozen_of_heap hb2
 have f2 : w2.frozen? ⟨n2, 2, none⟩ = false := frozen_of_heap hb2
 have ly := lt_of_cell y0
 have x0' := (hc2.cell (p := ⟨n1, 0, none⟩) lx (by simp)).trans x0
 have lx' := lt_of_cell x0'
 clear x0 x2 lx
 have H2 := Lib.hid (And.intro (H1.out.1.trans hc2) hb2)
 clear hc2 hb2
 go_wp2_with fail
 have HMe := Lib.hid (HM.out.new H2.out.1)
 refine (Hcut.out _).mono ?_
 rintro e wX ⟨rfl, hX⟩; rw [hX]; clear hX
 by_cases h0 : l = []
 · have hr : rest = ⟨#[]⟩ := by rw [Hrest.out, h0]; rfl
   subst hr
   subst h0
   go_wp2_with fail
   have hcw := H2.out.1
   obtain ⟨w5, hw5⟩ : ∃ q, q = w2.alloc (.cells #[.string nm, .int .u32 (s : Nat), .slice none 0 0] 70) := ⟨_, rfl⟩
   obtain ⟨n3, hn3⟩ : ∃ q, q = w2.heap.size := ⟨_, rfl⟩
   rw [← hw5, ← hn3]
   have hc5 : Chg [] w2 w5 := by rw [hw5]; exact (Chg.refl _ _).alloc _
   have e3 : w5.heap[n3]? = some (.cells #[.string nm, .int .u32 (s : Nat), .slice none 0 0] 70 (0, 0)) := by rw [hw5, hn3]; exact heap_at _ _ _ rfl
   have e2 := (hc5.block _ (lt_of_obj H2.out.2) (by simp)).trans H2.out.2
   have hst : StrsP (fun g => w.heap.size ≤ g ∧ g < w5.heap.size ∧ g ≠ n2) w5 (.slice none 0 0) [] := SlR.nil _ _ _ _
   have hcw := H2.out.1.trans hc5
   clear hw5 hn3 hc5
   have Hs5 := Lib.hid (And.intro hst (And.intro e3 (And.intro e2 hcw)))
   clear hst e3 e2 hcw
   refine wp_region_readsQ 4 (by kernel_rfl) (by kernel_rfl) ?_
   intro wd hwd
   simp only [List.take_succ_cons, List.take_zero, List.drop_succ_cons, List.drop_zero]
   have hcd : Chg [] w5 wd := by rw [hwd]; exact (Chg.refl _ _).drew
   have e3 := (hcd.block _ (lt_of_obj Hs5.out.2.1) (by simp)).trans Hs5.out.2.1
   have e2 := (hcd.block _ (lt_of_obj Hs5.out.2.2.1) (by simp)).trans Hs5.out.2.2.1
   have z0 : wd.cell? ⟨n3, 0, none⟩ = some (.string nm) := cell_of_heap e3 rfl
   have z1 : wd.cell? ⟨n3, 1, none⟩ = some (.int .u32 (s : Nat)) := cell_of_heap e3 rfl
   have z2 : wd.cell? ⟨n3, 2, none⟩ = some (.slice none 0 0) := cell_of_heap e3 rfl
   have u0 : wd.cell? ⟨n2, 0, none⟩ = some (.string ⟨#[]⟩) := cell_of_heap e2 rfl
   have u1 : wd.cell? ⟨n2, 1, none⟩ = some (.int .u32 0) := cell_of_heap e2 rfl
   have u2 : wd.cell? ⟨n2, 2, none⟩ = some (.slice none 0 0) := cell_of_heap e2 rfl
   have v0 : wd.frozen? ⟨n2, 0, none⟩ = false := frozen_of_heap e2
   have v1 : wd.frozen? ⟨n2, 1, none⟩ = false := frozen_of_heap e2
   have v2 : wd.frozen? ⟨n2, 2, none⟩ = false := frozen_of_heap e2
   have l6 := lt_of_cell u0
   have l7 := lt_of_cell z0
   have hst := Hs5.out.1.same hcd
   have hsz := hcd.size
   have Hv := Lib.hid (Hvw.out wd _ _ hst)
   have H6 := Lib.hid (And.intro hst (And.intro e2 (Hs5.out.2.2.2.trans hcd)))
   clear hwd hcd hst e3 e2
   iterate 3 go_big_quiet_step (fail)
   go_big_quiet_want
   go_big_quiet_op
   refine ⟨_, Hv.out, ?_⟩
   go_big_quiet_on
   repeat go_big_quiet_step (fail)
   refine wpQuiet_nil ?_
   go_wp2_with fail
   obtain ⟨hs, e2, hc6⟩ := H6.out
   obtain ⟨w9, hw9⟩ : ∃ q, q = ((wd.setCell ⟨n2, 0, none⟩ (.string nm)).setCell ⟨n2, 1, none⟩ (.int .u32 (s : Nat))).setCell ⟨n2, 2, none⟩ (.slice none 0 0) := ⟨_, rfl⟩
   have hb9 : w9.heap[n2]? = some (.cells #[.string nm, .int .u32 (s : Nat), .slice none 0 0] 70 (0, 0)) := by
    rw [hw9]
    exact heap_setCell_same (heap_setCell_same (heap_setCell_same e2 _) _) _
   have hc9 : Chg [n2] wd w9 := by
    rw [hw9]
    exact (((Chg.refl [n2] wd).setCell (p := ⟨n2, 0, none⟩) (Or.inl (by simp)) _).setCell (p := ⟨n2, 1, none⟩) (Or.inl (by simp)) _).setCell (p := ⟨n2, 2, none⟩) (Or.inl (by simp)) _
   rw [← hw9]
   have r0 : w9.cell? ⟨n2, 0, none⟩ = some (.string nm) := cell_of_heap hb9 rfl
   have r1 : w9.cell? ⟨n2, 1, none⟩ = some (.int .u32 (s : Nat)) := cell_of_heap hb9 rfl
   have r2 : w9.cell? ⟨n2, 2, none⟩ = some (.slice none 0 0) := cell_of_heap hb9 rfl
   refine bodyPost_ret (v := .tuple #[.agg #[.string nm, .int .u32 (s : Nat), .slice none 0 0], .bool true]) (by simp [results, Tryz.results37, go_sem, r0, r1, r2]) rfl ⟨none, 0, rfl, ?_, ?_⟩
   · refine (StrsP.kept hs hc9.toP (fun g hg hm => hg.2.2 (List.mem_singleton.1 hm))).imp fun g hg => ⟨hg.1, ?_⟩
     have h9 := hc9.size
     have h8 : g < wd.heap.size := by have := Hs5.out; exact Nat.lt_of_lt_of_le hg.2.1 hsz
     omega
   · exact hc6.comp hc9 fun g hg => Or.inr (by rw [List.mem_singleton.1 hg]; exact hge)
 · have hps : 0 < rest.size := by
    rw [Hrest.out, lb_size]
    cases l with
    | nil => exact absurd rfl h0
    | cons y r => simp [tailW]
   have hne : rest.toList.isEmpty = false := by
    have := ne_toList hps
    cases hq : rest.toList with
    | nil => rw [hq] at this; simp at this
    | cons _ _ => rfl
   have hr0 : rest[0]'hps = 32 := by
    have hh := Hrest.out
    cases l with
    | nil => exact absurd rfl h0
    | cons y r => subst hh; exact UInt8.toNat_inj.1 (tail_head y r hps)
   have Hs2 := Lib.hid (Hsp.out h0)
   go_wp2_with fail
   have hml := HMe.out.new (w' := w2.alloc (.cells #[.string nm, .int .u32 (s : Nat), .slice none 0 0] 70)) ((Chg.refl _ _).alloc _)
   refine (Hs2.out _ hml).mono ?_
   rintro e w4 ⟨rfl, hw4⟩
   obtain ⟨w3, hw3⟩ : ∃ q, q = w2.alloc (.cells #[.string nm, .int .u32 (s : Nat), .slice none 0 0] 70) := ⟨_, rfl⟩
   obtain ⟨n3, hn3⟩ : ∃ q, q = w2.heap.size := ⟨_, rfl⟩
   obtain ⟨n4, hn4⟩ : ∃ q, q = w3.heap.size := ⟨_, rfl⟩
   rw [← hw3] at hw4 ⊢
   rw [← hn3, ← hn4]
   have hc3 : Chg [] w2 w3 := by rw [hw3]; exact (Chg.refl _ _).alloc _
   have hc4 : Chg [] w3 w4 := by rw [hw4]; exact (Chg.refl _ _).alloc _
   have e3 : w3.heap[n3]? = some (.cells #[.string nm, .int .u32 (s : Nat), .slice none 0 0] 70 (0, 0)) := by rw [hw3, hn3]; exact heap_at _ _ _ rfl
   have e3 := (hc4.block _ (lt_of_obj e3) (by simp)).trans e3
   have e4 : w4.heap[n4]? = some (.cells (l.map Value.string).toArray 9 (0, 0)) := by rw [hw4, hn4]; exact heap_at _ _ _ rfl
   have e2 := ((hc3.trans hc4).block _ (lt_of_obj H2.out.2) (by simp)).trans H2.out.2
   have z2 : w4.cell? ⟨n3, 2, none⟩ = some (.slice none 0 0) := cell_of_heap e3 rfl
   have v2 : w4.frozen? ⟨n3, 2, none⟩ = false := frozen_of_heap e3
   have l4 := lt_of_cell z2
   have hl2 : n2 < w2.heap.size := lt_of_obj H2.out.2
   have hn23 : n2 < n3 := by rw [hn3]; exact hl2
   have hn34 : n3 < n4 := by rw [hn4, hn3, hw3]; simp
   have H4 := Lib.hid (And.intro e4 (And.intro e3 (And.intro e2 (And.intro (H2.out.1.trans (hc3.trans hc4)) (And.intro hn23 hn34)))))
   clear hw3 hw4 hn3 hn4 hc3 hc4 e3 e4 e2 hl2 hn23 hn34 hml
   go_wp2_with fail
   obtain ⟨e4, e3, e2, hc4, hn23, hn34⟩ := H4.out
   obtain ⟨w5, hw5⟩ : ∃ q, q = w4.setCell ⟨n3, 2, none⟩ (.slice (some ⟨n4, 0, none⟩) l.length l.length) := ⟨_, rfl⟩
   rw [← hw5]
   have hc5 : Chg [n3] w4 w5 := by rw [hw5]; exact (Chg.refl [n3] w4).setCell (p := ⟨n3, 2, none⟩) (Or.inl (by simp)) _
   have e3 : w5.heap[n3]? = some (.cells #[.string nm, .int .u32 (s : Nat), .slice (some ⟨n4, 0, none⟩) l.length l.length] 70 (0, 0)) := by rw [hw5]; exact heap_setCell_same e3 _
   have e2 := (hc5.block n2 (lt_of_obj e2) (by simp; omega)).trans e2
   have e4 := (hc5.block n4 (lt_of_obj e4) (by simp; omega)).trans e4
   have hst : StrsP (fun g => w.heap.size ≤ g ∧ g < w5.heap.size ∧ g ≠ n2) w5 (.slice (some ⟨n4, 0, none⟩) l.length l.length) l := by
    refine ⟨_, _, rfl, Nat.le_refl _, by unfold maxLen; omega, fun _ => ⟨n4, 0, rfl, ⟨by omega, lt_of_obj e4, by omega⟩, fun j hj => ?_⟩⟩
    unfold rdStr
    exact cell_of_heap e4 (by simp [hj])
   have hcw := hc4.comp hc5 (fun g hg => Or.inr (by rw [List.mem_singleton.1 hg]; omega))
   clear hw5 hc5 e4
   have Hs5 := Lib.hid (And.intro hst (And.intro e3 (And.intro e2 hcw)))
   clear hst e3 e2 hcw
   refine wp_region_readsQ 4 (by kernel_rfl) (by kernel_rfl) ?_
   intro wd hwd
   simp only [List.take_succ_cons, List.take_zero, List.drop_succ_cons, List.drop_zero]
   have hcd : Chg [] w5 wd := by rw [hwd]; exact (Chg.refl _ _).drew
   have e3 := (hcd.block _ (lt_of_obj Hs5.out.2.1) (by simp)).trans Hs5.out.2.1
   have e2 := (hcd.block _ (lt_of_obj Hs5.out.2.2.1) (by simp)).trans Hs5.out.2.2.1
   have z0 : wd.cell? ⟨n3, 0, none⟩ = some (.string nm) := cell_of_heap e3 rfl
   have z1 : wd.cell? ⟨n3, 1, none⟩ = some (.int .u32 (s : Nat)) := cell_of_heap e3 rfl
   have z2 : wd.cell? ⟨n3, 2, none⟩ = some (.slice (some ⟨n4, 0, none⟩) l.length l.length) := cell_of_heap e3 rfl
   have u0 : wd.cell? ⟨n2, 0, none⟩ = some (.string ⟨#[]⟩) := cell_of_heap e2 rfl
   have u1 : wd.cell? ⟨n2, 1, none⟩ = some (.int .u32 0) := cell_of_heap e2 rfl
   have u2 : wd.cell? ⟨n2, 2, none⟩ = some (.slice none 0 0) := cell_of_heap e2 rfl
   have v0 : wd.frozen? ⟨n2, 0, none⟩ = false := frozen_of_heap e2
   have v1 : wd.frozen? ⟨n2, 1, none⟩ = false := frozen_of_heap e2
   have v2 : wd.frozen? ⟨n2, 2, none⟩ = false := frozen_of_heap e2
   have l6 := lt_of_cell u0
   have l7 := lt_of_cell z0
   have hst := Hs5.out.1.same hcd
   have hsz := hcd.size
   have Hv := Lib.hid (Hvw.out wd _ _ hst)
   have H6 := Lib.hid (And.intro hst (And.intro e2 (Hs5.out.2.2.2.trans hcd)))
   clear hwd hcd hst e3 e2
   iterate 3 go_big_quiet_step (fail)
   go_big_quiet_want
   go_big_quiet_op
   refine ⟨_, Hv.out, ?_⟩
   go_big_quiet_on
   repeat go_big_quiet_step (fail)
   refine wpQuiet_nil ?_
   go_wp2_with fail
   obtain ⟨hs, e2, hc6⟩ := H6.out
   obtain ⟨w9, hw9⟩ : ∃ q, q = ((wd.setCell ⟨n2, 0, none⟩ (.string nm)).setCell ⟨n2, 1, none⟩ (.int .u32 (s : Nat))).setCell ⟨n2, 2, none⟩ (.slice (some ⟨n4, 0, none⟩) l.length l.length) := ⟨_, rfl⟩
   have hb9 : w9.heap[n2]? = some (.cells #[.string nm, .int .u32 (s : Nat), .slice (some ⟨n4, 0, none⟩) l.length l.length] 70 (0, 0)) := by
    rw [hw9]
    exact heap_setCell_same (heap_setCell_same (heap_setCell_same e2 _) _) _
   have hc9 : Chg [n2] wd w9 := by
    rw [hw9]
    exact (((Chg.refl [n2] wd).setCell (p := ⟨n2, 0, none⟩) (Or.inl (by simp)) _).setCell (p := ⟨n2, 1, none⟩) (Or.inl (by simp)) _).setCell (p := ⟨n2, 2, none⟩) (Or.inl (by simp)) _
   rw [← hw9]
   have r0 : w9.cell? ⟨n2, 0, none⟩ = some (.string nm) := cell_of_heap hb9 rfl
   have r1 : w9.cell? ⟨n2, 1, none⟩ = some (.int .u32 (s : Nat)) := cell_of_heap hb9 rfl
   have r2 : w9.cell? ⟨n2, 2, none⟩ = some (.slice (some ⟨n4, 0, none⟩) l.length l.length) := cell_of_heap hb9 rfl
   refine bodyPost_ret (v := .tuple #[.agg #[.string nm, .int .u32 (s : Nat), .slice (some ⟨n4, 0, none⟩) l.length l.length], .bool true]) (by simp [results, Tryz.results37, go_sem, r0, r1, r2]) rfl ⟨some ⟨n4, 0, none⟩, l.length, rfl, ?_, ?_⟩
   · refine (StrsP.kept hs hc9.toP (fun g hg hm => hg.2.2 (List.mem_singleton.1 hm))).imp fun g hg => ⟨hg.1, ?_⟩
     have h9 := hc9.size
     have h8 : g < wd.heap.size := by have := Hs5.out; exact Nat.lt_of_lt_of_le hg.2.1 hsz
     omega
   · exact hc6.comp hc9 fun g hg => Or.inr (by rw [List.mem_singleton.1 hg]; exact hge)
def isK (nm : ByteArray) (r : J.Rec) : Bool := decide (r.key = nm)
theorem rest1_any (r : J.Rec) (nm : ByteArray) (ver : Int) (tx : ByteArray) (w : World) (n5 : Nat) (h5 : w.heap[n5]? = some (.cells #[.string nm, .int .i64 ver, .string tx] 28 (0, 0))) :
 Calls Tryz.prog 36 #[.agg #[.string r.key, .string r.val, .bool r.del], .pointer (some ⟨n5, 0, none⟩)] w fun e w' => e = .returned (.bool (isK nm r)) ∧ Chg [] w w' := by
 obtain ⟨w1, hw1⟩ : ∃ q, q = w.alloc (.cells #[.string r.key, .string r.val, .bool r.del] 78) := ⟨_, rfl⟩
 have hc1 : Chg [] w w1 := by rw [hw1]; exact (Chg.refl [] w).alloc _
 have p0 : w1.cell? ⟨n5, 0, none⟩ = some (.string nm) := cell_of_heap ((hc1.block _ (lt_of_obj h5) (by simp)).trans h5) rfl
 have b0 : w1.cell? ⟨w.heap.size, 0, none⟩ = some (.string r.key) := by rw [hw1]; exact cell_of_heap (heap_at _ _ _ rfl) rfl
 have l0 := lt_of_cell p0
 have h2 : (r.key.toList == nm.toList) = isK nm r := beqS _ _
 have Hw1 := Lib.hid hw1
 have Hc1 := Lib.hid hc1
 clear h5 hw1 hc1
 go_enter Tryz.func36, Tryz.ntmps36
 go_upto_region 1 with (fail)
 rw [← Hw1.out]
 go_wp2_with fail
 go_ret
 exact ⟨by first | rfl | simp [h2], Hc1.out⟩
set_option maxHeartbeats 1000000 in
theorem idxRec_any (w : World) (v : Value) (st : List J.Rec) (nm : ByteArray) (ver : Int) (tx : ByteArray) (n5 : Nat) (hk : J.Recs w v st) (h5 : w.heap[n5]? = some (.cells #[.string nm, .int .i64 ver, .string tx] 28 (0, 0))) :
 Calls Tryz.prog 35 #[v, .func (.func 36) #[] #[.pointer (some ⟨n5, 0, none⟩)]] w fun e w' => e = .returned (.int .i64 (fidx (isK nm) st)) ∧ Chg [] w w' := by
 obtain ⟨a, cap, rfl, hm, hc⟩ := J.Recs.shape hk
 have Hk := Lib.hid hk
 have Hf := Lib.hid (fun W (hW : Chg [] w W) (r : J.Rec) => rest1_any r nm ver tx W n5 ((hW.block _ (lt_of_obj h5) (by simp)).trans h5))
 clear hk hc h5
 unfold maxLen at hm
 go_enter Tryz.func35, Tryz.ntmps35
 go_wp2_with fail
 go_loopw [8] (fun i wr => ∃ n : Nat, n ≤ st.length ∧ i = .int .i64 (n : Nat) ∧ Hid (∀ x ∈ st.take n, isK nm x = false) ∧ Hid (Chg [] w wr)) (fun i _ => st.length - (intOf i).toNat)
 case atStart => exact ⟨0, by omega, rfl, Lib.hid (by simp), Lib.hid (Chg.refl _ _)⟩
 case round =>
  obtain ⟨n, hn, rfl, Hno, Hcw⟩ := hrel
  by_cases hlt : n < st.length
  · obtain ⟨a', cap', he, _, hc'⟩ := J.Recs.shape (Hk.out.same Hcw.out)
    obtain ⟨g, off, he2, q0, q1, q2⟩ := hc' n hlt
    simp only [Value.slice.injEq] at he
    obtain ⟨rfl, _, rfl⟩ := he
    subst he2
    obtain ⟨x, hx⟩ : ∃ x, st.getD n J.Rec.zero = x := ⟨_, rfl⟩
    rw [hx] at q0 q1 q2
    have lg := lt_of_cell q0
    have hn1 : (n : Int) < st.length := by omega
    have hn0 : (0 : Int) ≤ (n : Int) := by omega
    obtain ⟨b, hb⟩ : ∃ b, isK nm x = b := ⟨_, rfl⟩
    have hcall := Hf.out wr Hcw.out x
    rw [hb] at hcall
    have Hcall := Lib.hid hcall
    have Hb := Lib.hid (And.intro hx hb)
    clear hx hb hcall hc'
    cases b
    · go_wp2_with fail
      refine Hcall.out.mono ?_
      rintro e w1 ⟨rfl, hc1⟩
      have H1 := Lib.hid (Hcw.out.trans hc1)
      clear hc1 q0 q1 q2 lg
      go_wp2_with fail
      refine ⟨⟨n + 1, by omega, by go_num, Lib.hid ?_, H1⟩, by simp [intOf]; omega⟩
      intro y hy
      rw [fold_take_snoc _ _ hlt J.Rec.zero, List.mem_append, List.mem_singleton] at hy
      rcases hy with hy | hy
      · exact Hno.out y hy
      · rw [hy, Hb.out.1]; exact Hb.out.2
    · go_wp2_with fail
      refine Hcall.out.mono ?_
      rintro e w1 ⟨rfl, hc1⟩
      have H1 := Lib.hid (Hcw.out.trans hc1)
      clear hc1 q0 q1 q2 lg
      go_wp2_with fail
      go_ret
      exact ⟨by rw [fidx_some (isK nm) st n hlt J.Rec.zero Hno.out (by rw [Hb.out.1]; exact Hb.out.2)]; rfl, H1.out⟩
  · have hn1 : ¬ ((n : Int) < st.length) := by omega
    have hnl : n = st.length := by omega
    have Hnl := Lib.hid hnl
    clear hnl
    go_wp2_with fail
    go_ret
    refine ⟨?_, Hcw.out⟩
    rw [fidx_none (isK nm) st (fun x hx => Hno.out x (by rw [Hnl.out, List.take_length]; exact hx))]
    rfl
theorem run_append_nm (w : World) (ty : TypeId) (B : Nat) (v : Value) (l : List ByteArray) (x : ByteArray) (n : Nat) (hv : OwnS w B v l) (hb : w.heap[n]? = some (.cells #[.string x] 9 (0, 0))) (hlen : l.length ≤ 1000) (hB : B ≤ w.heap.size) :
 ∃ v' w', (Builtin.append_ #[22, 22] ty #[v, .slice (some ⟨n, 0, none⟩) 1 1]).run Tryz.prog w = .ok v' w' ∧ OwnS w' B v' (l ++ [x]) ∧ Chg v.ownBlock.toList w w' ∧ (∀ g, v'.ownBlock = some g → v.ownBlock = some g ∨ w.heap.size ≤ g) := by
 obtain ⟨i0, hi, hz0, hz1, hz2⟩ := info_parts Tryz.infoStr
 obtain ⟨v', w', hr, h2, h3, _, h5⟩ := run_append_own_at (P := Tryz.prog) w B 22 ty 9 i0 (.string ⟨#[]⟩) 1 16 Tryz.underlying22 hi hz0 hz1 hz2 rfl (by decide) v l.length (l.map sk) hv ⟨n, 0, none⟩ 1 1 [sk x] rfl (fun j u hj => by
  rw [Addr.add_lit, Nat.zero_add]
  refine cell_of_heap hb ?_
  match j with
  | 0 => simpa [sk] using hj
  | j + 1 => simp at hj) (fun u hu => by rw [List.mem_singleton.1 hu]; rfl) (by unfold maxLen; omega) (by omega) hB
 refine ⟨v', w', hr, ?_, (Chg.refl _ w).grown h3 (by intro k hk; left; simp [hk]), fun g hg => ?_⟩
 · unfold OwnS
   rw [List.map_append, List.length_append]
   exact h2
 · rcases h5 with h5 | h5
   · exact Or.inl (by rw [← h5]; exact hg)
   · right
     rw [h5] at hg
     cases hg
     exact Nat.le_refl _
theorem sortIdx_q (w : World) (B : Nat) (q : Nat → Prop) (D : List Dc) (v : Value) (es : List Ent) (h : OwnEn w B v es) (hq : ∀ g, v.ownBlock = some g → q g) (hl : es.length ≤ 1000) (hn : (D.map (·.1)).Nodup) (hm : es.map (·.nm) = D.map (·.1))
 (ho : ∀ e ∈ es, EnOk D (fun g => v.ownBlock ≠ some g ∧ q g) w e) :
 Calls Tryz.prog 25 #[v, .func (.func 26) #[] #[]] w fun e w' =>
  e = .returned (.tuple #[]) ∧ ∃ I, IsIdx D I ∧ IxP q q w' v I ∧ Chg v.ownBlock.toList w w' := by
 obtain ⟨a, cap, rfl⟩ := ownsRow_shape h
 by_cases h0 : es = []
 · subst h0
   refine (AnyF.slices_SortFunc_none (P := Tryz.prog) (ρ := Tryz.laysSlF06_f22_ren) { Tryz.laysSlF06_f22 with } a cap _ _).mono ?_
   rintro e w' ⟨rfl, rfl⟩
   have hD : D = [] := by simpa using hm.symm
   subst hD
   exact ⟨rfl, [], ⟨List.Perm.refl _, List.Pairwise.nil⟩, ⟨a, cap, rfl, Nat.zero_le _, (OwnEn.bound h).2.2, fun hx => absurd hx (by simp)⟩, Chg.refl _ _⟩
 · have hpos : 0 < es.length := List.length_pos_iff.2 h0
   obtain ⟨_, b1, b2⟩ := OwnEn.bound h
   obtain ⟨blk, c, hv, hge, hlt⟩ := World.ownsRow.form h hpos
   simp only [Value.slice.injEq, true_and] at hv
   obtain ⟨rfl, rfl⟩ := hv
   have hs := sortEnts_any (cap := cap) es.toArray (holds_ents h) hlt (by simp; omega)
   simp only [List.size_toArray] at hs
   refine hs.mono ?_
   rintro e w' ⟨rfl, a', hsz, hp, hso, hH, hc⟩
   have hp' : a'.toList.Perm es := by simpa using hp
   have hmem : ∀ e ∈ a'.toList, e ∈ es := fun e he => hp'.mem_iff.1 he
   refine ⟨rfl, a'.toList.map fun e => entO (dOf D e.nm), isIdx_of hn hm hp' (fun e he => ?_) (fun i j hi hj hij => ?_), ?_, by simpa [Value.ownBlock] using hc⟩
   · obtain ⟨d, h1, h2, _⟩ := ho e (hmem e he)
     exact ⟨d, h1, h2⟩
   · have hi' : i < a'.size := by simpa using hi
     have hj' : j < a'.size := by simpa using hj
     have := hso i j hij (by omega)
     rw [getElem!_pos a' i hi', getElem!_pos a' j hj'] at this
     simpa using this
   · rw [← hsz]
     refine ents_read hn hH (hq _ rfl) (by omega) b2 fun e he => (ho e (hmem e he)).mono hc.toP (fun g hg hm => ?_) (fun g hg => hg.2)
     rw [List.mem_singleton] at hm
     exact hg.1 (by rw [hm]; rfl)
theorem fidx_hit {α : Type} (q : α → Bool) (l : List α) (h : ∃ x ∈ l, q x = true) : ∃ j, ∃ hj : j < l.length, fidx q l = (j : Int) ∧ q (l[j]'hj) = true := by
 unfold fidx
 cases hf : l.findIdx? q with
 | none =>
   rw [List.findIdx?_eq_none_iff] at hf
   obtain ⟨x, hx, hq⟩ := h
   rw [hf x hx] at hq
   cases hq
 | some k =>
   rw [List.findIdx?_eq_some_iff_getElem] at hf
   obtain ⟨hk, hq, _⟩ := hf
   exact ⟨k, hk, rfl, hq⟩
def recD (d : Dc) : J.Rec := recI (entO d)
theorem recD_key (d : Dc) : (recD d).key = d.1 := rfl
theorem recD_val (d : Dc) : (recD d).val = lb (encL (ck d.2.2.data.toList) (words d.2.2)) := rfl
theorem state_mem {D0 : List Dc} {st : List J.Rec} (h : J.IsState (D0.map recD) st) (hn : (D0.map (·.1)).Nodup) (r : J.Rec) : r ∈ st ↔ ∃ d ∈ D0, r = recD d := by
 have hd : ∀ a ∈ D0, ∀ b ∈ D0, a.1 = b.1 → a = b := fun a ha b hb e => by rw [← dOf_eq hn ha, ← dOf_eq hn hb, e]
 rw [h.mem r]
 constructor
 · rintro ⟨h1, _⟩
   obtain ⟨h2, _⟩ := J.lastRec_mem h1
   obtain ⟨d, h3, h4⟩ := List.mem_map.1 h2
   exact ⟨d, h3, h4.symm⟩
 · rintro ⟨d, h1, rfl⟩
   refine ⟨J.lastRec_distinct ?_ _ (List.mem_map.2 ⟨d, h1, rfl⟩), rfl⟩
   intro a ha b hb e
   obtain ⟨da, ha1, rfl⟩ := List.mem_map.1 ha
   obtain ⟨db, hb1, rfl⟩ := List.mem_map.1 hb
   rw [hd da ha1 db hb1 e]
theorem state_find {D0 : List Dc} {st : List J.Rec} (h : J.IsState (D0.map recD) st) (hn : (D0.map (·.1)).Nodup) {d0 : Dc} (h0 : d0 ∈ D0) : ∃ j, ∃ hj : j < st.length, fidx (isK d0.1) st = (j : Int) ∧ st[j]'hj = recD d0 := by
 obtain ⟨j, hj, h1, h2⟩ := fidx_hit (isK d0.1) st ⟨recD d0, (state_mem h hn _).2 ⟨d0, h0, rfl⟩, by unfold isK; exact decide_eq_true rfl⟩
 refine ⟨j, hj, h1, ?_⟩
 obtain ⟨d, h3, h4⟩ := (state_mem h hn _).1 (List.getElem_mem hj)
 unfold isK at h2
 rw [decide_eq_true_eq, h4, recD_key] at h2
 have : d = d0 := by rw [← dOf_eq hn h3, ← dOf_eq hn h0, h2]
 rw [h4, this]
theorem state_none {D0 : List Dc} {st : List J.Rec} (h : J.IsState (D0.map recD) st) (hn : (D0.map (·.1)).Nodup) {nm : ByteArray} (h0 : ∀ d ∈ D0, d.1 ≠ nm) : fidx (isK nm) st = -1 := by
 refine fidx_none _ _ fun r hr => ?_
 obtain ⟨d, h1, rfl⟩ := (state_mem h hn r).1 hr
 unfold isK
 exact decide_eq_false (h0 d h1)
def sameS (d x : Dc) : Bool := decide (x.1 = d.1 ∧ ck x.2.2.data.toList = ck d.2.2.data.toList)
def fresh (D0 : List Dc) (d : Dc) : Bool := D0.any (sameS d)
def eff (D0 : List Dc) (d : Dc) : Dc := match D0.find? (sameS d) with
 | some x => (d.1, d.2.1, x.2.2)
 | none => d
theorem eff_name (D0 : List Dc) (d : Dc) : (eff D0 d).1 = d.1 := by unfold eff; split <;> rfl
theorem eff_hit {D0 : List Dc} (hn : (D0.map (·.1)).Nodup) {d d0 : Dc} (h0 : d0 ∈ D0) (h1 : d0.1 = d.1) (h2 : ck d0.2.2.data.toList = ck d.2.2.data.toList) : eff D0 d = (d.1, d.2.1, d0.2.2) ∧ fresh D0 d = true := by
 have ht : sameS d d0 = true := decide_eq_true ⟨h1, h2⟩
 refine ⟨?_, List.any_eq_true.2 ⟨d0, h0, ht⟩⟩
 unfold eff
 cases hf : D0.find? (sameS d) with
 | none =>
   rw [List.find?_eq_none] at hf
   exact absurd ht (hf d0 h0)
 | some x =>
   have hx := List.mem_of_find?_eq_some hf
   have hq := List.find?_some hf
   unfold sameS at hq
   rw [decide_eq_true_eq] at hq
   have : x = d0 := by rw [← dOf_eq hn hx, ← dOf_eq hn h0, hq.1, h1]
   rw [this]
theorem eff_miss {D0 : List Dc} {d : Dc} (h : ∀ d0 ∈ D0, d0.1 = d.1 → ck d0.2.2.data.toList ≠ ck d.2.2.data.toList) : eff D0 d = d ∧ fresh D0 d = false := by
 have hq : ∀ x ∈ D0, sameS d x = false := fun x hx => by
  unfold sameS
  exact decide_eq_false fun e => h x hx e.1 e.2
 refine ⟨?_, List.any_eq_false.2 fun x hx => by rw [hq x hx]; decide⟩
 unfold eff
 have : D0.find? (sameS d) = none := List.find?_eq_none.2 fun x hx => by rw [hq x hx]; decide
 rw [this]
def scanN (D0 D : List Dc) : List ByteArray := (D.filter fun d => !fresh D0 d).map (·.1)
theorem scanN_snoc (D0 D : List Dc) (d : Dc) : scanN D0 (D ++ [d]) = scanN D0 D ++ (if fresh D0 d then [] else [d.1]) := by
 unfold scanN
 rw [List.filter_append, List.map_append]
 cases h : fresh D0 d <;> simp [h]
theorem scanN_len (D0 D : List Dc) : (scanN D0 D).length ≤ D.length := by
 unfold scanN
 rw [List.length_map]
 exact List.length_filter_le _ _
theorem eff_names (D0 D : List Dc) : (D.map (eff D0)).map (·.1) = D.map (·.1) := by
 rw [List.map_map]
 exact List.map_congr_left fun d _ => eff_name D0 d
end Go.Proofs.YtjlknaahpjiibaaGreatDoor
