/- Part of the proof of topCrashedLaw_holds. -/
import Derived.Deep.QuietTactic
import Derived.BigQuiet
import Derived.Deep.RegionHeld3
import Derived.Test.YtjlknaahpjiibaaGreatDoorProg
import Derived.Test.YtjlknaahpjiibaaGreatDoorQaa
import Derived.Test.YtjlknaahpjiibaaGreatDoorQai
namespace Go.Proofs.YtjlknaahpjiibaaGreatDoor.J
open Go.RowKit
theorem ret_int {k : IntKind} {a b : Int} (h : a = b) : Ending.returned (.int k a) = .returned (.int k b) := by rw [h]
theorem ret_str {a b : ByteArray} (h : a = b) : Ending.returned (.string a) = .returned (.string b) := by rw [h]
theorem take_fold (s : ByteArray) (k : Nat) (hk : k < s.size) (h0 : Nat) : (s.data.toList.take (k + 1)).foldl ckStep h0 = ckStep ((s.data.toList.take k).foldl ckStep h0) s[k] := by
 have e : s.data.toList[k]'(by simpa using hk) = s[k] := rfl
 rw [List.take_succ_eq_append_getElem (by simpa using hk), List.foldl_append, List.foldl_cons, List.foldl_nil, e]
theorem xor_step (h : Nat) (b : UInt8) (hh : h < 4294967296) : bits .xor .u32 (h : Int) ((b.toNat : Int) % 4294967296) * 16777619 % 4294967296 = (ckStep h b : Int) := by
 have hb : b.toNat < 4294967296 := Nat.lt_trans b.toNat_lt (by decide)
 rw [show ((b.toNat : Int) % 4294967296) = (b.toNat : Int) from Int.emod_eq_of_lt (by omega) (by omega), u32_xor_nat _ _ hh hb]
 unfold ckStep
 omega
set_option maxHeartbeats 400000 in
theorem checksum_any (s : ByteArray) (w : World) (hs : s.size ≤ 9223372036854775807) :
 Calls Tryz.prog 13 #[.string s] w fun e w' => e = .returned (.int .u32 (ck s.data.toList)) ∧ w = w' := by
 go_enter Tryz.func13, Tryz.ntmps13
 go_wp2
 go_loop [3, 7] (fun h i => ∃ (k x : Nat), k ≤ s.size ∧ i = .int .i64 (k : Nat) ∧ h = .int .u32 (x : Nat) ∧ x = (s.data.toList.take k).foldl ckStep ck0) (fun _ i => s.size - (intOf i).toNat)
 case atStart => exact ⟨0, ck0, by omega, rfl, rfl, rfl⟩
 case round =>
  obtain ⟨k, x, hk, rfl, rfl, hx⟩ := hrel
  have hx32 : x < 4294967296 := by rw [hx]; exact ck_fold_lt _ _ ck0_lt
  have Hx := Lib.hid hx
  clear hx
  by_cases hlt : k < s.size
  · go_wp2
    refine ⟨⟨k + 1, ckStep x s[k], by omega, by go_num, ?_, ?_⟩, by simp [intOf]; omega⟩
    · rw [xor_step x s[k] hx32]
    · rw [take_fold s k hlt, Hx.out]
  · go_wp2
    go_ret
    refine ⟨ret_int ?_, rfl⟩
    rw [Hx.out, List.take_of_length_le (by simp; omega)]
    rfl
theorem byte_nat (n : Nat) (h : n < 256) : ((UInt8.ofNat n).toNat : Int) = n := by simp [UInt8.toNat_ofNat']; omega
theorem conv_bytes (w : World) (g cap : Nat) (l : List UInt8) (fr : Nat × Nat) (c : Array Value) (h : w.heap[g]? = some (.cells c 5 fr)) (hc : c = (l.map fun b => Value.int .u8 (b.toNat : Int)).toArray) :
 (convert 137 9 (.slice (some ⟨g, 0, none⟩) l.length cap)).run Tryz.prog w = .ok (.string (bs l)) w := by
 refine run_convert_bytes_back w 137 9 5 ⟨g, 0, none⟩ cap l Tryz.underlying137 Tryz.underlying5 Tryz.underlying9 (fun j hj => ?_)
 rw [Addr.add_lit, Nat.zero_add]
 exact cell_of_heap h (by simp [hc, hj])
set_option maxHeartbeats 400000 in
theorem frame_any (s : ByteArray) (w : World) (hs : s.size ≤ 100000)  :
 Calls Tryz.prog 58 #[.string s] w fun e w' => e = .returned (.string (bs (frameL s.data.toList))) ∧ Chg [] w w' := by
 have hsl : s.data.toList.length = s.size := Array.length_toList
 have hc2 : (convert 137 9 (.slice (some ⟨w.heap.size, 0, none⟩) 2 2)).run Tryz.prog (w.alloc (.cells #[.int .u8 ((s.size : Int) / 256 % 256), .int .u8 ((s.size : Int) % 256)] 5)) = .ok (.string (bs (len2 s.size))) (w.alloc (.cells #[.int .u8 ((s.size : Int) / 256 % 256), .int .u8 ((s.size : Int) % 256)] 5)) := by
  refine conv_bytes _ _ 2 (len2 s.size) (0, 0) _ (heap_at _ _ _ rfl) ?_
  simp only [len2, List.map_cons, List.map_nil]
  rw [byte_nat _ (Nat.mod_lt _ (by decide)), byte_nat _ (Nat.mod_lt _ (by decide))]
  simp
 have hz2 : (bs (len2 s.size)).size = 2 := bs_size _
 go_enter Tryz.func58, Tryz.ntmps58
 go_wp2_with fail
 refine (checksum_any _ _ (by rw [ByteArray.size_append, hz2]; omega)).mono ?_
 rintro e w' ⟨rfl, rfl⟩
 obtain ⟨c, hc⟩ : ∃ c, c = ck (bs (len2 s.size) ++ s).data.toList := ⟨_, rfl⟩
 rw [← hc]
 have hcl : c < 4294967296 := by rw [hc]; exact ck_lt _
 have Hc := Lib.hid hc
 clear hc
 have hc4 : ∀ o : Obj, (convert 137 9 (.slice (some ⟨w.heap.size + 1, 0, none⟩) 4 4)).run Tryz.prog ((w.alloc o).alloc (.cells #[.int .u8 ((c : Int) / 16777216), .int .u8 ((c : Int) / 65536 % 256), .int .u8 ((c : Int) / 256 % 256), .int .u8 ((c : Int) % 256)] 5)) = .ok (.string (bs (sum4 c))) ((w.alloc o).alloc (.cells #[.int .u8 ((c : Int) / 16777216), .int .u8 ((c : Int) / 65536 % 256), .int .u8 ((c : Int) / 256 % 256), .int .u8 ((c : Int) % 256)] 5)) := fun o => by
  refine conv_bytes _ _ 4 (sum4 c) (0, 0) _ (heap_at _ _ _ (by simp)) ?_
  simp only [sum4, List.map_cons, List.map_nil]
  rw [byte_nat _ (Nat.mod_lt _ (by decide)), byte_nat _ (Nat.mod_lt _ (by decide)), byte_nat _ (Nat.mod_lt _ (by decide)), byte_nat _ (Nat.mod_lt _ (by decide))]
  have e : ((c / 16777216 % 256 : Nat) : Int) = (c : Int) / 16777216 := by omega
  rw [e]
  simp
 have hz4 : (bs (sum4 c)).size = 4 := bs_size _
 go_wp2
 go_ret
 refine ⟨ret_str (eq_bs ?_), ((Chg.refl [] w).alloc _).alloc _⟩
 rw [append_bs, append_bs, bs_data, bs_data, Hc.out, append_bs, bs_data]
 unfold frameL
 rw [hsl]
set_option maxHeartbeats 400000 in
theorem payload_any (r : Rec) (w : World) (hk : r.key.size ≤ 60) (hv : r.val.size ≤ 3000) :
 Calls Tryz.prog 59 #[.agg #[.string r.key, .string r.val, .bool r.del]] w fun e w' => e = .returned (.string (bs r.pay)) ∧ Chg [] w w' := by
 obtain ⟨key, val, b⟩ := r
 simp only at hk hv ⊢
 have hc1 : ∀ o : Obj, (convert 137 9 (.slice (some ⟨w.heap.size + 1, 0, none⟩) 1 1)).run Tryz.prog ((w.alloc o).alloc (.cells #[.int .u8 (key.size : Int)] 5)) = .ok (.string (bs [UInt8.ofNat key.size])) ((w.alloc o).alloc (.cells #[.int .u8 (key.size : Int)] 5)) := fun o => by
  refine conv_bytes _ _ 1 [UInt8.ofNat key.size] (0, 0) _ (heap_at _ _ _ (by simp)) ?_
  simp only [List.map_cons, List.map_nil]
  rw [byte_nat _ (by omega)]
 have hz1 : (bs [UInt8.ofNat key.size]).size = 1 := bs_size _
 cases b
 all_goals
  go_enter Tryz.func59, Tryz.ntmps59
  go_wp2
  go_ret
  refine ⟨ret_str (eq_bs ?_), ((Chg.refl [] w).alloc _).alloc _⟩
  rw [append_bs, append_bs, append_bs, bs_data]
  simp [Rec.pay]
set_option maxHeartbeats 400000 in
theorem validate_any (r : Rec) (w : World) :
 Calls Tryz.prog 57 #[.agg #[.string r.key, .string r.val, .bool r.del]] w fun e w' => e = .returned (.int .i64 r.err) ∧ Chg [] w w' := by
 obtain ⟨key, val, b⟩ := r
 have ek : key.toList = key.data.toList := ByteArray.toList_eq key
 have ev : val.toList = val.data.toList := ByteArray.toList_eq val
 simp only
 obtain ⟨x, hx⟩ : ∃ x, x = Rec.err ⟨key, val, b⟩ := ⟨_, rfl⟩
 rw [← hx]
 unfold Rec.err at hx
 simp only [← ek, ← ev] at hx
 clear ek ev
 by_cases h1 : key.toList = []
 · rw [if_pos (Or.inl h1)] at hx
   subst hx
   have h1' : key.toList.isEmpty = true := by rw [h1]; rfl
   go_enter Tryz.func57, Tryz.ntmps57
   go_wp2
   go_ret
   exact ⟨rfl, (Chg.refl [] w).alloc _⟩
 · have h1' : key.toList.isEmpty = false := by cases h : key.toList; exact absurd h h1; rfl
   by_cases h2 : b = true ∧ val.toList ≠ []
   · rw [if_pos (Or.inr h2)] at hx
     subst hx
     obtain ⟨rfl, h3⟩ := h2
     have h3' : val.toList.isEmpty = false := by cases h : val.toList; exact absurd h h3; rfl
     go_enter Tryz.func57, Tryz.ntmps57
     go_wp2
     go_ret
     exact ⟨rfl, (Chg.refl [] w).alloc _⟩
   · rw [if_neg (by simp [h1]; simpa using h2)] at hx
     have h2' : b = false ∨ (b = true ∧ val.toList.isEmpty = true) := by
      cases b
      · exact Or.inl rfl
      · refine Or.inr ⟨rfl, ?_⟩
        cases h : val.toList
        · rfl
        · exact absurd ⟨rfl, by rw [h]; simp⟩ h2
     clear h2
     by_cases h4 : 60 < key.size
     · rw [if_pos (Or.inl h4)] at hx
       subst hx
       have h4' : (60 : Int) < (key.size : Int) := by omega
       rcases h2' with rfl | ⟨rfl, h3'⟩
       all_goals
        go_enter Tryz.func57, Tryz.ntmps57
        go_wp2
        go_ret
        exact ⟨rfl, (Chg.refl [] w).alloc _⟩
     · have h4' : (key.size : Int) ≤ 60 := by omega
       by_cases h5 : 3000 < val.size
       · rw [if_pos (Or.inr h5)] at hx
         subst hx
         have h5' : (3000 : Int) < (val.size : Int) := by omega
         rcases h2' with rfl | ⟨rfl, h3'⟩
         all_goals
          go_enter Tryz.func57, Tryz.ntmps57
          go_wp2
          go_ret
          exact ⟨rfl, (Chg.refl [] w).alloc _⟩
       · rw [if_neg (by omega)] at hx
         subst hx
         have h5' : (val.size : Int) ≤ 3000 := by omega
         rcases h2' with rfl | ⟨rfl, h3'⟩
         all_goals
          go_enter Tryz.func57, Tryz.ntmps57
          go_wp2
          go_ret
          exact ⟨rfl, (Chg.refl [] w).alloc _⟩
end Go.Proofs.YtjlknaahpjiibaaGreatDoor.J
