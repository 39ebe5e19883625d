/- JournalCorruption: the walk. -/
import Derived.Test.YtjijkfehieokbaaJouJ
namespace Go.Proofs.Ytjijkfehieokbaa
open Go.RowKit
set_option linter.unusedVariables false
theorem appendL_cases (l : List UInt8) (r : Rec) : (∃ nl er, appendL l r = (nl, er) ∧ er ≠ 0) ∨ (appendL l r = (l ++ r.frame, 0) ∧ r.ok ∧ l.length + r.frame.length ≤ 40000) := by
  by_cases h : r.err ≠ 0
  · exact Or.inl ⟨[], r.err, by unfold appendL; rw [if_pos h], h⟩
  · by_cases h2 : 40000 < l.length + r.frame.length
    · exact Or.inl ⟨[], 2, by unfold appendL; rw [if_neg h, if_pos h2], by decide⟩
    · exact Or.inr ⟨by unfold appendL; rw [if_neg h, if_neg h2], Classical.not_not.1 h, by omega⟩
set_option maxRecDepth 100000 in
set_option maxHeartbeats 4000000 in
theorem corruption_any (w : World) (v : Value) (key val : ByteArray) (del : Bool) (x : Int) (b : UInt8) (rl : List Rec) (h : RecsAt w v rl) :
    Calls Try.prog 5 #[v, .agg #[.string key, .string val, .bool del], .int .i64 x, .int .u8 (b.toNat : Int)] w fun e w' => e = .returned (.bool true) ∧ Chg [] w w' := by
  go_enter Try.func5, Try.ntmps5
  go_wp2_with fail
  refine (journalExample_any _).mono ?_
  rintro e w1 ⟨rfl, c1⟩
  have cw1 : Chg [] w w1 := ((Chg.refl [] w).alloc _).new c1
  go_wp2_with fail
  refine (written_any _ v rl (h.same cw1)).mono ?_
  rintro e w2 ⟨c2, rs, vv, rfl, hown, hl12, hlen, hok⟩
  have hcl : ∀ j u, (#[Value.string key, .string val, .bool del] : Array Value).toList[j]? = some u → w2.cell? ((⟨w.heap.size, 0, none⟩ : Addr).add j) = some u := fun j u hu => by
    rw [(c1.trans c2).cell (by simp [Addr.add_lit]) (by simp)]
    exact news_of (heap_at _ _ _ rfl) j u hu
  have k0 := hcl 0 _ rfl
  have k1 := hcl 1 _ rfl
  have k2 := hcl 2 _ rfl
  simp only [Addr.add_lit, Nat.zero_add] at k0 k1 k2
  have hlz : w.heap.size < w2.heap.size := lt_of_cell k0
  have Hown := Lib.hid hown
  have Hok := Lib.hid hok
  clear hown hok hcl
  have hsz : (bs (logOf rs)).size = (logOf rs).length := bs_size _
  have hLn : (bs (logOf rs)).size ≤ 40000 := by omega
  have Hsz := Lib.hid hsz
  clear hsz
  have c12 := cw1.trans c2
  go_wp2_with fail
  refine (append_any _ ⟨key, val, del⟩ _ (by omega)).mono ?_
  rintro e w3 ⟨rfl, c3⟩
  rw [bs_data]
  have c13 := c12.trans c3
  rcases appendL_cases (logOf rs) ⟨key, val, del⟩ with ⟨nl, er, ha, hne⟩ | ⟨ha, hrok, htot⟩
  · rw [ha]
    have hnb : (er == 0) = false := by simpa using hne
    clear ha
    simp only
    go_wp2_with fail
    refine (journalExample_any _).mono ?_
    rintro e w4 ⟨rfl, c4⟩
    go_wp2
    go_ret
    exact ⟨rfl, c13.trans c4⟩
  · rw [ha]
    clear ha
    simp only
    by_cases hb : b = 0
    · subst hb
      go_wp2_with fail
      refine (journalExample_any _).mono ?_
      rintro e w4 ⟨rfl, c4⟩
      go_wp2
      go_ret
      exact ⟨rfl, c13.trans c4⟩
    · have hbn : b.toNat ≠ 0 := fun e => hb (by rw [← UInt8.toNat_inj]; exact e)
      have hbb : ((b.toNat : Int) == 0) = false := by simpa using hbn
      have hfl : (Rec.frame ⟨key, val, del⟩).length = (Rec.pay ⟨key, val, del⟩).length + 6 := frameL_length _
      have hpl := Rec.pay_length ⟨key, val, del⟩
      have hNz : (bs (logOf rs ++ Rec.frame ⟨key, val, del⟩)).size = (logOf rs).length + ((Rec.pay ⟨key, val, del⟩).length + 6) := by rw [bs_size, List.length_append, hfl]
      obtain ⟨L, hL⟩ : ∃ L, bs (logOf rs) = L := ⟨_, rfl⟩
      have HszL := Hsz.out
      obtain ⟨N, hN⟩ : ∃ N, bs (logOf rs ++ Rec.frame ⟨key, val, del⟩) = N := ⟨_, rfl⟩
      rw [hL] at HszL ⊢
      rw [hN] at hNz ⊢
      have hLN : L.size + 6 + 2 ≤ N.size := by omega
      have hNn : N.size ≤ 40000 := by omega
      have hpay : ((N.size : Int) - (L.size : Int) - 6) = ((Rec.pay ⟨key, val, del⟩).length : Int) := by omega
      have Hpay := Lib.hid hpay
      have HL := Lib.hid hL
      have HN := Lib.hid hN
      have HNz := Lib.hid hNz
      have HLz := Lib.hid HszL
      clear hfl hNz HszL hL hN hpay hpl
      go_wp2_with fail
      refine (mod_any x ((N.size : Int) - (L.size : Int) - 6) _ (by omega) (by omega)).mono ?_
      rintro e w2' ⟨rfl, rfl⟩
      obtain ⟨hm0, hm1⟩ := modI_bd x ((N.size : Int) - (L.size : Int) - 6) (by omega)
      obtain ⟨i, hi⟩ := Int.eq_ofNat_of_zero_le hm0
      rw [hi] at hm1 ⊢
      clear hi hm0
      have hip : i < (Rec.pay ⟨key, val, del⟩).length := by rw [Hpay.out] at hm1; omega
      obtain ⟨at', hat⟩ : ∃ at', at' = L.size + 6 + i := ⟨_, rfl⟩
      have hai : (L.size : Int) + 6 + (i : Int) = (at' : Int) := by omega
      have hatN : at' < N.size := by omega
      have hatN' : (at' : Int) < (N.size : Int) := by omega
      have hatN1 : (at' : Int) + 1 ≤ (N.size : Int) := by omega
      have Hat := Lib.hid hat
      clear hat
      have hx : bits .xor .u8 (N[at'].toNat : Int) (b.toNat : Int) = ((N[at'].toNat ^^^ b.toNat : Nat) : Int) := u8_xor_nat _ _ (UInt8.toNat_lt _) (UInt8.toNat_lt _)
      have hcv : (convert 38 9 (.slice (some ⟨w3.heap.size, 0, none⟩) 1 1)).run Try.prog ((w3.alloc (.cells #[.int .u8 ((N[at'].toNat ^^^ b.toNat : Nat) : Int)] 5)).drew) = .ok (.string (bs [N[at'] ^^^ b])) ((w3.alloc (.cells #[.int .u8 ((N[at'].toNat ^^^ b.toNat : Nat) : Int)] 5)).drew) := by
        have hh : ((w3.alloc (.cells #[.int .u8 ((N[at'].toNat ^^^ b.toNat : Nat) : Int)] 5)).drew).heap[w3.heap.size]? = some (.cells #[.int .u8 ((N[at'].toNat ^^^ b.toNat : Nat) : Int)] 5) := heap_at _ _ _ rfl
        refine conv_bytes _ _ 1 [N[at'] ^^^ b] (0, 0) _ hh ?_
        simp only [List.map_cons, List.map_nil, UInt8.toNat_xor]
      have hz1 : (bs [N[at'] ^^^ b]).size = 1 := bs_size _
      go_wp2_with fail
      go_region
      go_wp2_with fail
      have hz2 : (bs [N[at'] ^^^ b]).data.toList = [N[at'] ^^^ b] := bs_data _
      have hNl : N.data.toList = logOf rs ++ Rec.frame ⟨key, val, del⟩ := by rw [← HN.out, bs_data]
      have hge : (logOf rs ++ Rec.frame ⟨key, val, del⟩).getD at' 0 = N[at'] := by
        rw [← hNl, List.getD_eq_getElem?_getD, List.getElem?_eq_getElem (by rw [Array.length_toList]; exact hatN)]
        rfl
      have hD : (N.extract 0 at' ++ bs [N[at'] ^^^ b] ++ N.extract (at' + 1) N.size).data.toList = (logOf rs ++ Rec.frame ⟨key, val, del⟩).take at' ++ ((logOf rs ++ Rec.frame ⟨key, val, del⟩).getD at' 0 ^^^ b) :: (logOf rs ++ Rec.frame ⟨key, val, del⟩).drop (at' + 1) := by
        rw [append_bs, append_bs, hz2, Lib.extract_data, Lib.extract_data, hNl, hge, List.drop_zero, Nat.sub_zero, List.append_assoc, List.take_of_length_le (l := List.drop (at' + 1) _) (by rw [List.length_drop, ← hNl, Array.length_toList]; exact Nat.le_refl _)]
        rfl
      have hsc := corrupt_scan rs ⟨key, val, del⟩ Hok.out hrok i hip b hb at' (by rw [Hat.out, HLz.out])
      have hDz : (N.extract 0 at' ++ bs [N[at'] ^^^ b] ++ N.extract (at' + 1) N.size).size ≤ 40000 := by
        rw [ByteArray.size_append, ByteArray.size_append, hz1]
        simp
        omega
      rw [← hD] at hsc
      have htk : (N.extract 0 at' ++ bs [N[at'] ^^^ b] ++ N.extract (at' + 1) N.size).data.toList.take (logOf rs).length = logOf rs := by
        have hle : (logOf rs).length ≤ at' := by rw [← HLz.out, Hat.out]; omega
        rw [hD, List.take_append_of_le_length (by rw [List.length_take, ← hNl, Array.length_toList]; exact Nat.le_min.2 ⟨hle, Nat.le_trans hle (Nat.le_of_lt hatN)⟩), List.take_take, Nat.min_eq_left hle, List.take_left]
      clear hD
      obtain ⟨D, hDe⟩ : ∃ D, N.extract 0 at' ++ bs [N[at'] ^^^ b] ++ N.extract (at' + 1) N.size = D := ⟨_, rfl⟩
      rw [hDe] at hsc hDz htk ⊢
      have Hsc := Lib.hid hsc
      have Htk := Lib.hid htk
      clear hDe hsc htk hge hNl hz2 hz1 hx hcv
      refine (read_any D _ hDz).mono ?_
      rintro e w4 ⟨c4, v4, rs4, n4, rfl, hown4, hrd⟩
      rw [Hsc.out]
      clear hrd hown4
      simp only
      have c14 := ((c13.alloc _).drew).trans c4
      go_wp2_with fail
      refine (recover_any D _ hDz).mono ?_
      rintro e w5 ⟨c5, v5, rfl, hown5⟩
      rw [Hsc.out] at hown5 ⊢
      simp only at hown5 ⊢
      rw [Htk.out, HL.out]
      have r5 := Lib.hid hown5.recs
      have rv := Lib.hid (((Hown.out.same c3).same (((Chg.refl [] w3).alloc _).drew)).same (c4.trans c5)).recs
      clear hown5
      go_wp2_with fail
      refine (journalExample_any _).mono ?_
      rintro e w6 ⟨rfl, c6⟩
      go_wp2_with fail
      refine (recsEqual_any _ _ _ rs (r5.out.same c6) (rv.out.same c6)).mono ?_
      rintro e w7 ⟨rfl, c7⟩
      go_wp2
      go_ret
      exact ⟨rfl, ((c14.trans c5).trans c6).trans c7⟩
end Go.Proofs.Ytjijkfehieokbaa
