/- FramingChunks' walk. -/
import Derived.Test.YtjcalbjblbbinaaDoorFrG
namespace Go.Proofs.YtjcalbjblbbinaaDoor
open Go.RowKit Go.ChangeMaps Go.MapKept
set_option linter.unusedVariables false
set_option linter.unusedSimpArgs false
/-- what the loop keeps -/
structure CI (F : List ByteArray) (db k : Nat) (a : Option Addr) (cap : Nat) (buf rest : ByteArray) (w wr : World) : Prop where
  own : OwnS wr (db + 1) (.slice a k cap) (F.take k)
  dc : DcAt wr db buf
  chg : Chg [] w wr
  txt : buf.data.toList ++ rest.data.toList = flat (F.drop k)
  k : k ≤ F.length
  hdb : w.heap.size ≤ db
theorem CI.new {F : List ByteArray} {db k : Nat} {a : Option Addr} {cap : Nat} {buf rest : ByteArray} {w wr w' : World} (h : CI F db k a cap buf rest w wr) (hc : Chg [] wr w') : CI F db k a cap buf rest w w' :=
  ⟨h.own.same hc, h.dc.new hc, h.chg.trans hc, h.txt, h.k, h.hdb⟩
theorem CI.room {F : List ByteArray} {db k : Nat} {a : Option Addr} {cap : Nat} {buf rest : ByteArray} {w wr : World} (h : CI F db k a cap buf rest w wr) : buf.size + rest.size ≤ (flB F).size := by
  have h1 := congrArg List.length h.txt
  have h2 : buf.data.toList.length = buf.size := rfl
  have h3 : rest.data.toList.length = rest.size := rfl
  have h4 := congrArg (fun l => (flat l).length) (List.take_append_drop k F)
  simp only [flat_app, List.length_append] at h4
  rw [List.length_append] at h1
  rw [flB_size]
  omega
/-- one write -/
theorem CI.write {F : List ByteArray} {db k : Nat} {a : Option Addr} {cap : Nat} {buf rest : ByteArray} {w wr : World} (h : CI F db k a cap buf rest w wr) (hF : F.length ≤ 100) (hb : ∀ b ∈ F, b.size ≤ 4000) (hM : ML wr) (n : Nat) (hn : n ≤ rest.size) :
    Calls Tryd.prog 13 #[.pointer (some ⟨db, 0, none⟩), .string (rest.extract 0 n)] wr fun e w' => ∃ (j : Nat) (b : ByteArray) (a2 : Option Addr) (c2 : Nat), e = .returned (.tuple #[.slice a2 j c2, .int .i64 0]) ∧ OwnS w' wr.heap.size (.slice a2 j c2) ((F.drop k).take j) ∧ j ≤ F.length - k ∧ (n = rest.size → j = F.length - k ∧ b = ⟨#[]⟩) ∧
      OwnS w' (db + 1) (.slice a k cap) (F.take k) ∧ DcAt w' db b ∧ Chg [] w w' ∧ b.data.toList ++ (rest.extract n rest.size).data.toList = flat (F.drop (k + j)) := by
  have hx : (buf ++ rest.extract 0 n).data.toList ++ rest.data.toList.drop n = flat (F.drop k) := by
    rw [ByteArray.data_append, Array.toList_append, ext_mid, List.drop_zero, Nat.sub_zero, List.append_assoc, List.take_append_drop]
    exact h.txt
  refine (write_any (F.drop k) db buf (rest.extract 0 n) (rest.data.toList.drop n) wr (by rw [List.length_drop]; omega) (fun b hm => hb b (List.mem_of_mem_drop hm)) hx h.dc hM).mono ?_
  rintro e w' ⟨j, q, a2, c2, rfl, hj, hq, hqs, hlt, ho, hd, hc⟩
  rw [List.length_drop] at hj
  have hrest : ((buf ++ rest.extract 0 n).extract q (buf ++ rest.extract 0 n).size).data.toList ++ (rest.extract n rest.size).data.toList = flat (F.drop (k + j)) := by
    rw [ext_drop, ext_drop]
    have h1 : flat (F.drop k) = flat ((F.drop k).take j) ++ flat (F.drop (k + j)) := by
      rw [← flat_app, ← List.drop_drop, List.take_append_drop]
    have h2 := congrArg (List.drop q) hx
    have h3 : (buf ++ rest.extract 0 n).data.toList.length = (buf ++ rest.extract 0 n).size := rfl
    rw [List.drop_append_of_le_length (by omega), h1, hq, List.drop_left] at h2
    rw [← hq] at h2
    exact h2
  have hdl := lt_of_obj h.dc
  have hne : ∀ g, (Value.slice a k cap).ownBlock = some g → ¬ g ∈ [db] := fun g hg hm => by have := (ownsRow_ge h.own hg).1; have := List.mem_singleton.1 hm; omega
  refine ⟨j, _, a2, c2, rfl, ho, hj, fun hnn => ?_, h.own.kept hc.toP hne, hd, h.chg.comp hc fun g hg => Or.inr (by have := h.hdb; have := List.mem_singleton.1 hg; omega), hrest⟩
  subst hnn
  have hx2 : (buf ++ rest.extract 0 rest.size).data.toList = flat (F.drop k) := by
    rw [← hx, List.drop_of_length_le (by exact Nat.le_refl _), List.append_nil]
  have hzz : (buf ++ rest.extract 0 rest.size).size = (flat (F.drop k)).length := by
    rw [← hx2]
    rfl
  have hjk : j = F.length - k := by
    by_cases hh : j < (F.drop k).length
    · have h1 := hlt hh
      have h2 := flat_len hh
      have h3 := flat_take_le (F.drop k) (j + 1)
      omega
    · rw [List.length_drop] at hh
      omega
  refine ⟨hjk, ba_ext ?_⟩
  rw [ext_drop, hx2, hq, hjk, List.take_of_length_le (by rw [List.length_drop]; exact Nat.le_refl _), List.drop_length]
/-- one write, what it gave appended -/
theorem CI.push {F : List ByteArray} {db k j : Nat} {a a2 : Option Addr} {cap c2 B2 : Nat} {b rest' : ByteArray} {w w' : World} (ho : OwnS w' (db + 1) (.slice a k cap) (F.take k)) (hd : DcAt w' db b) (hc : Chg [] w w') (ht : b.data.toList ++ rest'.data.toList = flat (F.drop (k + j))) (hk : k ≤ F.length) (hj : j ≤ F.length - k) (hF : F.length ≤ 100) (hdb : w.heap.size ≤ db) (h2 : OwnS w' B2 (.slice a2 j c2) ((F.drop k).take j)) :
    ∃ a3 c3 w3, (Builtin.append_ #[22, 22] 22 #[.slice a k cap, .slice a2 j c2]).run Tryd.prog w' = .ok (.slice a3 (k + j) c3) w3 ∧ CI F db (k + j) a3 c3 b rest' w w3 := by
  have hdl := lt_of_obj hd
  obtain ⟨v3, w3, hr, ho3, hc3⟩ := run_append_strs w' 22 (db + 1) _ (.slice a k cap) (.slice a2 j c2) (F.take k) ((F.drop k).take j) ho h2.strs (by rw [List.length_take, List.length_take, List.length_drop]; omega) hdl
  have htk : F.take k ++ (F.drop k).take j = F.take (k + j) := by rw [List.take_add]
  rw [htk] at ho3
  have hsh := ownsRow_shape ho3
  rw [List.length_take, Nat.min_eq_left (by omega)] at hsh
  obtain ⟨a3, c3, rfl⟩ := hsh
  have hown : ∀ g, g ∈ (Value.slice a k cap).ownBlock.toList → db + 1 ≤ g := fun g hg => (ownsRow_ge ho (g := g) (by simpa using hg)).1
  exact ⟨a3, c3, w3, hr, ho3, hd.kept hc3.toP (fun hm => by have := hown _ hm; omega), hc.comp hc3 (fun g hg => Or.inr (by have := hown _ hg; omega)), ht, by omega, hdb⟩
end Go.Proofs.YtjcalbjblbbinaaDoor
