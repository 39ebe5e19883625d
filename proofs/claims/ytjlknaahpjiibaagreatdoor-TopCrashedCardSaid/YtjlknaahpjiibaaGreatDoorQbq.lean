/- Part of the proof of topCrashedLaw_holds. -/
import Derived.Test.YtjlknaahpjiibaaGreatDoorQav
import Derived.Test.YtjlknaahpjiibaaGreatDoorQbm
namespace Go.Proofs.YtjlknaahpjiibaaGreatDoor.Fr
open Go.RowKit Go.ChangeMaps Go.MapKept
set_option linter.unusedVariables false
set_option linter.unusedSimpArgs false
theorem frame_le {b : ByteArray} (h : b.size ≤ 4000) : (frame b).length ≤ 4024 := by
 rw [frame_len]
 have := hdl_len h
 omega
theorem flat_le : ∀ (L : List ByteArray), (∀ b ∈ L, b.size ≤ 4000) → (flat L).length ≤ L.length * 4024
 | [], _ => by simp [flat]
 | b :: L, h => by
   have h1 := flat_le L (fun x hx => h x (by simp [hx]))
   have h2 := frame_le (h b (by simp))
   rw [flat_cons, List.length_append, List.length_cons]
   omega
def DcAt (w : World) (db : Nat) (s : ByteArray) : Prop := w.heap[db]? = some (.cells #[.string s, .bool false] 101 (0, 0))
theorem DcAt.c0 {w : World} {db : Nat} {s : ByteArray} (h : DcAt w db s) : w.cell? ⟨db, 0, none⟩ = some (.string s) := cell_of_heap h rfl
theorem DcAt.c1 {w : World} {db : Nat} {s : ByteArray} (h : DcAt w db s) : w.cell? ⟨db, 1, none⟩ = some (.bool false) := cell_of_heap h rfl
theorem DcAt.fz {w : World} {db : Nat} {s : ByteArray} (h : DcAt w db s) (i : Nat) : w.frozen? ⟨db, i, none⟩ = false := frozen_of_heap (i := i) h
theorem DcAt.kept {S : Nat → Prop} {w w' : World} {db : Nat} {s : ByteArray} (h : DcAt w db s) (hc : ChgP S w w') (hS : ¬ S db) : DcAt w' db s := (hc.block db (lt_of_obj h) hS).trans h
theorem DcAt.new {w w' : World} {db : Nat} {s : ByteArray} (h : DcAt w db s) (hc : Chg [] w w') : DcAt w' db s := h.kept (S := fun _ => False) hc.p (fun h => h)
theorem DcAt.set {w : World} {db : Nat} {s : ByteArray} (h : DcAt w db s) (t : ByteArray) : DcAt (w.setCell ⟨db, 0, none⟩ (.string t)) db t := by
 unfold DcAt at h ⊢
 rw [heap_setCell_same h]
 rfl
def WrPost (L : List ByteArray) (x : ByteArray) (db : Nat) (w : World) (e : Ending) (w' : World) : Prop :=
 ∃ (k q : Nat) (a : Option Addr) (cap : Nat), e = .returned (.tuple #[.slice a k cap, .int .i64 0]) ∧ k ≤ L.length ∧ q = (flat (L.take k)).length ∧ q ≤ x.size ∧ (∀ hk : k < L.length, x.size < q + (frame L[k]).length) ∧ OwnS w' w.heap.size (.slice a k cap) (L.take k) ∧ DcAt w' db (x.extract q x.size) ∧ Chg [db] w w'
set_option maxRecDepth 100000 in
set_option maxHeartbeats 8000000 in
theorem write_any (L : List ByteArray) (db : Nat) (buf x : ByteArray) (u : List UInt8) (w : World) (hL : L.length ≤ 100) (hb : ∀ b ∈ L, b.size ≤ 4000) (hx : (buf ++ x).data.toList ++ u = flat L) (hd : DcAt w db buf) (hM : ML w) :
 Calls Tryz.prog 44 #[.pointer (some ⟨db, 0, none⟩), .string x] w (WrPost L (buf ++ x) db w) := by
 have hsz : (buf ++ x).size ≤ 1000000 := by
  have h1 := flat_le L hb
  have h2 : L.length * 4024 ≤ 100 * 4024 := Nat.mul_le_mul_right _ hL
  have h3 := congrArg List.length hx
  have h4 : (buf ++ x).data.toList.length = (buf ++ x).size := rfl
  rw [List.length_append] at h3
  omega
 have hsp := split_any L (buf ++ x) u w hL hb hx hsz hM
 have c0 := hd.c0
 have c1 := hd.c1
 have lb := lt_of_cell c0
 have hcat : buf.size + x.size ≤ 1000000 := by
  have : (buf ++ x).size = buf.size + x.size := ByteArray.size_append
  omega
 have hcat2 : ¬ 9223372036854775807 < buf.size + x.size := by omega
 have Hs := Lib.hid hsp
 have HD := Lib.hid hd
 have Hz := Lib.hid (show (buf ++ x).size = buf.size + x.size from ByteArray.size_append)
 clear hsp hd hM hx hsz hcat
 go_enter Tryz.func44, Tryz.ntmps44
 go_wp2_with fail
 refine Hs.out.mono ?_
 rintro e w1 ⟨k, q, a, cap, rfl, hk, hq, hqs, hlt, ho, hc⟩
 have H1 := Lib.hid (And.intro ho (And.intro (HD.out.new hc) hc))
 have HK := Lib.hid (And.intro hk (And.intro hq (And.intro hqs hlt)))
 have c0 := H1.out.2.1.c0
 have f0 := H1.out.2.1.fz 0
 have lb := lt_of_cell c0
 have hqi : (q : Int) ≤ buf.size + x.size := by have := Hz.out; omega
 have hqn : (q : Int) ≤ (buf ++ x).size := by omega
 have hq0 : (0 : Int) ≤ q := by omega
 clear ho hc hk hq hqs hlt
 go_wp2_with fail
 go_ret2
 have hW : DcAt (w1.setCell ⟨db, 0, none⟩ (.string ((buf ++ x).extract q (buf.size + x.size)))) db ((buf ++ x).extract q (buf ++ x).size) := by
  rw [Hz.out]
  exact H1.out.2.1.set _
 have hdl := lt_of_obj HD.out
 have hcs : Chg [db] w1 (w1.setCell ⟨db, 0, none⟩ (.string ((buf ++ x).extract q (buf.size + x.size)))) := (Chg.refl [db] w1).setCell (Or.inl (by simp)) _
 refine ⟨k, q, a, cap, rfl, HK.out.1, HK.out.2.1, HK.out.2.2.1, HK.out.2.2.2, ?_, hW, (H1.out.2.2.mono (by simp)).trans hcs⟩
 exact H1.out.1.kept hcs.toP (fun g hg hm => by have := (ownsRow_ge H1.out.1 hg).1; have := List.mem_singleton.1 hm; omega)
set_option maxHeartbeats 4000000 in
theorem newDecoder_any (w : World) : Calls Tryz.prog 20 #[] w fun e w' => e = .returned (.pointer (some ⟨w.heap.size, 0, none⟩)) ∧ DcAt w' w.heap.size ⟨#[]⟩ ∧ Chg [] w w' := by
 go_enter Tryz.func20, Tryz.ntmps20
 go_wp2_with fail
 go_ret
 exact ⟨rfl, heap_at _ _ _ rfl, (Chg.refl _ _).alloc _⟩
end Go.Proofs.YtjlknaahpjiibaaGreatDoor.Fr
