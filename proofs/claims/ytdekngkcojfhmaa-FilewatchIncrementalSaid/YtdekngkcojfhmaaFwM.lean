/- maps.Keys, slices.Collect over strings (printed by gen_coll.py). -/
import Derived.Test.YtdekngkcojfhmaaFwL
namespace Go.Proofs.Ytdekngkcojfhmaa
open Go.RowKit Go.ChangeMaps Go.MapKept Go.Shelf
set_option linter.unusedVariables false
set_option linter.unusedSimpArgs false
def CollPost (es : List (ByteArray × Value)) (w : World) (e : Ending) (w' : World) : Prop :=
  ∃ (v : Value) (ks : List ByteArray), e = .returned v ∧ ks.Perm (es.map (·.1)) ∧ w'.ownsRow (w.heap.size + 1) 9 1 v ks.length (ks.map sk) ∧ Chg [] w w'
set_option maxHeartbeats 1000000 in
theorem mapsKeysI_any (b : Nat) (w : World) : Calls Try.prog 23 #[.map (some b)] w fun e w' =>
    e = .returned (.func (.func 31) #[] #[.pointer (some ⟨w.heap.size, 0, none⟩)]) ∧ w' = w.alloc (.cells #[.map (some b)] 51) := by
  have hmf : ∀ (fn : Fn) (first cap : Array Value) (w : World), (Instr.makeFunc fn first cap).run Try.prog w = .ok (.func fn first cap) w := fun _ _ _ _ => rfl
  go_enter Try.func23, Try.ntmps23
  go_wp2
  go_ret
  exact ⟨rfl, rfl⟩
theorem enterKeysI (args : Array Value) (w : World) : (callFunc 31 args).run Try.prog w = .ok (.enter 31 args) w := by go_simp
theorem appendKeysI_any (Bm b : Nat) (es : List (ByteArray × Value)) (hN : es.length ≤ 100000) (w : World) (hm : w.heap[Bm]? = some (.cells #[.map (some b)] 51 (0, 0))) (hmap : MapAt Try.prog 9 sk w b es) :
    Calls Try.prog 34 #[.slice none 0 0, .func (.func 31) #[] #[.pointer (some ⟨Bm, 0, none⟩)]] w (CollPost es w) := by
  have hca := (Chg.refl [] w).alloc (.cells #[.slice none 0 0] 35)
  exact callsIn_wide.1 (appendSeqS_in 3 _ _ enterKeysI (fun ks => ks.Perm (es.map (·.1))) es.length hN w (keysI_stops 3 Bm b es _ (Nat.lt_of_lt_of_le (lt_of_obj hm) hca.size) (cell_of_heap ((hca.block _ (lt_of_obj hm) (by simp)).trans hm) rfl) (hmap.of_block (hca.block _ hmap.lt (by simp)))))
set_option maxHeartbeats 1000000 in
theorem collectKeysI_any (Bm b : Nat) (es : List (ByteArray × Value)) (hN : es.length ≤ 100000) (w : World) (hm : w.heap[Bm]? = some (.cells #[.map (some b)] 51 (0, 0))) (hmap : MapAt Try.prog 9 sk w b es) :
    Calls Try.prog 29 #[.func (.func 31) #[] #[.pointer (some ⟨Bm, 0, none⟩)]] w (CollPost es w) := by
  have Hcall := Lib.hid (appendKeysI_any Bm b es hN w hm hmap)
  clear hm hmap
  go_enter Try.func29, Try.ntmps29
  go_wp2_with fail
  refine Hcall.out.mono ?_
  rintro e w' ⟨v, ks, rfl, h⟩
  go_wp2
  go_ret
  exact ⟨v, ks, rfl, h⟩
set_option maxHeartbeats 1000000 in
theorem mapsKeysE_any (b : Nat) (w : World) : Calls Try.prog 28 #[.map (some b)] w fun e w' =>
    e = .returned (.func (.func 33) #[] #[.pointer (some ⟨w.heap.size, 0, none⟩)]) ∧ w' = w.alloc (.cells #[.map (some b)] 61) := by
  have hmf : ∀ (fn : Fn) (first cap : Array Value) (w : World), (Instr.makeFunc fn first cap).run Try.prog w = .ok (.func fn first cap) w := fun _ _ _ _ => rfl
  go_enter Try.func28, Try.ntmps28
  go_wp2
  go_ret
  exact ⟨rfl, rfl⟩
theorem enterKeysE (args : Array Value) (w : World) : (callFunc 33 args).run Try.prog w = .ok (.enter 33 args) w := by go_simp
theorem appendKeysE_any (Bm b : Nat) (es : List (ByteArray × Value)) (hN : es.length ≤ 100000) (w : World) (hm : w.heap[Bm]? = some (.cells #[.map (some b)] 61 (0, 0))) (hmap : MapAt Try.prog 9 sk w b es) :
    Calls Try.prog 34 #[.slice none 0 0, .func (.func 33) #[] #[.pointer (some ⟨Bm, 0, none⟩)]] w (CollPost es w) := by
  have hca := (Chg.refl [] w).alloc (.cells #[.slice none 0 0] 35)
  exact callsIn_wide.1 (appendSeqS_in 3 _ _ enterKeysE (fun ks => ks.Perm (es.map (·.1))) es.length hN w (keysE_stops 3 Bm b es _ (Nat.lt_of_lt_of_le (lt_of_obj hm) hca.size) (cell_of_heap ((hca.block _ (lt_of_obj hm) (by simp)).trans hm) rfl) (hmap.of_block (hca.block _ hmap.lt (by simp)))))
set_option maxHeartbeats 1000000 in
theorem collectKeysE_any (Bm b : Nat) (es : List (ByteArray × Value)) (hN : es.length ≤ 100000) (w : World) (hm : w.heap[Bm]? = some (.cells #[.map (some b)] 61 (0, 0))) (hmap : MapAt Try.prog 9 sk w b es) :
    Calls Try.prog 29 #[.func (.func 33) #[] #[.pointer (some ⟨Bm, 0, none⟩)]] w (CollPost es w) := by
  have Hcall := Lib.hid (appendKeysE_any Bm b es hN w hm hmap)
  clear hm hmap
  go_enter Try.func29, Try.ntmps29
  go_wp2_with fail
  refine Hcall.out.mono ?_
  rintro e w' ⟨v, ks, rfl, h⟩
  go_wp2
  go_ret
  exact ⟨v, ks, rfl, h⟩
end Go.Proofs.Ytdekngkcojfhmaa
