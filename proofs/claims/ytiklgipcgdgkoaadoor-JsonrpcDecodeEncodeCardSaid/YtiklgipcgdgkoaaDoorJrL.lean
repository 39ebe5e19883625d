/- Protocol messages: rows of names and of values, read. -/
import Derived.Test.YtiklgipcgdgkoaaDoorJrC
namespace Go.Proofs.YtiklgipcgdgkoaaDoor.Jv
open Go.RowKit Go.ChangeMaps Go.MapKept
set_option linter.unusedVariables false
set_option linter.unusedSimpArgs false
section
variable {W : World} {B n : Nat} {T : TypeId}
theorem nms_1 {a : ByteArray} (h : W.heap[n]? = some (.cells #[.string a] T (0, 0))) (hB : B ≤ n) (ha : a.size ≤ maxLen) : SlR (fun g => B ≤ g ∧ g < W.heap.size) 1 rdS W (.slice (some ⟨n, 0, none⟩) 1 1) [a] :=
  ⟨_, 1, rfl, Nat.le_refl _, by decide, fun _ => ⟨n, 0, rfl, ⟨hB, lt_of_obj h⟩, fun j hj => match j, hj with
    | 0, _ => ⟨cell_of_heap h rfl, ha⟩⟩⟩
theorem nms_2 {a b : ByteArray} (h : W.heap[n]? = some (.cells #[.string a, .string b] T (0, 0))) (hB : B ≤ n) (ha : a.size ≤ maxLen) (hb : b.size ≤ maxLen) : SlR (fun g => B ≤ g ∧ g < W.heap.size) 1 rdS W (.slice (some ⟨n, 0, none⟩) 2 2) [a, b] :=
  ⟨_, 2, rfl, Nat.le_refl _, by decide, fun _ => ⟨n, 0, rfl, ⟨hB, lt_of_obj h⟩, fun j hj => match j, hj with
    | 0, _ => ⟨cell_of_heap h rfl, ha⟩
    | 1, _ => ⟨cell_of_heap h rfl, hb⟩⟩⟩
theorem nms_3 {a b c : ByteArray} (h : W.heap[n]? = some (.cells #[.string a, .string b, .string c] T (0, 0))) (hB : B ≤ n) (ha : a.size ≤ maxLen) (hb : b.size ≤ maxLen) (hc : c.size ≤ maxLen) : SlR (fun g => B ≤ g ∧ g < W.heap.size) 1 rdS W (.slice (some ⟨n, 0, none⟩) 3 3) [a, b, c] :=
  ⟨_, 3, rfl, Nat.le_refl _, by decide, fun _ => ⟨n, 0, rfl, ⟨hB, lt_of_obj h⟩, fun j hj => match j, hj with
    | 0, _ => ⟨cell_of_heap h rfl, ha⟩
    | 1, _ => ⟨cell_of_heap h rfl, hb⟩
    | 2, _ => ⟨cell_of_heap h rfl, hc⟩⟩⟩
theorem rd_leaf {p : Nat → Prop} {f o : Nat} {k x : Int} {s : ByteArray} (h0 : W.cell? ⟨n, o, none⟩ = some (.int .i64 k)) (h1 : W.cell? ⟨n, o + 1, none⟩ = some (.int .i64 x)) (h2 : W.cell? ⟨n, o + 2, none⟩ = some (.string s)) (h3 : W.cell? ⟨n, o + 3, none⟩ = some (.slice none 0 0)) (h4 : W.cell? ⟨n, o + 4, none⟩ = some (.slice none 0 0)) (hs : s.size ≤ maxLen) : rdJ p (f + 1) W ⟨n, o, none⟩ (.mk k x s [] []) :=
  ⟨h0, h1, ⟨h2, hs⟩, _, _, h3, h4, SlR.nil _ _ _ _, SlR.nil _ _ _ _⟩
theorem rd_obj {p : Nat → Prop} {f o : Nat} {nv iv : Value} {ns : List ByteArray} {es : List J} (h0 : W.cell? ⟨n, o, none⟩ = some (.int .i64 5)) (h1 : W.cell? ⟨n, o + 1, none⟩ = some (.int .i64 0)) (h2 : W.cell? ⟨n, o + 2, none⟩ = some (.string ⟨#[]⟩)) (h3 : W.cell? ⟨n, o + 3, none⟩ = some nv) (h4 : W.cell? ⟨n, o + 4, none⟩ = some iv) (hn : SlR p 1 rdS W nv ns) (hi : SlR p 5 (rdJ p f) W iv es) : rdJ p (f + 1) W ⟨n, o, none⟩ (.mk 5 0 ⟨#[]⟩ ns es) :=
  ⟨h0, h1, ⟨h2, show (ByteArray.mk #[]).size ≤ maxLen by decide⟩, _, _, h3, h4, hn, hi⟩
theorem els_1 {f : Nat} {a : J} (hl : n < W.heap.size) (hB : B ≤ n) (ha : rdJ (fun g => B ≤ g ∧ g < W.heap.size) f W ⟨n, 0, none⟩ a) : SlR (fun g => B ≤ g ∧ g < W.heap.size) 5 (rdJ (fun g => B ≤ g ∧ g < W.heap.size) f) W (.slice (some ⟨n, 0, none⟩) 1 1) [a] :=
  ⟨_, 1, rfl, Nat.le_refl _, by decide, fun _ => ⟨n, 0, rfl, ⟨hB, hl⟩, fun j hj => match j, hj with
    | 0, _ => ha⟩⟩
theorem els_2 {f : Nat} {a b : J} (hl : n < W.heap.size) (hB : B ≤ n) (ha : rdJ (fun g => B ≤ g ∧ g < W.heap.size) f W ⟨n, 0, none⟩ a) (hb : rdJ (fun g => B ≤ g ∧ g < W.heap.size) f W ⟨n, 5, none⟩ b) : SlR (fun g => B ≤ g ∧ g < W.heap.size) 5 (rdJ (fun g => B ≤ g ∧ g < W.heap.size) f) W (.slice (some ⟨n, 0, none⟩) 2 2) [a, b] :=
  ⟨_, 2, rfl, Nat.le_refl _, by decide, fun _ => ⟨n, 0, rfl, ⟨hB, hl⟩, fun j hj => match j, hj with
    | 0, _ => ha
    | 1, _ => hb⟩⟩
theorem els_3 {f : Nat} {a b c : J} (hl : n < W.heap.size) (hB : B ≤ n) (ha : rdJ (fun g => B ≤ g ∧ g < W.heap.size) f W ⟨n, 0, none⟩ a) (hb : rdJ (fun g => B ≤ g ∧ g < W.heap.size) f W ⟨n, 5, none⟩ b) (hc : rdJ (fun g => B ≤ g ∧ g < W.heap.size) f W ⟨n, 10, none⟩ c) : SlR (fun g => B ≤ g ∧ g < W.heap.size) 5 (rdJ (fun g => B ≤ g ∧ g < W.heap.size) f) W (.slice (some ⟨n, 0, none⟩) 3 3) [a, b, c] :=
  ⟨_, 3, rfl, Nat.le_refl _, by decide, fun _ => ⟨n, 0, rfl, ⟨hB, hl⟩, fun j hj => match j, hj with
    | 0, _ => ha
    | 1, _ => hb
    | 2, _ => hc⟩⟩
end
end Go.Proofs.YtiklgipcgdgkoaaDoor.Jv
