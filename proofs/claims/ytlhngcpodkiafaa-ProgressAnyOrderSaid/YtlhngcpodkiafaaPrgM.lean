/- The assembler's Result, where all chunks have come. -/
import Derived.Test.YtlhngcpodkiafaaPrgL
import Derived.Laws.AppendOwnNone
namespace Go.Proofs.Ytlhngcpodkiafaa
open Go.RowKit Go.ChangeMaps
set_option linter.unusedVariables false
/-- the ints of the first k chunks -/
def catTo (cs : Nat → CQ) (k : Nat) : List Int := (List.range k).flatMap fun q => (cs q).xs
theorem catTo_succ (cs : Nat → CQ) (k : Nat) : catTo cs (k + 1) = catTo cs k ++ (cs k).xs := by simp [catTo, List.range_succ]
theorem run_items (a b c : Value) (x : Option Addr) (y z : Nat) (w : World) : (Instr.field 39 (.agg #[a, b, c, .slice x y z]) 3).run Try.prog w = .ok (.slice x y z) w := by kernel_rfl
def ResPost (xs : List Int) (w : World) (e : Ending) (w' : World) : Prop := ∃ v, e = .returned (.tuple #[v, .bool true]) ∧ Ints w' v xs ∧ Chg [] w w'
set_option maxRecDepth 100000 in
set_option maxHeartbeats 2000000 in
theorem result_yes (pa bo bi : Nat) (tok : Int) (es : List CE) (n : Nat) (cs : Nat → CQ) (w : World) (h : AsAt w pa bo tok (some (bi, es))) (ht : In64 tok) (hq : ∀ p ∈ es, 0 ≤ p.1 ∧ p.1 < 1000) (hn : es.length = n) (hn0 : 1 ≤ n) (hn1 : n ≤ 1000)
    (hF : ∀ f l, Bd es f l → f + 1 = n) (hcs : ∀ q, q < n → aget es (q : Int) = some (cs q)) (hlen : ∀ k, k ≤ n → (catTo cs k).length ≤ 1000) :
    Calls Try.prog 10 #[.pointer (some ⟨pa, 0, none⟩), .int .i64 tok] w (ResPost (catTo cs n) w) := by
  obtain ⟨i0, hi, hz0, hz1, hz2⟩ := info_parts Try.infoInt
  have Hi := Lib.hid hi
  have Hz0 := Lib.hid hz0
  have Hz1 := Lib.hid hz1
  have Hz2 := Lib.hid hz2
  have H := Lib.hid h
  have HF := Lib.hid hF
  have Hq := Lib.hid hq
  have Hcs := Lib.hid hcs
  have Hlen := Lib.hid hlen
  have Hn := Lib.hid hn
  clear h hF hq hi hz0 hz1 hz2 hcs hlen hn
  go_enter Try.func10, Try.ntmps10
  go_wp2_with fail
  refine (bounds_any pa bo tok _ w H.out ht Hq.out).mono ?_
  rintro e w1 ⟨f, l, rfl, hbd, hc⟩
  have hfn := HF.out f l hbd
  have Hc := Lib.hid hc
  have h1 := H.out.same hc
  have c0 : w1.cell? ⟨pa, 0, none⟩ = some (.map (some bo)) := cell_of_heap h1.blk rfl
  have hl := h1.look ht
  simp only [stv] at hl
  have hlen := h1.2.2.1.len Try.underlying53 3
  have hle : (cvals tok es).length = n := by rw [← Hn.out]; simp [cvals]
  rw [hle] at hlen
  have hf0 : 0 ≤ f := by
    omega
  obtain ⟨m, rfl⟩ : ∃ m : Nat, f = m := ⟨f.toNat, by omega⟩
  obtain rfl : n = m + 1 := by omega
  clear hbd h1 hle hfn hf0 hc
  go_wp2
  go_loopw [8, 32] (fun v i wr => ∃ k : Nat, k ≤ m + 1 ∧ i = .int .i64 (k : Nat) ∧ wr.ownsRow w.heap.size 3 1 v (catTo cs k).length ((catTo cs k).map (Value.int .i64)) ∧ Chg [] w wr) (fun _ i _ => m + 1 - (intOf i).toNat)
  case atStart => exact ⟨0, by omega, rfl, World.ownsRow_nil _ _ _ _, Hc.out⟩
  case round =>
    obtain ⟨k, hk, rfl, hown, hch⟩ := hrel
    clear hl hlen c0
    by_cases hlt : k < m + 1
    · have h2 := H.out.same hch
      have c1 : wr.cell? ⟨pa, 0, none⟩ = some (.map (some bo)) := cell_of_heap h2.blk rfl
      have l1 := h2.look ht
      simp only [stv] at l1
      have l2 := h2.look2 (q := (k : Int)) ⟨by omega, by omega⟩ false
      rw [Hcs.out k hlt] at l2
      simp only [Option.map_some, Option.getD_some, Bool.false_eq_true, if_false] at l2
      have hck := (h2.2.2.2.2 _ (aget_mem (Hcs.out k hlt)))
      have hsucc := catTo_succ cs k
      have hb1 := Hlen.out (k + 1) (by omega)
      have hb0 := Hlen.out k hk
      rw [hsucc, List.length_append] at hb1
      obtain ⟨⟨cl, ca, cc, cx⟩, hce⟩ : ∃ c, cs k = c := ⟨_, rfl⟩
      rw [hce] at l2 hck hsucc hb1
      unfold CQ.val at l2
      simp only at l2 hck hsucc hb1
      have Hsucc := Lib.hid hsucc
      have Hown := Lib.hid hown
      have Hch := Lib.hid hch
      have Hck := Lib.hid hck
      have hws : w.heap.size ≤ wr.heap.size := hch.size
      obtain ⟨cat, hcat⟩ : ∃ l, catTo cs k = l := ⟨_, rfl⟩
      rw [hcat] at Hown Hsucc hb0 hb1
      clear hce hown hch hck hsucc h2 hcat
      cases ca with
      | none =>
        obtain ⟨hx1, hx⟩ : Value.slice none cx.length cc = .slice none 0 0 ∧ cx = [] := by
          rcases Hck.out.cells with ⟨h1, h⟩ | ⟨g, off, cap, h, _⟩
          · exact ⟨h1, h⟩
          · cases h
        subst hx
        obtain rfl : cc = 0 := by simpa using hx1
        clear hx1
        have hfd := run_items
        go_wp2_with (at_builtin; refine wpList_append_own_none rfl _ _ 22 rfl w.heap.size 3 i0 1 Try.underlying22 Hi.out _ _ _ rfl Hown.out rfl ?_)
        go_roundw
        case rel => exact ⟨k + 1, by omega, by go_num, by rw [Hsucc.out]; simpa using Hown.out, Hch.out⟩
        case measure => simp [intOf]; omega
      | some ad =>
        obtain ⟨g, off, cap, he, _, hcc⟩ := Hck.out.cells.resolve_left (by simp)
        simp only [Value.slice.injEq, Option.some.injEq] at he
        obtain ⟨rfl, _, rfl⟩ := he
        have hnews : ∀ j u, (cx.map (Value.int .i64))[j]? = some u → wr.cell? ((⟨g, off, none⟩ : Addr).add j) = some u := by
          intro j u hu
          obtain ⟨hj, rfl⟩ := List.getElem?_eq_some_iff.1 hu
          have hj' : j < cx.length := by simpa using hj
          rw [Addr.add_lit, hcc j hj']
          simp [List.getElem?_eq_getElem hj']
        have Hnews := Lib.hid hnews
        clear hcc hnews
        have hfd := run_items
        go_wp2_with (at_builtin; refine wpList_append_own _ rfl _ _ 22 rfl w.heap.size 3 i0 (.int .i64 0) 1 8 Try.underlying22 Hi.out Hz0.out Hz1.out Hz2.out rfl (by decide) _ _ _ rfl Hown.out ⟨g, off, none⟩ cx.length cc (cx.map (Value.int .i64)) rfl (by simp) Hnews.out (by simp [Value.oneCell']) (by unfold maxLen; omega) (by omega) hws ?_; intro v8 w8 hown8 hgr8 hnil8; have Hown8 := Lib.hid hown8; have Hgr8 := Lib.hid hgr8; clear hown8 hgr8 hnil8)
        go_roundw
        case rel => exact ⟨k + 1, by omega, by go_num, by rw [Hsucc.out, List.length_append, List.map_append]; exact Hown8.out, Hch.out.grown Hgr8.out (fun g hg => Or.inr (Hown.out.lt g hg).1)⟩
        case measure => simp [intOf]; omega
    · obtain rfl : k = m + 1 := by omega
      have hfin : ResPost (catTo cs (m + 1)) w (.returned (.tuple #[u8, .bool true])) wr := ⟨_, rfl, ints_of_row hown rfl, hch⟩
      have Hfin := Lib.hid hfin
      clear hfin hown hch
      go_wp2
      go_ret2
      exact Hfin.out
end Go.Proofs.Ytlhngcpodkiafaa
