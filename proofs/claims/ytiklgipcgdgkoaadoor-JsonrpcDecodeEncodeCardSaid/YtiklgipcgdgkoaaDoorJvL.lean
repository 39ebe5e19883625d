/- JSON values: strings.Builder, a byte written; the text of a value, plain. -/
import Derived.Test.YtiklgipcgdgkoaaDoorJvK
import Derived.Test.YtiklgipcgdgkoaaDoorBld
import Derived.Test.YtiklgipcgdgkoaaDoorJvShelf2
namespace Go.Proofs.YtiklgipcgdgkoaaDoor.Jv
open Go.RowKit Go.ChangeMaps Go.MapKept
set_option linter.unusedVariables false
set_option linter.unusedSimpArgs false
theorem bset_trans {B b : Nat} {w w1 w2 : World} (h : ChgP (bldSet B b w) w w1) (h' : ChgP (bldSet B b w1) w1 w2) : ChgP (bldSet B b w) w w2 := by
  refine ⟨h'.os.trans h.os, h'.tape.trans h.tape, h'.output.trans h.output, Nat.le_trans h.size h'.size, fun k hk hn => ?_⟩
  have h1 := h.block k hk hn
  refine (h'.block k (Nat.lt_of_lt_of_le hk h.size) fun hs => hn ⟨hs.1, hs.2.imp id fun hne he => hne fun c fr hc => he c fr (by rw [← h1]; exact hc)⟩).trans h1
theorem bset_new {B b : Nat} {w w1 w2 : World} (h : ChgP (bldSet B b w) w w1) (h' : Chg [] w1 w2) : ChgP (bldSet B b w) w w2 := bset_trans h h'.p
theorem bset_pre {B b : Nat} {w w1 w2 : World} (h : Chg [] w w1) (h' : ChgP (bldSet B b w1) w1 w2) : ChgP (bldSet B b w) w w2 := bset_trans h.p h'
/-- blocks that a builder's writes leave alone -/
theorem bset_below {B b : Nat} {w : World} {k : Nat} (h : k < B) : ¬ bldSet B b w k := fun hs => by have := hs.1; omega
theorem bset_box {B b : Nat} {w : World} {k : Nat} {c : Array Value} (h : w.heap[k]? = some (.cells c 25 (0, 0))) (hk : k ≠ b) : ¬ bldSet B b w k := fun hs => by
  rcases hs.2 with h' | h'
  · exact hk h'
  · exact h' fun c' fr hc => by rw [h] at hc; cases hc
set_option maxHeartbeats 2000000 in
set_option maxRecDepth 1000000 in
theorem writeByte_any (B b : Nat) (bs : List Value) (c : Int) (w : World) (h : IsBld B b bs w) (hlen : bs.length + 1 ≤ 140737488355328) (hBw : B ≤ w.heap.size) :
    Calls Tryd.prog 82 #[.pointer (some ⟨b, 0, none⟩), .int .u8 c] w fun e w' => e = .returned .nilIface ∧ (IsBld B b (bs ++ [.int .u8 c]) w' ∧ ChgP (bldSet B b w) w w') := by
  obtain ⟨i0, hi, hz0, hz1, hz2⟩ := info_parts Tryd.byteInfo
  go_enter Tryd.func82, Tryd.ntmps82
  go_wp2_with fail
  refine (copyCheck_any B b bs _ h).mono ?_
  rintro e w1 ⟨rfl, h1, hb1⟩
  obtain ⟨hB, v, hbk, hown, hne⟩ := h1
  have c0 : w1.cell? ⟨b, 0, none⟩ = some (.pointer (some ⟨b, 0, none⟩)) := by rw [Lib.cell_of_heap hbk]; rfl
  have c1 : w1.cell? ⟨b, 1, none⟩ = some v := by rw [Lib.cell_of_heap hbk]; rfl
  obtain ⟨wx, hwx⟩ : ∃ x, x = w1.alloc (.cells #[.int .u8 c] 5) := ⟨_, rfl⟩
  have hcx : Chg [] w1 wx := by rw [hwx]; exact (Chg.refl _ _).alloc _
  have hnews : ∀ j u, ([.int .u8 c] : List Value)[j]? = some u → wx.cell? ((⟨w1.heap.size, 0, none⟩ : Addr).add j) = some u := by
    intro j u hj
    rw [Addr.add_lit, Nat.zero_add]
    have hx : wx.heap[w1.heap.size]? = some (.cells #[.int .u8 c] 5 (0, 0)) := by rw [hwx]; exact heap_at _ _ _ rfl
    refine cell_of_heap hx ?_
    match j with
    | 0 => simpa using hj
    | j + 1 => simp at hj
  have hownx : wx.ownsRow B 5 1 v bs.length bs := ownsRow_kept hown fun g hg hl => hcx.block g hl (by simp)
  have hbx := (hcx.block b (lt_of_obj hbk) (by simp)).trans hbk
  rw [hwx] at hnews hownx
  go_wp2_with (at_builtin; refine wpList_append_own _ rfl _ _ 90 rfl B 5 i0 (.int .u8 0) 1 1 Tryd.underlying90 hi hz0 hz1 hz2 rfl (by decide) v bs.length bs rfl hownx ⟨w1.heap.size, 0, none⟩ 1 1 [.int .u8 c] rfl rfl hnews (by intro u hu; rw [List.mem_singleton.1 hu]; rfl) ?c3 ?c4 ?c5 ?_)
  case c3 => unfold maxLen; omega
  case c4 => omega
  case c5 => have := hb1.size; simp; omega
  intro v' w2 hown' hgrow _
  rw [← hwx] at hgrow
  have hlt : b < wx.heap.size := lt_of_obj hbx
  have hb2 : w2.heap[b]? = some (.cells #[.pointer (some ⟨b, 0, none⟩), v] 92 (0, 0)) := by
    rw [hgrow.block b hlt (fun e => hne e.symm)]
    exact hbx
  have d0 : w2.cell? ⟨b, 0, none⟩ = some (.pointer (some ⟨b, 0, none⟩)) := by rw [Lib.cell_of_heap hb2]; rfl
  have d1 : w2.cell? ⟨b, 1, none⟩ = some v := by rw [Lib.cell_of_heap hb2]; rfl
  have f1 : w2.frozen? ⟨b, 1, none⟩ = false := Lib.frozen_of_heap hb2 1
  obtain ⟨ao, n', cap, rfl⟩ : ∃ ao n' cap, v' = .slice ao n' cap := by
    rcases hown'.2 with ⟨hv, _⟩ | ⟨g, cap, cur, hv, _⟩
    · exact ⟨_, _, _, hv⟩
    · exact ⟨_, _, _, hv⟩
  go_wp2
  go_ret
  refine ⟨rfl, ?_, ?_⟩
  · exact Or.inr (Lib.BuilderAt.put (T := 92) (e := 5) hB hb2 (bs' := bs ++ [.int .u8 c]) (by simpa using hown') (by decide))
  · have h2 : ChgP (bldSet B b w) w w2 := ((hb1.mono fun k hk => by subst hk; exact ⟨hB, Or.inl rfl⟩).new hcx).grown hgrow fun k hk => by
      obtain ⟨hk1, hk2⟩ := hown.lt k hk
      by_cases hkw : k < w.heap.size
      case neg => exact Or.inr (by omega)
      refine Or.inl ⟨hk1, ?_⟩
      by_cases hkb : k = b
      · exact Or.inl hkb
      · refine Or.inr fun hn => ?_
        rcases hown.2 with ⟨rfl, _⟩ | ⟨g, cap', cur, rfl, _, hg, _⟩
        · simp [Value.ownBlock] at hk
        · simp only [Value.ownBlock, Option.some.injEq] at hk
          subst hk
          rw [hb1.block g hkw hkb] at hg
          exact hn _ _ hg
    exact h2.setCell (p := ⟨b, 1, none⟩) (Or.inl ⟨hB, Or.inl rfl⟩) _
end Go.Proofs.YtiklgipcgdgkoaaDoor.Jv
