/- cloneRules. -/
import Derived.Test.YtaciceaipmclgaaFixM
import Derived.Deep.RegionLaw
import Derived.Deep.AppendLies
namespace Go.Proofs.Ytaciceaipmclgaa
open Go.RowKit
set_option linter.unusedVariables false
/-- i lists are copied, and m rules of the next -/
def ClRel (R : Rules) (w : World) (gr i m : Nat) (wr : World) : Prop := ∃ L, (∀ a, a < R.length → L a = if a < i then R.getD a [] else if a = i then (R.getD i []).take m else []) ∧ Cl wr gr R.length L ∧ Chg [] w wr
theorem ClRel.chg {R : Rules} {w wr : World} {gr i m : Nat} (h : ClRel R w gr i m wr) : Chg [] w wr := by
  obtain ⟨_, _, _, h⟩ := h
  exact h
theorem ClRel.set {R : Rules} {w wr : World} {gr i m : Nat} (h : ClRel R w gr i m wr) (hm : (R.getD i []).length ≤ m) : ClRel R w gr (i + 1) 0 wr := by
  obtain ⟨L, h1, h2, h3⟩ := h
  refine ⟨L, fun a ha => ?_, h2, h3⟩
  rw [h1 a ha]
  by_cases h4 : a < i
  · rw [if_pos h4, if_pos (by omega)]
  · by_cases h5 : a = i
    · subst h5
      rw [if_neg h4, if_pos rfl, if_pos (by omega), List.take_of_length_le hm]
    · rw [if_neg h4, if_neg h5, if_neg (by omega)]
      split <;> simp
theorem ClRel.next {R : Rules} {w wk w3 w4 : World} {i k : Nat} {L : Nat → List Rule} {V : Nat → Value} {us : Nat → List RV} {r : Rule} {u v' : Value} {o : Obj}
    (h1 : ∀ a, a < R.length → L a = if a < i then R.getD a [] else if a = i then (R.getD i []).take k else []) (h2 : ClV wk w.heap.size R.length L V us) (h3 : Chg [] w wk) (hi : i < R.length) (hk : k < (R.getD i []).length) (hr : (R.getD i []).getD k (0, []) = r)
    (hc : Chg [] wk w3) (hu : Ints (fun g => wk.heap.size ≤ g ∧ g < w3.heap.size) w3 u r.2) (hown : w4.ownsRow (w.heap.size + 1) 31 2 v' ((us i).length + 1) (flatP (us i) ++ [.int .i64 r.1, u])) (hg : (w3.alloc o).grownBy w4 (V i).ownBlock)
    (hat : v'.ownBlock = (V i).ownBlock ∨ v'.ownBlock = some (w3.heap.size + 1)) : ClRel R w w.heap.size i (k + 1) (w4.setCell ⟨w.heap.size, i, none⟩ v') := by
  refine ⟨_, fun a ha => ?_, ⟨_, _, h2.step hi r hc hu hown hg hat⟩, ?_⟩
  · by_cases e : a = i
    · subst e
      simp only [if_pos]
      rw [h1 a ha, if_neg (Nat.lt_irrefl _), if_pos rfl, if_neg (Nat.lt_irrefl _), take_snoc _ _ hk (0, []), hr]
    · simp only [if_neg e]
      rw [h1 a ha, if_neg e]
  · refine (((h3.trans hc).alloc o).grown hg (fun g hg' => Or.inr ?_)).setCell (Or.inr (Nat.le_refl _)) _
    have := (ownsRow_lt (h2.own i hi) hg').1
    omega
def ClPost (R : Rules) (w : World) (e : Ending) (w' : World) : Prop := ∃ V us, e = .returned (.slice (some ⟨w.heap.size, 0, none⟩) R.length R.length) ∧ ClV w' w.heap.size R.length (fun i => R.getD i []) V us ∧ Chg [] w w'
set_option maxRecDepth 100000 in
set_option maxHeartbeats 4000000 in
theorem cloneRules_any (p : Nat → Prop) (w : World) (R : Rules) (v : Value) (hR : RulesAt p w v R) (hok : Okr R) : Calls Try.prog 21 #[v] w (ClPost R w) := by
  have hn60 := hok.size
  have Hok := Lib.hid hok
  have HR := Lib.hid hR
  clear hok hR
  obtain ⟨av, capv, rfl⟩ : ∃ a cap, v = .slice a R.length cap := by obtain ⟨a, cap, h, _⟩ := HR.out; exact ⟨a, cap, h⟩
  have hmk := run_make_row' (P := Try.prog) 22 39 (.slice none 0 0) 24 Try.underlying22 Try.infoRules rfl .i64 .i64 R.length (by omega) (by omega)
  have hmk' := hmk w
  clear hmk
  obtain ⟨i0, hi0, hz0, hz1, hz2⟩ := info_parts Try.infoRule
  have Hi0 := Lib.hid hi0
  have Hz0 := Lib.hid hz0
  have Hz1 := Lib.hid hz1
  have Hz2 := Lib.hid hz2
  clear hi0 hz0 hz1 hz2
  go_enter Try.func21, Try.ntmps21
  go_wp2
  go_loopw [13] (fun i wr => ∃ k : Nat, k ≤ R.length ∧ i = .int .i64 (k : Nat) ∧ ClRel R w w.heap.size k 0 wr) (fun i _ => R.length - (intOf i).toNat)
  case atStart => exact ⟨0, by omega, rfl, _, fun a ha => by simp, Cl.start (World.rowIs_made w (.slice none 0 0) R.length 39), (Chg.refl _ _).alloc _⟩
  case round =>
    obtain ⟨i, hi, rfl, hrl⟩ := hrel
    clear hmk'
    by_cases hlt : i < R.length
    · have hcw : Chg [] w wr := hrl.chg
      obtain ⟨g, off, u, rfl, q0w, hl⟩ := HR.out.at i hlt
      have q0 := (hcw.cell (p := ⟨g, off + i, none⟩) (lt_of_cell q0w) (by simp)).trans q0w
      obtain ⟨au, capu, rfl, hml⟩ := hl.shape
      have Hl := Lib.hid hl
      clear hl q0w
      have Hrl := Lib.hid hrl
      clear hrl
      have hl20 := Hok.out.rules _ (getD_memb' hlt (d := []))
      have hall := Hok.out.all _ (getD_memb' hlt (d := []))
      obtain ⟨l, hle⟩ : ∃ l, R.getD i [] = l := ⟨_, rfl⟩
      rw [hle] at q0 hml Hl hl20 hall
      have Hle := Lib.hid hle
      have Hall := Lib.hid hall
      clear hle hall
      have hi1 : (i : Int) < R.length := by omega
      have hi0 : (0 : Int) ≤ (i : Int) := by omega
      unfold maxLen at hml
      go_wp2
      go_loopw [20] (fun j wr => ∃ k : Nat, k ≤ l.length ∧ j = .int .i64 (k : Nat) ∧ ClRel R w w.heap.size i k wr) (fun j _ => l.length - (intOf j).toNat)
      case atStart => exact ⟨0, by omega, rfl, Hrl.out⟩
      case round =>
        obtain ⟨k, hk, rfl, hrl⟩ := hrel
        by_cases hlt2 : k < l.length
        · have hcw2 : Chg [] w wr := hrl.chg
          obtain ⟨g2, off2, u2, rfl, q1w, q2w, hints⟩ := Hl.out.at k hlt2
          have lg2 := lt_of_cell q1w
          have q1 := (hcw2.cell (p := ⟨g2, off2 + k * 2, none⟩) lg2 (by simp)).trans q1w
          have q2 := (hcw2.cell (p := ⟨g2, off2 + k * 2 + 1, none⟩) lg2 (by simp)).trans q2w
          clear q1w q2w
          have lg2' := lt_of_cell q1
          obtain ⟨a3, cap3, rfl⟩ := SlF.shape hints
          obtain ⟨r, hre⟩ : ∃ r, l.getD k (0, []) = r := ⟨_, rfl⟩
          have hr60 := Hall.out _ (getD_memb' hlt2 (d := (0, [])))
          rw [hre] at q1 q2 hints hr60
          have Hre := Lib.hid hre
          have Hints := Lib.hid hints
          have Hrl2 := Lib.hid hrl
          clear hints hre hrl
          have hk1 : (k : Int) < l.length := by omega
          have hk0 : (0 : Int) ≤ (k : Int) := by omega
          have hst : ∃ L V us, (∀ a, a < R.length → L a = if a < i then R.getD a [] else if a = i then (R.getD i []).take k else []) ∧ ClV (wr.alloc (.cells #[.int .i64 r.1, .slice a3 r.2.length cap3] 31)) w.heap.size R.length L V us ∧ Chg [] w (wr.alloc (.cells #[.int .i64 r.1, .slice a3 r.2.length cap3] 31)) := by
            obtain ⟨L, h1, ⟨V, us, h2⟩, h3⟩ := Hrl2.out
            exact ⟨L, V, us, h1, h2.kept ((Chg.refl [] _).alloc _) (by simp), h3.alloc _⟩
          have s1 : (wr.alloc (.cells #[.int .i64 r.1, .slice a3 r.2.length cap3] 31)).cell? ⟨wr.heap.size, 0, none⟩ = some (.int .i64 r.1) := cell_of_heap (heap_at _ _ _ rfl) rfl
          have s2 : (wr.alloc (.cells #[.int .i64 r.1, .slice a3 r.2.length cap3] 31)).cell? ⟨wr.heap.size, 1, none⟩ = some (.slice a3 r.2.length cap3) := cell_of_heap (heap_at _ _ _ rfl) rfl
          have hsz0 : wr.heap.size < (wr.alloc (.cells #[.int .i64 r.1, .slice a3 r.2.length cap3] 31)).heap.size := by simp
          have Hst := Lib.hid hst
          clear hst
          go_wp2_with fail
          obtain ⟨wk, hwk⟩ : ∃ x, x = wr.alloc (.cells #[.int .i64 r.1, .slice a3 r.2.length cap3] 31) := ⟨_, rfl⟩
          rw [← hwk]
          rw [← hwk] at s1 s2 Hst hsz0
          clear hwk
          obtain ⟨L, V, us, h1, h2, h3⟩ := Hst.out
          have hlen : (us i).length = k := by
            rw [h2.len i hlt, h1 i hlt, if_neg (Nat.lt_irrefl _), if_pos rfl, Hle.out, List.length_take]
            omega
          obtain ⟨ai, capi, hvi⟩ := own_shape (h2.own i hlt)
          rw [hlen] at hvi
          have s0 := h2.row.cell hlt
          have sf := h2.row.frozen i
          rw [hvi] at s0
          have lgr := lt_of_cell s0
          have hown0 := h2.own i hlt
          rw [hvi, hlen] at hown0
          have hob := fun g' (hg' : (Value.slice ai k capi).ownBlock = some g') => (ownsRow_lt hown0 hg')
          have Hvi := Lib.hid hvi
          have Hlen := Lib.hid hlen
          have Hob := Lib.hid hob
          have Hown0 := Lib.hid hown0
          have H123 := Lib.hid (And.intro h1 (And.intro h2 h3))
          have Hkd := Lib.hid (h2.kept (w' := wk.drew) ((Chg.refl [] wk).drew) (by simp))
          clear hvi hlen hob hown0 h1 h2 h3
          have hgrlt : w.heap.size < wk.heap.size := lgr
          go_region_law (first
            | (rw [if_pos (by simp [Region.wanted])]; go_simp; refine (sClone_any p wk.drew _ r.2.length (fun j => .int .i64 (r.2.getD j 0)) (SlF.kept Hints.out H123.out.2.2.drew (by simp)) (fun j hj => by simp [Value.oneCell']) (by omega)).mono ?_; rintro e w3 ⟨v3, rfl, hu3, c3⟩; obtain ⟨au3, cu3, rfl⟩ := SlF.shape hu3; have kb3 : w3.cell? ⟨w.heap.size, i, none⟩ = some (.slice ai k capi) := (c3.cell (p := ⟨w.heap.size, i, none⟩) hgrlt (by simp)).trans s0; have kf3 : w3.frozen? ⟨w.heap.size, i, none⟩ = false := (c3.frozen (p := ⟨w.heap.size, i, none⟩) hgrlt (by simp)).trans sf; have hz3 : w.heap.size < w3.heap.size := lt_of_cell kb3; have t1 : w3.cell? ⟨wr.heap.size, 0, none⟩ = some (.int .i64 r.1) := (c3.cell (p := ⟨wr.heap.size, 0, none⟩) hsz0 (by simp)).trans s1; have t2 : w3.cell? ⟨wr.heap.size, 1, none⟩ = some (.slice a3 r.2.length cap3) := (c3.cell (p := ⟨wr.heap.size, 1, none⟩) hsz0 (by simp)).trans s2; have Hrow3 := Lib.hid (ownsRow_block (w' := w3) (Hown0.out) (fun g' hg' hl' => c3.block g' hl' (by simp))); have Hu3 := Lib.hid hu3; have Hc3 := Lib.hid c3; clear hu3 c3)
            | (refine step_append_lies _ (by rfl) _ _ _ (by rfl) (w.heap.size + 1) 31 i0 (.agg #[.int .i64 0, .slice none 0 0]) 2 32 Try.underlying39 Hi0.out Hz0.out Hz1.out Hz2.out rfl (by omega) (.slice ai k capi) k (flatP (us i)) (by rfl) (Hrow3.out.alloc _) ⟨w3.heap.size, 0, none⟩ 1 1 [.int .i64 r.1, .slice au3 r.2.length cu3] (by rfl) (by rfl) (World.news_of_block (cs := #[.int .i64 r.1, .slice au3 r.2.length cu3]) (t := 31) (fr := (0, 0)) (heap_alloc_new w3 _)) (by simp [Value.oneCell']) (by omega) (by unfold maxLen; omega) (by omega) (by simp; omega) (w3.heap.size + 1) (by simp) ?_; intro gg cap4 w4 hown4 hgrow4 hat4 hlt4; have hc4 := ((Chg.refl (Value.slice ai k capi).ownBlock.toList w3).alloc (.cells #[.int .i64 r.1, .slice au3 r.2.length cu3] 31)).grown hgrow4 (fun k h => Or.inl (by simp [h])); have hnot : w.heap.size ∉ (Value.slice ai k capi).ownBlock.toList := (fun h => absurd (Hob.out _ (by simpa using h)).1 (Nat.not_succ_le_self _)); have kc4 : w4.cell? ⟨w.heap.size, i, none⟩ = some (.slice ai k capi) := (hc4.cell (p := ⟨w.heap.size, i, none⟩) hz3 hnot).trans kb3; have kf4 : w4.frozen? ⟨w.heap.size, i, none⟩ = false := (hc4.frozen (p := ⟨w.heap.size, i, none⟩) hz3 hnot).trans kf3; have Hown4 := Lib.hid hown4; have Hgr4 := Lib.hid hgrow4; have Hat4 := Lib.hid hat4; clear hown4 hgrow4 hat4 hc4 hnot))
          all_goals
            have hnext : ClRel R w w.heap.size i (k + 1) (w4.setCell ⟨w.heap.size, i, none⟩ (.slice (some ⟨gg, 0, none⟩) (k + 1) cap4)) :=
              ClRel.next (wk := wk.drew) (r := r) (u := .slice au3 r.2.length cu3) H123.out.1 Hkd.out H123.out.2.2.drew hlt (by rw [Hle.out]; exact hlt2) (by rw [Hle.out]; exact Hre.out) Hc3.out Hu3.out (by rw [Hlen.out]; exact Hown4.out) (by rw [Hvi.out]; exact Hgr4.out) (by rw [Hvi.out]; exact Hat4.out.elim (fun h => Or.inl h.symm) (fun h => Or.inr (congrArg some h)))
            have Hnext := Lib.hid hnext
            clear hnext
            go_wp2
            exact ⟨⟨k + 1, by omega, by go_num, Hnext.out⟩, by simp [intOf]; omega⟩
        · obtain rfl : k = l.length := by omega
          have Hrl2 := Lib.hid hrl
          clear hrl
          go_wp2
          exact ⟨⟨i + 1, by omega, by go_num, Hrl2.out.set (by rw [Hle.out]; exact Nat.le_refl _)⟩, by simp [intOf]; omega⟩
    · obtain rfl : i = R.length := by omega
      obtain ⟨L, h1, ⟨V, us, h2⟩, h3⟩ := hrl
      have hfin : ClV wr w.heap.size R.length (fun i => R.getD i []) V us := h2.like fun a ha => by rw [h1 a ha, if_pos ha]
      have Hfin := Lib.hid hfin
      have H3 := Lib.hid h3
      clear h1 h2 h3 hfin
      go_wp2
      go_ret
      exact ⟨V, us, rfl, Hfin.out, H3.out⟩
end Go.Proofs.Ytaciceaipmclgaa
