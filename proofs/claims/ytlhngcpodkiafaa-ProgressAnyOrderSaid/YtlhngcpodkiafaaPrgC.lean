/- progress.Split: the walk. -/
import Derived.Test.YtlhngcpodkiafaaPrgB
namespace Go.Proofs.Ytlhngcpodkiafaa
open Go.RowKit Go.Shelf
set_option linter.unusedVariables false
set_option linter.unusedSimpArgs false
attribute [local go_sem] Oper.semAt_some
set_option maxRecDepth 100000 in
set_option maxHeartbeats 4000000 in
theorem split_some (tok : Int) (s : Nat) (g off cap n : Nat) (zs : List Int) (w : World) (htok : 0 ≤ tok) (hs : 1 ≤ s) (hs2 : s ≤ 2147483647) (hz : 1 ≤ n) (hz2 : n ≤ 1000) (hn : Hid (zs.length = n)) (hcap : n ≤ cap) (hcap2 : cap ≤ 9223372036854775807)
    (HI : Hid (IntsC w (.slice (some ⟨g, off, none⟩) n cap) zs)) :
    CallsIn Fence.wide 6 Try.prog 8 #[.int .i64 tok, .slice (some ⟨g, off, none⟩) n cap, .int .i64 s] w (SplitPost tok s zs w) := by
  obtain ⟨i0, hi, hz0, hz1, hz2'⟩ := info_parts Try.infoChunk
  have h1s : (1 : Int) ≤ (s : Int) := by omega
  have hlz : (1 : Int) ≤ (n : Int) := by omega
  have hlz0 : ((n : Int) == 0) = false := by simpa using (show (n : Int) ≠ 0 by omega)
  have Hi := Lib.hid hi
  have Hz0 := Lib.hid hz0
  have Hz1 := Lib.hid hz1
  have Hz2 := Lib.hid hz2'
  clear hi hz0 hz1 hz2'
  refine callsIn_of_wp_marks Try.func8 rfl trivial ?_ rfl
  simp only [Try.ntmps8, List.size_toArray, List.length_cons, List.length_nil, Nat.reduceAdd, Nat.reduceSub, Array.replicate_succ, Array.replicate_zero, List.push_toArray, List.append_toArray, List.nil_append, List.cons_append]
  gi_wp2
  refine ⟨trivial, (chunk_in (some ⟨g, off, none⟩) n cap s _ hs).mono ?_⟩
  rintro e w' ⟨rfl, rfl⟩
  gi_wp2
  obtain ⟨WL, hWL⟩ : ∃ x, x = (((w.alloc (.cells #[.int .i64 tok] 3)).alloc (.cells #[.slice none 0 0] 29)).alloc (.cells #[.slice (some ⟨g, off, none⟩) n cap] 22)).alloc (.cells #[.int .i64 s] 3) := ⟨_, rfl⟩
  have hsz : WL.heap.size = w.heap.size + 4 := by rw [hWL]; simp
  have hcw : Chg [] w WL := by rw [hWL]; exact ((((Chg.refl [] w).alloc _).alloc _).alloc _).alloc _
  have b0 : Boxed WL w.heap.size 3 (.int .i64 tok) := by rw [hWL]; exact (((Boxed.new w _ _).alloc _).alloc _).alloc _
  have b1 : Boxed WL (w.heap.size + 1) 29 (.slice none 0 0) := by
    rw [hWL]; have := Boxed.new (w.alloc (.cells #[.int .i64 tok] 3)) 29 (.slice none 0 0); rw [World.size_alloc] at this; exact (this.alloc _).alloc _
  have b2 : Boxed WL (w.heap.size + 2) 22 (.slice (some ⟨g, off, none⟩) n cap) := by
    rw [hWL]; have := Boxed.new ((w.alloc (.cells #[.int .i64 tok] 3)).alloc (.cells #[.slice none 0 0] 29)) 22 (.slice (some ⟨g, off, none⟩) n cap); simp only [World.size_alloc] at this; exact this.alloc _
  have b3 : Boxed WL (w.heap.size + 3) 3 (.int .i64 s) := by
    rw [hWL]; have := Boxed.new (((w.alloc (.cells #[.int .i64 tok] 3)).alloc (.cells #[.slice none 0 0] 29)).alloc (.cells #[.slice (some ⟨g, off, none⟩) n cap] 22)) 3 (.int .i64 s); simp only [World.size_alloc] at this; exact this
  rw [← hWL]
  clear hWL
  have H0 : SpI n (w.heap.size + 1) (w.heap.size + 4) w.heap.size tok zs w [] WL := ⟨⟨_, [], b1, World.ownsRow_nil _ _ _ _, rfl, by simp⟩, b0, by omega, hcw⟩
  have Hst := chunk_stops (w.heap.size + 2) (w.heap.size + 3) g off n cap s hs hs2 (by omega) hcap hcap2 WL (by omega) (by omega) b2.cell b3.cell
  refine wpIn_rangeFunc_ownG rfl (by omega) (gf := 19) (lb := #[.pointer (some ⟨w.heap.size + 2, 0, none⟩), .pointer (some ⟨w.heap.size + 3, 0, none⟩)]) rfl trivial (enters_of Try.func19 (by kernel_rfl) rfl)
    Hst Keep2.trans (Keep2.put (by omega) (by omega)) (Below.refl _ _) (fun _ => rfl)
    (SpI n (w.heap.size + 1) (w.heap.size + 4) w.heap.size tok zs w) (fun _ _ _ => False) (SpI.own _ _ _ _ _ _ _ _ (by omega)) (fun _ _ _ _ _ hs _ _ => hs) H0
    (fun x => { tmps := #[.int .i64 tok, .slice (some ⟨g, off, none⟩) n cap, .int .i64 s, .pointer (some ⟨w.heap.size, 0, none⟩), undef, undef, .slice none 0 0, .int .i64 0, .pointer (some ⟨w.heap.size + 1, 0, none⟩), .slice (some ⟨g, off + x.1.1, none⟩) (x.1.2 : Nat) (x.1.2 : Nat),
      .bool (decide (tok < 0) || decide ((s : Int) < 1)), .int .i64 tok, .bool (decide (tok < 0)), .bool (decide (tok < 0)), .int .i64 s, .bool (decide ((s : Int) < 1)), .bool (decide (tok < 0) || decide ((s : Int) < 1)), .bool (decide (1000 < (n : Int))), .slice (some ⟨g, off, none⟩) n cap, .int .i64 n,
      .bool (decide (1000 < (n : Int))), .bool false, .slice (some ⟨g, off, none⟩) n cap, .int .i64 n, .bool false, undef, undef, undef, .slice (some ⟨g, off, none⟩) n cap, .int .i64 s,
      .func (.func 19) #[] #[.pointer (some ⟨w.heap.size + 2, 0, none⟩), .pointer (some ⟨w.heap.size + 3, 0, none⟩)], .slice (some ⟨g, off + x.1.1, none⟩) (x.1.2 : Nat) (x.1.2 : Nat),
      undef, undef, undef, undef, undef, undef, undef, undef, undef, undef, undef, undef, undef, undef, undef, undef], defers := [] }) ?assign ?body ?done ?stop
  case assign =>
    intro l x W K hK
    gi_wp2
    exact hK
  case body =>
    rintro l pre x W hI hlt
    obtain ⟨⟨v, us, hb1, hrow, hul, hus⟩, hb0, hWB, hch⟩ := hI
    obtain ⟨av, cv, rfl⟩ := ownsRow_shape hrow
    have c8 := hb1.cell
    have f8 := hb1.frozen
    have c3 := hb0.cell
    have hx := x.2
    have hxi := ints_sub HI.out hn.out x
    have hxl := chV_len zs x
    have Hx := Lib.hid (And.intro hxi hxl)
    have Hb1 := Lib.hid hb1
    have Hb0 := Lib.hid hb0
    have Hrow := Lib.hid hrow
    have Hul := Lib.hid hul
    have Hus := Lib.hid hus
    have Hch := Lib.hid hch
    have hlt' : us.length < 1000 := by omega
    have hWs : w.heap.size + 1 < W.heap.size := hb1.lt
    clear hxi hxl hb1 hb0 hrow hul hus hch H0 Hst b0 b1 b2 b3 hsz
    have hrow30 := fun g' (h : (Value.slice av us.length cv).ownBlock = some g') => (ownsRow_ge Hrow.out h)
    have Hrow30 := Lib.hid hrow30
    clear hrow30
    have Hend : Hid (∀ (a3 : Option Addr) (cp3 : Nat) (w3 : World) (gg cap4 : Nat) (w4 : World), Boxed w3 (w.heap.size + 1) 29 (.slice av us.length cv) → Boxed w3 w.heap.size 3 (.int .i64 tok) → Ints w3 (.slice a3 x.1.2 cp3) (chV zs x) → Chg [] W.drew w3 →
        w4.ownsRow (w.heap.size + 4) 39 4 (.slice (some ⟨gg, 0, none⟩) (us.length + 1) cap4) (us.length + 1) (flatC tok us ++ [.int .i64 tok, .int .i64 (us.length : Nat), .bool false, .slice a3 x.1.2 cp3]) →
        (w3.alloc (.cells #[.int .i64 tok, .int .i64 (us.length : Nat), .bool false, .slice a3 x.1.2 cp3] 39)).grownBy w4 (Value.slice av us.length cv).ownBlock →
        KeepsFrom WL.heap.size W (w4.setCell ⟨w.heap.size + 1, 0, none⟩ (.slice (some ⟨gg, 0, none⟩) (us.length + 1) cap4)) ∧ Keep2 (w.heap.size + 2) (w.heap.size + 3) W (w4.setCell ⟨w.heap.size + 1, 0, none⟩ (.slice (some ⟨gg, 0, none⟩) (us.length + 1) cap4)) ∧
          SpI n (w.heap.size + 1) (w.heap.size + 4) w.heap.size tok zs w (pre ++ [x]) (w4.setCell ⟨w.heap.size + 1, 0, none⟩ (.slice (some ⟨gg, 0, none⟩) (us.length + 1) cap4))) :=
      Lib.hid (fun a3 cp3 w3 gg cap4 w4 k1 k2 k3 k4 k5 k6 => SpI.step rfl Hb1.out Hrow.out Hul.out Hus.out hWB Hch.out k1 k2 k3 k4 k5 k6)
    gi_wp2
    refine wpIn_region_round (S := (fun w' => w'.cell? ⟨w.heap.size, 0, none⟩ = some (.int .i64 tok))) (by kernel_rfl) (by kernel_rfl) (fun ⟨a, w, h⟩ => h) ?_
    refine wpAnyH_take (i := 4) (v := .slice (some ⟨g, off + x.1.1, none⟩) (x.1.2 : Nat) (x.1.2 : Nat)) rfl (by kernel_rfl) (by kernel_rfl) (by kernel_rfl) (fun _ _ _ h => h) (Or.inl ⟨by rfl, fun w hS => by go_simp⟩) c3 ?_
    simp only [Act.put, List.setIfInBounds_toArray, List.set_cons_zero, List.set_cons_succ]
    refine wpAnyH_take (i := 1) (v := .int .i64 tok) rfl (by kernel_rfl) (by kernel_rfl) (by kernel_rfl) (fun _ _ _ h => h) (Or.inl ⟨by rfl, fun w hS => by go_simp⟩) c3 ?_
    simp only [Act.put, List.setIfInBounds_toArray, List.set_cons_zero, List.set_cons_succ]
    refine wpAnyH_all (rs := [0, 2, 5]) (by kernel_rfl) (by simp) ?_
    intro i hi
    simp only [List.mem_cons, List.not_mem_nil, or_false] at hi
    rcases hi with rfl | rfl | rfl
    · skip
      refine wpOp_step rfl (fun K hK => ?_)
      go_simp
      refine hK _ _ ⟨c3, ?_⟩
      clear hK K
      refine wpAnyH_all (rs := [2, 5]) (by kernel_rfl) (by simp) ?_
      intro i hi
      simp only [List.mem_cons, List.not_mem_nil, or_false] at hi
      rcases hi with rfl | rfl
      · skip
        refine wpOp_step rfl (fun K hK => ?_)
        go_simp
        refine hK _ _ ⟨c3, ?_⟩
        clear hK K
        refine wpAnyH_take (i := 3) (v := .int .i64 (us.length : Nat)) rfl (by kernel_rfl) (by kernel_rfl) (by kernel_rfl) (fun _ _ _ h => h) (Or.inl ⟨by rfl, fun w hS => by go_simp⟩) c3 ?_
        simp only [Act.put, List.setIfInBounds_toArray, List.set_cons_zero, List.set_cons_succ]
        refine wpAnyH_all (rs := [5]) (by kernel_rfl) (by simp) ?_
        intro i hi
        obtain rfl := List.mem_singleton.1 hi
        refine wpOp_step rfl (fun K hK => ?_)
        go_simp
        refine (slicesCloneC _ _ _ _ _ (chV zs x) (Hx.out.1.same Hch.out.drew) (by rw [Hx.out.2]; omega)).mono ?_
        rintro e w3 ⟨a3, cp3, rfl, hi3, hc3⟩
        have hB3 : Boxed w3 (w.heap.size + 1) 29 (.slice av us.length cv) := (hc3.block (w.heap.size + 1) hWs (by simp)).trans Hb1.out
        have hT3 : Boxed w3 w.heap.size 3 (.int .i64 tok) := (hc3.block w.heap.size (Nat.lt_of_succ_lt hWs) (by simp)).trans Hb0.out
        have hrow3 := ownsRow_kept (w' := w3) Hrow.out (fun g' hg' hl => hc3.block g' hl (by simp))
        have c83 := hB3.cell
        have c33 := hT3.cell
        have hW3 : W.heap.size ≤ w3.heap.size := hc3.size
        have HB3 := Lib.hid hB3
        have HT3 := Lib.hid hT3
        have Hrow3 := Lib.hid hrow3
        have Hi3 := Lib.hid hi3
        have Hc3 := Lib.hid hc3
        clear hB3 hT3 hrow3 hi3 hc3
        go_simp
        refine hK _ _ ⟨c33, ?_⟩
        clear hK K
        refine wpAnyH_take (i := 6) (v := .agg #[.int .i64 tok, .int .i64 (us.length : Nat), .bool false, .slice a3 x.1.2 cp3]) rfl (by kernel_rfl) (by kernel_rfl) (by kernel_rfl) (fun _ _ _ h => h) (Or.inl ⟨by rfl, fun w hS => by go_simp⟩) c33 ?_
        simp only [Act.put, List.setIfInBounds_toArray, List.set_cons_zero, List.set_cons_succ]
        refine wpAnyH_all (rs := [7]) (by kernel_rfl) (by simp) ?_
        intro i hi
        obtain rfl := List.mem_singleton.1 hi
        refine wpOp_step rfl (fun K hK => ?_)
        go_simp
        have hcA := (Chg.refl [] w3).alloc (.cells #[.int .i64 tok, .int .i64 (us.length : Nat), .bool false, .slice a3 x.1.2 cp3] 39)
        have c3A := (hcA.cell (p := ⟨w.heap.size, 0, none⟩) (lt_of_cell c33) (by simp)).trans c33
        have c8A := (hcA.cell (p := ⟨w.heap.size + 1, 0, none⟩) (lt_of_cell c83) (by simp)).trans c83
        refine hK _ _ ⟨c3A, ?_⟩
        clear hK K hcA
        refine wpAnyH_all (rs := [8]) (by kernel_rfl) (by simp) ?_
        intro i hi8
        obtain rfl := List.mem_singleton.1 hi8
        refine wpOp_step rfl (fun K hK => ?_)
        refine step_append_lies _ (by rfl) _ _ _ (by rfl) (w.heap.size + 4) 39 i0 (.agg #[.int .i64 0, .int .i64 0, .bool false, .slice none 0 0]) 4 48 Try.underlying29 Hi.out Hz0.out Hz1.out Hz2.out rfl (by omega) (.slice av us.length cv) us.length (flatC tok us) (by rfl) (Hrow3.out.alloc _) ⟨w3.heap.size, 0, none⟩ 1 1 [.int .i64 tok, .int .i64 (us.length : Nat), .bool false, .slice a3 x.1.2 cp3] (by rfl) (by rfl) (World.news_of_block (cs := #[.int .i64 tok, .int .i64 (us.length : Nat), .bool false, .slice a3 x.1.2 cp3]) (t := 39) (fr := (0, 0)) (heap_alloc_new w3 _)) (by simp [Value.oneCell']) (by omega) (by unfold maxLen; omega) (by omega) (by simp; omega) (w3.heap.size + 1) (by simp) ?_
        intro gg cap4 w4 hown4 hgrow4 hat4 hlt4
        have hB4 : Boxed w4 (w.heap.size + 1) 29 (.slice av us.length cv) := (HB3.out.alloc _).kept hgrow4 (fun e => by have := (Hrow30.out _ e.symm).1; omega)
        have hT4 : Boxed w4 w.heap.size 3 (.int .i64 tok) := (HT3.out.alloc _).kept hgrow4 (fun e => by have := (Hrow30.out _ e.symm).1; omega)
        have c84 := hB4.cell
        have f84 := hB4.frozen
        have c34 := hT4.cell
        have HB4 := Lib.hid hB4
        have HT4 := Lib.hid hT4
        have Hown4 := Lib.hid hown4
        have Hgr4 := Lib.hid hgrow4
        have Hat4 := Lib.hid hat4
        clear hB4 hT4 hown4 hgrow4 hat4
        go_simp
        refine hK _ _ ⟨c34, ?_⟩
        clear hK K
        refine wpAnyH_all (rs := [9]) (by kernel_rfl) (by simp) ?_
        intro i hi9
        obtain rfl := List.mem_singleton.1 hi9
        refine wpOp_step rfl (fun K hK => ?_)
        go_simp
        have hB5 := HB4.out.set (.slice (some ⟨gg, 0, none⟩) (us.length + 1) cap4)
        have hT5 : Boxed (w4.setCell ⟨w.heap.size + 1, 0, none⟩ (.slice (some ⟨gg, 0, none⟩) (us.length + 1) cap4)) w.heap.size 3 (.int .i64 tok) := (heap_setCell_ne _ _ _ _ (by show w.heap.size ≠ w.heap.size + 1; omega)).trans HT4.out
        refine hK _ _ ⟨hT5.cell, ?_⟩
        clear hK K
        refine wpAnyH_done (by kernel_rfl) ?_ _
        exact Hend.out a3 cp3 w3 gg cap4 w4 HB3.out HT3.out Hi3.out Hc3.out Hown4.out Hgr4.out
      · skip
        refine wpOp_step rfl (fun K hK => ?_)
        go_simp
        refine (slicesCloneC _ _ _ _ _ (chV zs x) (Hx.out.1.same Hch.out.drew) (by rw [Hx.out.2]; omega)).mono ?_
        rintro e w3 ⟨a3, cp3, rfl, hi3, hc3⟩
        have hB3 : Boxed w3 (w.heap.size + 1) 29 (.slice av us.length cv) := (hc3.block (w.heap.size + 1) hWs (by simp)).trans Hb1.out
        have hT3 : Boxed w3 w.heap.size 3 (.int .i64 tok) := (hc3.block w.heap.size (Nat.lt_of_succ_lt hWs) (by simp)).trans Hb0.out
        have hrow3 := ownsRow_kept (w' := w3) Hrow.out (fun g' hg' hl => hc3.block g' hl (by simp))
        have c83 := hB3.cell
        have c33 := hT3.cell
        have hW3 : W.heap.size ≤ w3.heap.size := hc3.size
        have HB3 := Lib.hid hB3
        have HT3 := Lib.hid hT3
        have Hrow3 := Lib.hid hrow3
        have Hi3 := Lib.hid hi3
        have Hc3 := Lib.hid hc3
        clear hB3 hT3 hrow3 hi3 hc3
        go_simp
        refine hK _ _ ⟨c33, ?_⟩
        clear hK K
        refine wpAnyH_all (rs := [2]) (by kernel_rfl) (by simp) ?_
        intro i hi
        obtain rfl := List.mem_singleton.1 hi
        refine wpOp_step rfl (fun K hK => ?_)
        go_simp
        refine hK _ _ ⟨c33, ?_⟩
        clear hK K
        refine wpAnyH_take (i := 3) (v := .int .i64 (us.length : Nat)) rfl (by kernel_rfl) (by kernel_rfl) (by kernel_rfl) (fun _ _ _ h => h) (Or.inl ⟨by rfl, fun w hS => by go_simp⟩) c33 ?_
        simp only [Act.put, List.setIfInBounds_toArray, List.set_cons_zero, List.set_cons_succ]
        refine wpAnyH_take (i := 6) (v := .agg #[.int .i64 tok, .int .i64 (us.length : Nat), .bool false, .slice a3 x.1.2 cp3]) rfl (by kernel_rfl) (by kernel_rfl) (by kernel_rfl) (fun _ _ _ h => h) (Or.inl ⟨by rfl, fun w hS => by go_simp⟩) c33 ?_
        simp only [Act.put, List.setIfInBounds_toArray, List.set_cons_zero, List.set_cons_succ]
        refine wpAnyH_all (rs := [7]) (by kernel_rfl) (by simp) ?_
        intro i hi
        obtain rfl := List.mem_singleton.1 hi
        refine wpOp_step rfl (fun K hK => ?_)
        go_simp
        have hcA := (Chg.refl [] w3).alloc (.cells #[.int .i64 tok, .int .i64 (us.length : Nat), .bool false, .slice a3 x.1.2 cp3] 39)
        have c3A := (hcA.cell (p := ⟨w.heap.size, 0, none⟩) (lt_of_cell c33) (by simp)).trans c33
        have c8A := (hcA.cell (p := ⟨w.heap.size + 1, 0, none⟩) (lt_of_cell c83) (by simp)).trans c83
        refine hK _ _ ⟨c3A, ?_⟩
        clear hK K hcA
        refine wpAnyH_all (rs := [8]) (by kernel_rfl) (by simp) ?_
        intro i hi8
        obtain rfl := List.mem_singleton.1 hi8
        refine wpOp_step rfl (fun K hK => ?_)
        refine step_append_lies _ (by rfl) _ _ _ (by rfl) (w.heap.size + 4) 39 i0 (.agg #[.int .i64 0, .int .i64 0, .bool false, .slice none 0 0]) 4 48 Try.underlying29 Hi.out Hz0.out Hz1.out Hz2.out rfl (by omega) (.slice av us.length cv) us.length (flatC tok us) (by rfl) (Hrow3.out.alloc _) ⟨w3.heap.size, 0, none⟩ 1 1 [.int .i64 tok, .int .i64 (us.length : Nat), .bool false, .slice a3 x.1.2 cp3] (by rfl) (by rfl) (World.news_of_block (cs := #[.int .i64 tok, .int .i64 (us.length : Nat), .bool false, .slice a3 x.1.2 cp3]) (t := 39) (fr := (0, 0)) (heap_alloc_new w3 _)) (by simp [Value.oneCell']) (by omega) (by unfold maxLen; omega) (by omega) (by simp; omega) (w3.heap.size + 1) (by simp) ?_
        intro gg cap4 w4 hown4 hgrow4 hat4 hlt4
        have hB4 : Boxed w4 (w.heap.size + 1) 29 (.slice av us.length cv) := (HB3.out.alloc _).kept hgrow4 (fun e => by have := (Hrow30.out _ e.symm).1; omega)
        have hT4 : Boxed w4 w.heap.size 3 (.int .i64 tok) := (HT3.out.alloc _).kept hgrow4 (fun e => by have := (Hrow30.out _ e.symm).1; omega)
        have c84 := hB4.cell
        have f84 := hB4.frozen
        have c34 := hT4.cell
        have HB4 := Lib.hid hB4
        have HT4 := Lib.hid hT4
        have Hown4 := Lib.hid hown4
        have Hgr4 := Lib.hid hgrow4
        have Hat4 := Lib.hid hat4
        clear hB4 hT4 hown4 hgrow4 hat4
        go_simp
        refine hK _ _ ⟨c34, ?_⟩
        clear hK K
        refine wpAnyH_all (rs := [9]) (by kernel_rfl) (by simp) ?_
        intro i hi9
        obtain rfl := List.mem_singleton.1 hi9
        refine wpOp_step rfl (fun K hK => ?_)
        go_simp
        have hB5 := HB4.out.set (.slice (some ⟨gg, 0, none⟩) (us.length + 1) cap4)
        have hT5 : Boxed (w4.setCell ⟨w.heap.size + 1, 0, none⟩ (.slice (some ⟨gg, 0, none⟩) (us.length + 1) cap4)) w.heap.size 3 (.int .i64 tok) := (heap_setCell_ne _ _ _ _ (by show w.heap.size ≠ w.heap.size + 1; omega)).trans HT4.out
        refine hK _ _ ⟨hT5.cell, ?_⟩
        clear hK K
        refine wpAnyH_done (by kernel_rfl) ?_ _
        exact Hend.out a3 cp3 w3 gg cap4 w4 HB3.out HT3.out Hi3.out Hc3.out Hown4.out Hgr4.out
    · skip
      refine wpOp_step rfl (fun K hK => ?_)
      go_simp
      refine hK _ _ ⟨c3, ?_⟩
      clear hK K
      refine wpAnyH_take (i := 3) (v := .int .i64 (us.length : Nat)) rfl (by kernel_rfl) (by kernel_rfl) (by kernel_rfl) (fun _ _ _ h => h) (Or.inl ⟨by rfl, fun w hS => by go_simp⟩) c3 ?_
      simp only [Act.put, List.setIfInBounds_toArray, List.set_cons_zero, List.set_cons_succ]
      refine wpAnyH_all (rs := [0, 5]) (by kernel_rfl) (by simp) ?_
      intro i hi
      simp only [List.mem_cons, List.not_mem_nil, or_false] at hi
      rcases hi with rfl | rfl
      · skip
        refine wpOp_step rfl (fun K hK => ?_)
        go_simp
        refine hK _ _ ⟨c3, ?_⟩
        clear hK K
        refine wpAnyH_all (rs := [5]) (by kernel_rfl) (by simp) ?_
        intro i hi
        obtain rfl := List.mem_singleton.1 hi
        refine wpOp_step rfl (fun K hK => ?_)
        go_simp
        refine (slicesCloneC _ _ _ _ _ (chV zs x) (Hx.out.1.same Hch.out.drew) (by rw [Hx.out.2]; omega)).mono ?_
        rintro e w3 ⟨a3, cp3, rfl, hi3, hc3⟩
        have hB3 : Boxed w3 (w.heap.size + 1) 29 (.slice av us.length cv) := (hc3.block (w.heap.size + 1) hWs (by simp)).trans Hb1.out
        have hT3 : Boxed w3 w.heap.size 3 (.int .i64 tok) := (hc3.block w.heap.size (Nat.lt_of_succ_lt hWs) (by simp)).trans Hb0.out
        have hrow3 := ownsRow_kept (w' := w3) Hrow.out (fun g' hg' hl => hc3.block g' hl (by simp))
        have c83 := hB3.cell
        have c33 := hT3.cell
        have hW3 : W.heap.size ≤ w3.heap.size := hc3.size
        have HB3 := Lib.hid hB3
        have HT3 := Lib.hid hT3
        have Hrow3 := Lib.hid hrow3
        have Hi3 := Lib.hid hi3
        have Hc3 := Lib.hid hc3
        clear hB3 hT3 hrow3 hi3 hc3
        go_simp
        refine hK _ _ ⟨c33, ?_⟩
        clear hK K
        refine wpAnyH_take (i := 6) (v := .agg #[.int .i64 tok, .int .i64 (us.length : Nat), .bool false, .slice a3 x.1.2 cp3]) rfl (by kernel_rfl) (by kernel_rfl) (by kernel_rfl) (fun _ _ _ h => h) (Or.inl ⟨by rfl, fun w hS => by go_simp⟩) c33 ?_
        simp only [Act.put, List.setIfInBounds_toArray, List.set_cons_zero, List.set_cons_succ]
        refine wpAnyH_all (rs := [7]) (by kernel_rfl) (by simp) ?_
        intro i hi
        obtain rfl := List.mem_singleton.1 hi
        refine wpOp_step rfl (fun K hK => ?_)
        go_simp
        have hcA := (Chg.refl [] w3).alloc (.cells #[.int .i64 tok, .int .i64 (us.length : Nat), .bool false, .slice a3 x.1.2 cp3] 39)
        have c3A := (hcA.cell (p := ⟨w.heap.size, 0, none⟩) (lt_of_cell c33) (by simp)).trans c33
        have c8A := (hcA.cell (p := ⟨w.heap.size + 1, 0, none⟩) (lt_of_cell c83) (by simp)).trans c83
        refine hK _ _ ⟨c3A, ?_⟩
        clear hK K hcA
        refine wpAnyH_all (rs := [8]) (by kernel_rfl) (by simp) ?_
        intro i hi8
        obtain rfl := List.mem_singleton.1 hi8
        refine wpOp_step rfl (fun K hK => ?_)
        refine step_append_lies _ (by rfl) _ _ _ (by rfl) (w.heap.size + 4) 39 i0 (.agg #[.int .i64 0, .int .i64 0, .bool false, .slice none 0 0]) 4 48 Try.underlying29 Hi.out Hz0.out Hz1.out Hz2.out rfl (by omega) (.slice av us.length cv) us.length (flatC tok us) (by rfl) (Hrow3.out.alloc _) ⟨w3.heap.size, 0, none⟩ 1 1 [.int .i64 tok, .int .i64 (us.length : Nat), .bool false, .slice a3 x.1.2 cp3] (by rfl) (by rfl) (World.news_of_block (cs := #[.int .i64 tok, .int .i64 (us.length : Nat), .bool false, .slice a3 x.1.2 cp3]) (t := 39) (fr := (0, 0)) (heap_alloc_new w3 _)) (by simp [Value.oneCell']) (by omega) (by unfold maxLen; omega) (by omega) (by simp; omega) (w3.heap.size + 1) (by simp) ?_
        intro gg cap4 w4 hown4 hgrow4 hat4 hlt4
        have hB4 : Boxed w4 (w.heap.size + 1) 29 (.slice av us.length cv) := (HB3.out.alloc _).kept hgrow4 (fun e => by have := (Hrow30.out _ e.symm).1; omega)
        have hT4 : Boxed w4 w.heap.size 3 (.int .i64 tok) := (HT3.out.alloc _).kept hgrow4 (fun e => by have := (Hrow30.out _ e.symm).1; omega)
        have c84 := hB4.cell
        have f84 := hB4.frozen
        have c34 := hT4.cell
        have HB4 := Lib.hid hB4
        have HT4 := Lib.hid hT4
        have Hown4 := Lib.hid hown4
        have Hgr4 := Lib.hid hgrow4
        have Hat4 := Lib.hid hat4
        clear hB4 hT4 hown4 hgrow4 hat4
        go_simp
        refine hK _ _ ⟨c34, ?_⟩
        clear hK K
        refine wpAnyH_all (rs := [9]) (by kernel_rfl) (by simp) ?_
        intro i hi9
        obtain rfl := List.mem_singleton.1 hi9
        refine wpOp_step rfl (fun K hK => ?_)
        go_simp
        have hB5 := HB4.out.set (.slice (some ⟨gg, 0, none⟩) (us.length + 1) cap4)
        have hT5 : Boxed (w4.setCell ⟨w.heap.size + 1, 0, none⟩ (.slice (some ⟨gg, 0, none⟩) (us.length + 1) cap4)) w.heap.size 3 (.int .i64 tok) := (heap_setCell_ne _ _ _ _ (by show w.heap.size ≠ w.heap.size + 1; omega)).trans HT4.out
        refine hK _ _ ⟨hT5.cell, ?_⟩
        clear hK K
        refine wpAnyH_done (by kernel_rfl) ?_ _
        exact Hend.out a3 cp3 w3 gg cap4 w4 HB3.out HT3.out Hi3.out Hc3.out Hown4.out Hgr4.out
      · skip
        refine wpOp_step rfl (fun K hK => ?_)
        go_simp
        refine (slicesCloneC _ _ _ _ _ (chV zs x) (Hx.out.1.same Hch.out.drew) (by rw [Hx.out.2]; omega)).mono ?_
        rintro e w3 ⟨a3, cp3, rfl, hi3, hc3⟩
        have hB3 : Boxed w3 (w.heap.size + 1) 29 (.slice av us.length cv) := (hc3.block (w.heap.size + 1) hWs (by simp)).trans Hb1.out
        have hT3 : Boxed w3 w.heap.size 3 (.int .i64 tok) := (hc3.block w.heap.size (Nat.lt_of_succ_lt hWs) (by simp)).trans Hb0.out
        have hrow3 := ownsRow_kept (w' := w3) Hrow.out (fun g' hg' hl => hc3.block g' hl (by simp))
        have c83 := hB3.cell
        have c33 := hT3.cell
        have hW3 : W.heap.size ≤ w3.heap.size := hc3.size
        have HB3 := Lib.hid hB3
        have HT3 := Lib.hid hT3
        have Hrow3 := Lib.hid hrow3
        have Hi3 := Lib.hid hi3
        have Hc3 := Lib.hid hc3
        clear hB3 hT3 hrow3 hi3 hc3
        go_simp
        refine hK _ _ ⟨c33, ?_⟩
        clear hK K
        refine wpAnyH_take (i := 6) (v := .agg #[.int .i64 tok, .int .i64 (us.length : Nat), .bool false, .slice a3 x.1.2 cp3]) rfl (by kernel_rfl) (by kernel_rfl) (by kernel_rfl) (fun _ _ _ h => h) (Or.inl ⟨by rfl, fun w hS => by go_simp⟩) c33 ?_
        simp only [Act.put, List.setIfInBounds_toArray, List.set_cons_zero, List.set_cons_succ]
        refine wpAnyH_all (rs := [0, 7]) (by kernel_rfl) (by simp) ?_
        intro i hi
        simp only [List.mem_cons, List.not_mem_nil, or_false] at hi
        rcases hi with rfl | rfl
        · skip
          refine wpOp_step rfl (fun K hK => ?_)
          go_simp
          refine hK _ _ ⟨c33, ?_⟩
          clear hK K
          refine wpAnyH_all (rs := [7]) (by kernel_rfl) (by simp) ?_
          intro i hi
          obtain rfl := List.mem_singleton.1 hi
          refine wpOp_step rfl (fun K hK => ?_)
          go_simp
          have hcA := (Chg.refl [] w3).alloc (.cells #[.int .i64 tok, .int .i64 (us.length : Nat), .bool false, .slice a3 x.1.2 cp3] 39)
          have c3A := (hcA.cell (p := ⟨w.heap.size, 0, none⟩) (lt_of_cell c33) (by simp)).trans c33
          have c8A := (hcA.cell (p := ⟨w.heap.size + 1, 0, none⟩) (lt_of_cell c83) (by simp)).trans c83
          refine hK _ _ ⟨c3A, ?_⟩
          clear hK K hcA
          refine wpAnyH_all (rs := [8]) (by kernel_rfl) (by simp) ?_
          intro i hi8
          obtain rfl := List.mem_singleton.1 hi8
          refine wpOp_step rfl (fun K hK => ?_)
          refine step_append_lies _ (by rfl) _ _ _ (by rfl) (w.heap.size + 4) 39 i0 (.agg #[.int .i64 0, .int .i64 0, .bool false, .slice none 0 0]) 4 48 Try.underlying29 Hi.out Hz0.out Hz1.out Hz2.out rfl (by omega) (.slice av us.length cv) us.length (flatC tok us) (by rfl) (Hrow3.out.alloc _) ⟨w3.heap.size, 0, none⟩ 1 1 [.int .i64 tok, .int .i64 (us.length : Nat), .bool false, .slice a3 x.1.2 cp3] (by rfl) (by rfl) (World.news_of_block (cs := #[.int .i64 tok, .int .i64 (us.length : Nat), .bool false, .slice a3 x.1.2 cp3]) (t := 39) (fr := (0, 0)) (heap_alloc_new w3 _)) (by simp [Value.oneCell']) (by omega) (by unfold maxLen; omega) (by omega) (by simp; omega) (w3.heap.size + 1) (by simp) ?_
          intro gg cap4 w4 hown4 hgrow4 hat4 hlt4
          have hB4 : Boxed w4 (w.heap.size + 1) 29 (.slice av us.length cv) := (HB3.out.alloc _).kept hgrow4 (fun e => by have := (Hrow30.out _ e.symm).1; omega)
          have hT4 : Boxed w4 w.heap.size 3 (.int .i64 tok) := (HT3.out.alloc _).kept hgrow4 (fun e => by have := (Hrow30.out _ e.symm).1; omega)
          have c84 := hB4.cell
          have f84 := hB4.frozen
          have c34 := hT4.cell
          have HB4 := Lib.hid hB4
          have HT4 := Lib.hid hT4
          have Hown4 := Lib.hid hown4
          have Hgr4 := Lib.hid hgrow4
          have Hat4 := Lib.hid hat4
          clear hB4 hT4 hown4 hgrow4 hat4
          go_simp
          refine hK _ _ ⟨c34, ?_⟩
          clear hK K
          refine wpAnyH_all (rs := [9]) (by kernel_rfl) (by simp) ?_
          intro i hi9
          obtain rfl := List.mem_singleton.1 hi9
          refine wpOp_step rfl (fun K hK => ?_)
          go_simp
          have hB5 := HB4.out.set (.slice (some ⟨gg, 0, none⟩) (us.length + 1) cap4)
          have hT5 : Boxed (w4.setCell ⟨w.heap.size + 1, 0, none⟩ (.slice (some ⟨gg, 0, none⟩) (us.length + 1) cap4)) w.heap.size 3 (.int .i64 tok) := (heap_setCell_ne _ _ _ _ (by show w.heap.size ≠ w.heap.size + 1; omega)).trans HT4.out
          refine hK _ _ ⟨hT5.cell, ?_⟩
          clear hK K
          refine wpAnyH_done (by kernel_rfl) ?_ _
          exact Hend.out a3 cp3 w3 gg cap4 w4 HB3.out HT3.out Hi3.out Hc3.out Hown4.out Hgr4.out
        · skip
          refine wpOp_step rfl (fun K hK => ?_)
          go_simp
          have hcA := (Chg.refl [] w3).alloc (.cells #[.int .i64 tok, .int .i64 (us.length : Nat), .bool false, .slice a3 x.1.2 cp3] 39)
          have c3A := (hcA.cell (p := ⟨w.heap.size, 0, none⟩) (lt_of_cell c33) (by simp)).trans c33
          have c8A := (hcA.cell (p := ⟨w.heap.size + 1, 0, none⟩) (lt_of_cell c83) (by simp)).trans c83
          refine hK _ _ ⟨c3A, ?_⟩
          clear hK K hcA
          refine wpAnyH_all (rs := [0]) (by kernel_rfl) (by simp) ?_
          intro i hi
          obtain rfl := List.mem_singleton.1 hi
          refine wpOp_step rfl (fun K hK => ?_)
          go_simp
          refine hK _ _ ⟨c3A, ?_⟩
          clear hK K
          refine wpAnyH_all (rs := [8]) (by kernel_rfl) (by simp) ?_
          intro i hi8
          obtain rfl := List.mem_singleton.1 hi8
          refine wpOp_step rfl (fun K hK => ?_)
          refine step_append_lies _ (by rfl) _ _ _ (by rfl) (w.heap.size + 4) 39 i0 (.agg #[.int .i64 0, .int .i64 0, .bool false, .slice none 0 0]) 4 48 Try.underlying29 Hi.out Hz0.out Hz1.out Hz2.out rfl (by omega) (.slice av us.length cv) us.length (flatC tok us) (by rfl) (Hrow3.out.alloc _) ⟨w3.heap.size, 0, none⟩ 1 1 [.int .i64 tok, .int .i64 (us.length : Nat), .bool false, .slice a3 x.1.2 cp3] (by rfl) (by rfl) (World.news_of_block (cs := #[.int .i64 tok, .int .i64 (us.length : Nat), .bool false, .slice a3 x.1.2 cp3]) (t := 39) (fr := (0, 0)) (heap_alloc_new w3 _)) (by simp [Value.oneCell']) (by omega) (by unfold maxLen; omega) (by omega) (by simp; omega) (w3.heap.size + 1) (by simp) ?_
          intro gg cap4 w4 hown4 hgrow4 hat4 hlt4
          have hB4 : Boxed w4 (w.heap.size + 1) 29 (.slice av us.length cv) := (HB3.out.alloc _).kept hgrow4 (fun e => by have := (Hrow30.out _ e.symm).1; omega)
          have hT4 : Boxed w4 w.heap.size 3 (.int .i64 tok) := (HT3.out.alloc _).kept hgrow4 (fun e => by have := (Hrow30.out _ e.symm).1; omega)
          have c84 := hB4.cell
          have f84 := hB4.frozen
          have c34 := hT4.cell
          have HB4 := Lib.hid hB4
          have HT4 := Lib.hid hT4
          have Hown4 := Lib.hid hown4
          have Hgr4 := Lib.hid hgrow4
          have Hat4 := Lib.hid hat4
          clear hB4 hT4 hown4 hgrow4 hat4
          go_simp
          refine hK _ _ ⟨c34, ?_⟩
          clear hK K
          refine wpAnyH_all (rs := [9]) (by kernel_rfl) (by simp) ?_
          intro i hi9
          obtain rfl := List.mem_singleton.1 hi9
          refine wpOp_step rfl (fun K hK => ?_)
          go_simp
          have hB5 := HB4.out.set (.slice (some ⟨gg, 0, none⟩) (us.length + 1) cap4)
          have hT5 : Boxed (w4.setCell ⟨w.heap.size + 1, 0, none⟩ (.slice (some ⟨gg, 0, none⟩) (us.length + 1) cap4)) w.heap.size 3 (.int .i64 tok) := (heap_setCell_ne _ _ _ _ (by show w.heap.size ≠ w.heap.size + 1; omega)).trans HT4.out
          refine hK _ _ ⟨hT5.cell, ?_⟩
          clear hK K
          refine wpAnyH_done (by kernel_rfl) ?_ _
          exact Hend.out a3 cp3 w3 gg cap4 w4 HB3.out HT3.out Hi3.out Hc3.out Hown4.out Hgr4.out
    · skip
      refine wpOp_step rfl (fun K hK => ?_)
      go_simp
      refine (slicesCloneC _ _ _ _ _ (chV zs x) (Hx.out.1.same Hch.out.drew) (by rw [Hx.out.2]; omega)).mono ?_
      rintro e w3 ⟨a3, cp3, rfl, hi3, hc3⟩
      have hB3 : Boxed w3 (w.heap.size + 1) 29 (.slice av us.length cv) := (hc3.block (w.heap.size + 1) hWs (by simp)).trans Hb1.out
      have hT3 : Boxed w3 w.heap.size 3 (.int .i64 tok) := (hc3.block w.heap.size (Nat.lt_of_succ_lt hWs) (by simp)).trans Hb0.out
      have hrow3 := ownsRow_kept (w' := w3) Hrow.out (fun g' hg' hl => hc3.block g' hl (by simp))
      have c83 := hB3.cell
      have c33 := hT3.cell
      have hW3 : W.heap.size ≤ w3.heap.size := hc3.size
      have HB3 := Lib.hid hB3
      have HT3 := Lib.hid hT3
      have Hrow3 := Lib.hid hrow3
      have Hi3 := Lib.hid hi3
      have Hc3 := Lib.hid hc3
      clear hB3 hT3 hrow3 hi3 hc3
      go_simp
      refine hK _ _ ⟨c33, ?_⟩
      clear hK K
      refine wpAnyH_all (rs := [0, 2]) (by kernel_rfl) (by simp) ?_
      intro i hi
      simp only [List.mem_cons, List.not_mem_nil, or_false] at hi
      rcases hi with rfl | rfl
      · skip
        refine wpOp_step rfl (fun K hK => ?_)
        go_simp
        refine hK _ _ ⟨c33, ?_⟩
        clear hK K
        refine wpAnyH_all (rs := [2]) (by kernel_rfl) (by simp) ?_
        intro i hi
        obtain rfl := List.mem_singleton.1 hi
        refine wpOp_step rfl (fun K hK => ?_)
        go_simp
        refine hK _ _ ⟨c33, ?_⟩
        clear hK K
        refine wpAnyH_take (i := 3) (v := .int .i64 (us.length : Nat)) rfl (by kernel_rfl) (by kernel_rfl) (by kernel_rfl) (fun _ _ _ h => h) (Or.inl ⟨by rfl, fun w hS => by go_simp⟩) c33 ?_
        simp only [Act.put, List.setIfInBounds_toArray, List.set_cons_zero, List.set_cons_succ]
        refine wpAnyH_take (i := 6) (v := .agg #[.int .i64 tok, .int .i64 (us.length : Nat), .bool false, .slice a3 x.1.2 cp3]) rfl (by kernel_rfl) (by kernel_rfl) (by kernel_rfl) (fun _ _ _ h => h) (Or.inl ⟨by rfl, fun w hS => by go_simp⟩) c33 ?_
        simp only [Act.put, List.setIfInBounds_toArray, List.set_cons_zero, List.set_cons_succ]
        refine wpAnyH_all (rs := [7]) (by kernel_rfl) (by simp) ?_
        intro i hi
        obtain rfl := List.mem_singleton.1 hi
        refine wpOp_step rfl (fun K hK => ?_)
        go_simp
        have hcA := (Chg.refl [] w3).alloc (.cells #[.int .i64 tok, .int .i64 (us.length : Nat), .bool false, .slice a3 x.1.2 cp3] 39)
        have c3A := (hcA.cell (p := ⟨w.heap.size, 0, none⟩) (lt_of_cell c33) (by simp)).trans c33
        have c8A := (hcA.cell (p := ⟨w.heap.size + 1, 0, none⟩) (lt_of_cell c83) (by simp)).trans c83
        refine hK _ _ ⟨c3A, ?_⟩
        clear hK K hcA
        refine wpAnyH_all (rs := [8]) (by kernel_rfl) (by simp) ?_
        intro i hi8
        obtain rfl := List.mem_singleton.1 hi8
        refine wpOp_step rfl (fun K hK => ?_)
        refine step_append_lies _ (by rfl) _ _ _ (by rfl) (w.heap.size + 4) 39 i0 (.agg #[.int .i64 0, .int .i64 0, .bool false, .slice none 0 0]) 4 48 Try.underlying29 Hi.out Hz0.out Hz1.out Hz2.out rfl (by omega) (.slice av us.length cv) us.length (flatC tok us) (by rfl) (Hrow3.out.alloc _) ⟨w3.heap.size, 0, none⟩ 1 1 [.int .i64 tok, .int .i64 (us.length : Nat), .bool false, .slice a3 x.1.2 cp3] (by rfl) (by rfl) (World.news_of_block (cs := #[.int .i64 tok, .int .i64 (us.length : Nat), .bool false, .slice a3 x.1.2 cp3]) (t := 39) (fr := (0, 0)) (heap_alloc_new w3 _)) (by simp [Value.oneCell']) (by omega) (by unfold maxLen; omega) (by omega) (by simp; omega) (w3.heap.size + 1) (by simp) ?_
        intro gg cap4 w4 hown4 hgrow4 hat4 hlt4
        have hB4 : Boxed w4 (w.heap.size + 1) 29 (.slice av us.length cv) := (HB3.out.alloc _).kept hgrow4 (fun e => by have := (Hrow30.out _ e.symm).1; omega)
        have hT4 : Boxed w4 w.heap.size 3 (.int .i64 tok) := (HT3.out.alloc _).kept hgrow4 (fun e => by have := (Hrow30.out _ e.symm).1; omega)
        have c84 := hB4.cell
        have f84 := hB4.frozen
        have c34 := hT4.cell
        have HB4 := Lib.hid hB4
        have HT4 := Lib.hid hT4
        have Hown4 := Lib.hid hown4
        have Hgr4 := Lib.hid hgrow4
        have Hat4 := Lib.hid hat4
        clear hB4 hT4 hown4 hgrow4 hat4
        go_simp
        refine hK _ _ ⟨c34, ?_⟩
        clear hK K
        refine wpAnyH_all (rs := [9]) (by kernel_rfl) (by simp) ?_
        intro i hi9
        obtain rfl := List.mem_singleton.1 hi9
        refine wpOp_step rfl (fun K hK => ?_)
        go_simp
        have hB5 := HB4.out.set (.slice (some ⟨gg, 0, none⟩) (us.length + 1) cap4)
        have hT5 : Boxed (w4.setCell ⟨w.heap.size + 1, 0, none⟩ (.slice (some ⟨gg, 0, none⟩) (us.length + 1) cap4)) w.heap.size 3 (.int .i64 tok) := (heap_setCell_ne _ _ _ _ (by show w.heap.size ≠ w.heap.size + 1; omega)).trans HT4.out
        refine hK _ _ ⟨hT5.cell, ?_⟩
        clear hK K
        refine wpAnyH_done (by kernel_rfl) ?_ _
        exact Hend.out a3 cp3 w3 gg cap4 w4 HB3.out HT3.out Hi3.out Hc3.out Hown4.out Hgr4.out
      · skip
        refine wpOp_step rfl (fun K hK => ?_)
        go_simp
        refine hK _ _ ⟨c33, ?_⟩
        clear hK K
        refine wpAnyH_take (i := 3) (v := .int .i64 (us.length : Nat)) rfl (by kernel_rfl) (by kernel_rfl) (by kernel_rfl) (fun _ _ _ h => h) (Or.inl ⟨by rfl, fun w hS => by go_simp⟩) c33 ?_
        simp only [Act.put, List.setIfInBounds_toArray, List.set_cons_zero, List.set_cons_succ]
        refine wpAnyH_take (i := 6) (v := .agg #[.int .i64 tok, .int .i64 (us.length : Nat), .bool false, .slice a3 x.1.2 cp3]) rfl (by kernel_rfl) (by kernel_rfl) (by kernel_rfl) (fun _ _ _ h => h) (Or.inl ⟨by rfl, fun w hS => by go_simp⟩) c33 ?_
        simp only [Act.put, List.setIfInBounds_toArray, List.set_cons_zero, List.set_cons_succ]
        refine wpAnyH_all (rs := [0, 7]) (by kernel_rfl) (by simp) ?_
        intro i hi
        simp only [List.mem_cons, List.not_mem_nil, or_false] at hi
        rcases hi with rfl | rfl
        · skip
          refine wpOp_step rfl (fun K hK => ?_)
          go_simp
          refine hK _ _ ⟨c33, ?_⟩
          clear hK K
          refine wpAnyH_all (rs := [7]) (by kernel_rfl) (by simp) ?_
          intro i hi
          obtain rfl := List.mem_singleton.1 hi
          refine wpOp_step rfl (fun K hK => ?_)
          go_simp
          have hcA := (Chg.refl [] w3).alloc (.cells #[.int .i64 tok, .int .i64 (us.length : Nat), .bool false, .slice a3 x.1.2 cp3] 39)
          have c3A := (hcA.cell (p := ⟨w.heap.size, 0, none⟩) (lt_of_cell c33) (by simp)).trans c33
          have c8A := (hcA.cell (p := ⟨w.heap.size + 1, 0, none⟩) (lt_of_cell c83) (by simp)).trans c83
          refine hK _ _ ⟨c3A, ?_⟩
          clear hK K hcA
          refine wpAnyH_all (rs := [8]) (by kernel_rfl) (by simp) ?_
          intro i hi8
          obtain rfl := List.mem_singleton.1 hi8
          refine wpOp_step rfl (fun K hK => ?_)
          refine step_append_lies _ (by rfl) _ _ _ (by rfl) (w.heap.size + 4) 39 i0 (.agg #[.int .i64 0, .int .i64 0, .bool false, .slice none 0 0]) 4 48 Try.underlying29 Hi.out Hz0.out Hz1.out Hz2.out rfl (by omega) (.slice av us.length cv) us.length (flatC tok us) (by rfl) (Hrow3.out.alloc _) ⟨w3.heap.size, 0, none⟩ 1 1 [.int .i64 tok, .int .i64 (us.length : Nat), .bool false, .slice a3 x.1.2 cp3] (by rfl) (by rfl) (World.news_of_block (cs := #[.int .i64 tok, .int .i64 (us.length : Nat), .bool false, .slice a3 x.1.2 cp3]) (t := 39) (fr := (0, 0)) (heap_alloc_new w3 _)) (by simp [Value.oneCell']) (by omega) (by unfold maxLen; omega) (by omega) (by simp; omega) (w3.heap.size + 1) (by simp) ?_
          intro gg cap4 w4 hown4 hgrow4 hat4 hlt4
          have hB4 : Boxed w4 (w.heap.size + 1) 29 (.slice av us.length cv) := (HB3.out.alloc _).kept hgrow4 (fun e => by have := (Hrow30.out _ e.symm).1; omega)
          have hT4 : Boxed w4 w.heap.size 3 (.int .i64 tok) := (HT3.out.alloc _).kept hgrow4 (fun e => by have := (Hrow30.out _ e.symm).1; omega)
          have c84 := hB4.cell
          have f84 := hB4.frozen
          have c34 := hT4.cell
          have HB4 := Lib.hid hB4
          have HT4 := Lib.hid hT4
          have Hown4 := Lib.hid hown4
          have Hgr4 := Lib.hid hgrow4
          have Hat4 := Lib.hid hat4
          clear hB4 hT4 hown4 hgrow4 hat4
          go_simp
          refine hK _ _ ⟨c34, ?_⟩
          clear hK K
          refine wpAnyH_all (rs := [9]) (by kernel_rfl) (by simp) ?_
          intro i hi9
          obtain rfl := List.mem_singleton.1 hi9
          refine wpOp_step rfl (fun K hK => ?_)
          go_simp
          have hB5 := HB4.out.set (.slice (some ⟨gg, 0, none⟩) (us.length + 1) cap4)
          have hT5 : Boxed (w4.setCell ⟨w.heap.size + 1, 0, none⟩ (.slice (some ⟨gg, 0, none⟩) (us.length + 1) cap4)) w.heap.size 3 (.int .i64 tok) := (heap_setCell_ne _ _ _ _ (by show w.heap.size ≠ w.heap.size + 1; omega)).trans HT4.out
          refine hK _ _ ⟨hT5.cell, ?_⟩
          clear hK K
          refine wpAnyH_done (by kernel_rfl) ?_ _
          exact Hend.out a3 cp3 w3 gg cap4 w4 HB3.out HT3.out Hi3.out Hc3.out Hown4.out Hgr4.out
        · skip
          refine wpOp_step rfl (fun K hK => ?_)
          go_simp
          have hcA := (Chg.refl [] w3).alloc (.cells #[.int .i64 tok, .int .i64 (us.length : Nat), .bool false, .slice a3 x.1.2 cp3] 39)
          have c3A := (hcA.cell (p := ⟨w.heap.size, 0, none⟩) (lt_of_cell c33) (by simp)).trans c33
          have c8A := (hcA.cell (p := ⟨w.heap.size + 1, 0, none⟩) (lt_of_cell c83) (by simp)).trans c83
          refine hK _ _ ⟨c3A, ?_⟩
          clear hK K hcA
          refine wpAnyH_all (rs := [0]) (by kernel_rfl) (by simp) ?_
          intro i hi
          obtain rfl := List.mem_singleton.1 hi
          refine wpOp_step rfl (fun K hK => ?_)
          go_simp
          refine hK _ _ ⟨c3A, ?_⟩
          clear hK K
          refine wpAnyH_all (rs := [8]) (by kernel_rfl) (by simp) ?_
          intro i hi8
          obtain rfl := List.mem_singleton.1 hi8
          refine wpOp_step rfl (fun K hK => ?_)
          refine step_append_lies _ (by rfl) _ _ _ (by rfl) (w.heap.size + 4) 39 i0 (.agg #[.int .i64 0, .int .i64 0, .bool false, .slice none 0 0]) 4 48 Try.underlying29 Hi.out Hz0.out Hz1.out Hz2.out rfl (by omega) (.slice av us.length cv) us.length (flatC tok us) (by rfl) (Hrow3.out.alloc _) ⟨w3.heap.size, 0, none⟩ 1 1 [.int .i64 tok, .int .i64 (us.length : Nat), .bool false, .slice a3 x.1.2 cp3] (by rfl) (by rfl) (World.news_of_block (cs := #[.int .i64 tok, .int .i64 (us.length : Nat), .bool false, .slice a3 x.1.2 cp3]) (t := 39) (fr := (0, 0)) (heap_alloc_new w3 _)) (by simp [Value.oneCell']) (by omega) (by unfold maxLen; omega) (by omega) (by simp; omega) (w3.heap.size + 1) (by simp) ?_
          intro gg cap4 w4 hown4 hgrow4 hat4 hlt4
          have hB4 : Boxed w4 (w.heap.size + 1) 29 (.slice av us.length cv) := (HB3.out.alloc _).kept hgrow4 (fun e => by have := (Hrow30.out _ e.symm).1; omega)
          have hT4 : Boxed w4 w.heap.size 3 (.int .i64 tok) := (HT3.out.alloc _).kept hgrow4 (fun e => by have := (Hrow30.out _ e.symm).1; omega)
          have c84 := hB4.cell
          have f84 := hB4.frozen
          have c34 := hT4.cell
          have HB4 := Lib.hid hB4
          have HT4 := Lib.hid hT4
          have Hown4 := Lib.hid hown4
          have Hgr4 := Lib.hid hgrow4
          have Hat4 := Lib.hid hat4
          clear hB4 hT4 hown4 hgrow4 hat4
          go_simp
          refine hK _ _ ⟨c34, ?_⟩
          clear hK K
          refine wpAnyH_all (rs := [9]) (by kernel_rfl) (by simp) ?_
          intro i hi9
          obtain rfl := List.mem_singleton.1 hi9
          refine wpOp_step rfl (fun K hK => ?_)
          go_simp
          have hB5 := HB4.out.set (.slice (some ⟨gg, 0, none⟩) (us.length + 1) cap4)
          have hT5 : Boxed (w4.setCell ⟨w.heap.size + 1, 0, none⟩ (.slice (some ⟨gg, 0, none⟩) (us.length + 1) cap4)) w.heap.size 3 (.int .i64 tok) := (heap_setCell_ne _ _ _ _ (by show w.heap.size ≠ w.heap.size + 1; omega)).trans HT4.out
          refine hK _ _ ⟨hT5.cell, ?_⟩
          clear hK K
          refine wpAnyH_done (by kernel_rfl) ?_ _
          exact Hend.out a3 cp3 w3 gg cap4 w4 HB3.out HT3.out Hi3.out Hc3.out Hown4.out Hgr4.out
  case done =>
    rintro D ys W hD ⟨k, rfl, hk1, hk2⟩ hI hK
    obtain ⟨⟨v, us, hb1, hrow, hul, hus⟩, hb0, hWB, hch⟩ := hI
    rw [chU_length] at hul
    have hk0 : 1 ≤ k := by
      rcases Nat.eq_zero_or_pos k with h | h
      · subst h; omega
      · exact h
    obtain ⟨m, rfl⟩ : ∃ m, k = m + 1 := ⟨k - 1, by omega⟩
    rw [hul] at hrow
    obtain ⟨gr, cp, rfl⟩ := ownsRow_succ hrow
    have c8 := hb1.cell
    have hml : m ≤ 1000 := by
      have := Nat.le_mul_of_pos_right m hs
      rw [Nat.succ_mul] at hk2
      omega
    have hcp : m + 1 ≤ cp ∧ cp ≤ maxLen := by
      rcases hrow.2 with ⟨h, _⟩ | ⟨g', cap', cur', hv, _, _, h1, h2, _⟩
      · cases h
      · cases hv; exact ⟨h1, h2⟩
    have hfl := (flatC_get tok us m (by omega) (.bool false)).2.2.1
    have q2 := hrow.cells (g := gr) rfl _ _ hfl
    rw [Addr.add_lit, Nat.zero_add] at q2
    have hgr := ownsRow_ge hrow (g := gr) rfl
    have f2 : W.frozen? ⟨gr, m * 4 + 2, none⟩ = false := by
      rcases hrow.2 with ⟨h, _⟩ | ⟨g', cap', cur', hv, _, h1, _⟩
      · cases h
      · cases hv; exact frozen_of_heap h1
    have c9 : (W.setCell ⟨gr, m * 4 + 2, none⟩ (.bool true)).cell? ⟨w.heap.size + 1, 0, none⟩ = some (.slice (some ⟨gr, 0, none⟩) (m + 1) cp) :=
      (World.cell?_of_block (w := W) (a := ⟨w.heap.size + 1, 0, none⟩) (heap_setCell_ne _ _ _ _ (by show w.heap.size + 1 ≠ gr; omega))).trans c8
    have hK' : (W.setCell ⟨gr, m * 4 + 2, none⟩ (.bool true)).heap[D]? = some (.deferred (some [])) := by
      rw [heap_setCell_ne _ _ _ _ ?_]
      · exact hK
      · show D ≠ gr
        intro e
        rcases hrow.2 with ⟨h, _⟩ | ⟨g', cap', cur', hv, _, h1, _⟩
        · cases h
        · cases hv; rw [e, h1] at hK; cases hK
    have hfin := split_end (w := w) hn.out (B := w.heap.size + 4) (D := D) (by omega) (by omega) hk1 hk2 hul hrow hus hch hK'
    have Hfin := Lib.hid hfin
    clear hfin hgr
    have Hb1 := Lib.hid hb1
    have Hrow := Lib.hid hrow
    have Hul := Lib.hid hul
    have Hus := Lib.hid hus
    have Hch := Lib.hid hch
    have Hk := Lib.hid (And.intro hk1 hk2)
    clear hb1 hb0 hrow hul hus hch hk1 hk2 hfl H0 Hst b0 b1 b2 b3 hsz hcw
    gi_wp2
    refine ⟨by simp, .inl ⟨_, _, rfl, run_takeDeferred hK', ?_⟩⟩
    refine ⟨_, ?_, Hfin.out⟩
    simp [results, Try.f8, go_sem]
  case stop =>
    rintro D c pre W _ _ h _
    exact h.elim
end Go.Proofs.Ytlhngcpodkiafaa
