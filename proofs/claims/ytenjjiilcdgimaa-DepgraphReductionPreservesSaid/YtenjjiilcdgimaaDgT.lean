/- depgraph: TopologicalOrder. -/
import Derived.Test.YtenjjiilcdgimaaDgS
namespace Go.Proofs.Ytenjjiilcdgimaa
open Go.RowKit Go.ChangeMaps Go.MapKept Go.Shelf
set_option linter.unusedVariables false
set_option linter.unusedSimpArgs false
set_option maxHeartbeats 1000000 in
theorem top_idx (p : Nat → Prop) (w : World) (v : Value) (ks : List I3) (n4 n5 : Nat) (f : I3 → Bool) (hk : I3s p w v ks)
    (hf : ∀ W, Chg [] w W → ∀ k0 k1 k2, (k0, k1, k2) ∈ ks → Calls Try.prog 20 #[.agg #[.int .i64 k0, .int .i64 k1, .int .i64 k2], .pointer (some ⟨n4, 0, none⟩), .pointer (some ⟨n5, 0, none⟩)] W fun e w' => e = .returned (.bool (f (k0, k1, k2))) ∧ Chg [] W w') :
    Calls Try.prog 19 #[v, .func (.func 20) #[] #[.pointer (some ⟨n4, 0, none⟩), .pointer (some ⟨n5, 0, none⟩)]] w fun e w' => e = .returned (.int .i64 (fidx f ks)) ∧ Chg [] w w' := by
  obtain ⟨a, cap, rfl, hm, hc⟩ := hk.shape
  have Hk := Lib.hid hk
  have Hf := Lib.hid hf
  clear hk hf
  unfold maxLen at hm
  go_enter Try.func19, Try.ntmps19
  go_wp2_with fail
  go_loopw [8] (fun i wr => ∃ n : Nat, n ≤ ks.length ∧ i = .int .i64 (n : Nat) ∧ Hid (∀ x ∈ ks.take n, f x = false) ∧ Hid (Chg [] w wr)) (fun i _ => ks.length - (intOf i).toNat)
  case atStart => exact ⟨0, by omega, rfl, Lib.hid (by simp), Lib.hid (Chg.refl _ _)⟩
  case round =>
    obtain ⟨n, hn, rfl, Hnot, Hcw⟩ := hrel
    by_cases hlt : n < ks.length
    · obtain ⟨g, off, rfl, _, q0, q1, q2⟩ := SlR.at (Hk.out.kept (Hcw.out.p (S := fun _ => False)) (fun _ _ h => h)) n hlt (0, 0, 0)
      obtain ⟨x, hx⟩ : ∃ x, ks.getD n (0, 0, 0) = x := ⟨_, rfl⟩
      have hxm : x ∈ ks := by rw [← hx]; exact getD_memb hlt _
      rw [hx] at q0 q1 q2
      have Hx := Lib.hid hx
      obtain ⟨x1, x2, x3⟩ := x
      simp only at q0 q1 q2
      have lg := lt_of_cell q0
      have hn1 : (n : Int) < ks.length := by omega
      have hn0 : (0 : Int) ≤ (n : Int) := by omega
      have Hcall := Lib.hid (Hf.out wr Hcw.out x1 x2 x3 hxm)
      obtain ⟨b, hb⟩ : ∃ b, f (x1, x2, x3) = b := ⟨_, rfl⟩
      rw [hb] at Hcall
      have Hb := Lib.hid hb
      clear hx hxm hb
      go_wp2_with fail
      refine Hcall.out.mono ?_
      rintro e w1 ⟨rfl, hc1⟩
      have H1 := Lib.hid (Hcw.out.trans hc1)
      clear hc1 q0 q1 q2 lg
      cases b
      · go_wp2_with fail
        refine ⟨⟨n + 1, by omega, by go_num, Lib.hid (fun y hy => ?_), H1⟩, by simp [intOf]; omega⟩
        rw [fold_take_snoc ks n hlt (0, 0, 0), List.mem_append, List.mem_singleton] at hy
        rcases hy with hy | rfl
        · exact Hnot.out y hy
        · rw [Hx.out]; exact Hb.out
      · have hfd := fidx_some f ks n hlt (0, 0, 0) Hnot.out (by rw [Hx.out]; exact Hb.out)
        have Hfd := Lib.hid hfd
        clear hfd
        go_wp2_with fail
        go_ret
        exact ⟨by rw [Hfd.out]; rfl, H1.out⟩
    · obtain rfl : n = ks.length := by omega
      have hfd := fidx_none f ks (by have := Hnot.out; rw [List.take_length] at this; exact this)
      have Hfd := Lib.hid hfd
      clear hfd
      go_wp2_with fail
      go_ret
      exact ⟨by rw [Hfd.out]; rfl, Hcw.out⟩
theorem fidx_cases {α : Type} (q : α → Bool) (l : List α) (d : α) : (fidx q l = -1 ∧ ∀ x ∈ l, q x = false) ∨ ∃ k : Nat, k < l.length ∧ fidx q l = (k : Int) ∧ q (l.getD k d) = true := by
  unfold fidx
  cases h : l.findIdx? q with
  | none => exact Or.inl ⟨rfl, by rwa [List.findIdx?_eq_none_iff] at h⟩
  | some k =>
    rw [List.findIdx?_eq_some_iff_getElem] at h
    obtain ⟨hk, hq, _⟩ := h
    exact Or.inr ⟨k, hk, rfl, by rw [List.getD_eq_getElem?_getD, List.getElem?_eq_getElem hk]; exact hq⟩
theorem GrAt.besides {w w' : World} {B gb bm bs : Nat} {L : GL} {kv : Value} {K : List I3} {es : List (I3 × Value)} (h : GrAt w B gb bm L kv K) (hm : MapAt Try.prog 24 i3v w bs es) (hne : bs ≠ bm) (hc : Chg [bs] w w') : GrAt w' B gb bm L kv K :=
  ⟨(hc.block _ (lt_of_obj h.box) (by simpa using map_obj hm h.box)).trans h.box, h.mp.kept hc (by simpa using hne.symm), fun x => (h.row x).kept hc.toP fun g hg hS => own_map (h.row x) hm (by rw [hg]; simpa using hS), h.dj, h.kw.kept hc.toP fun g hg hS => own_map h.kw hm (by rw [hg]; simpa using hS), h.dk⟩
set_option maxRecDepth 100000 in
theorem tr1_any (w : World) (B gb bm n4 n5 : Nat) (E : List Ed) (L : GL) (kv : Value) (bs : Nat) (O : List I3) (k0 k1 k2 : Int) (h : GrAt w B gb bm L kv (ks E)) (hL : ∀ y, glL L y = nx E y) (hok : EdOk E) (hk : QKok (k0, k1, k2)) (hm : MapAt Try.prog 24 i3v w bs (seenE O))
    (h4 : w.heap[n4]? = some (.cells #[.pointer (some ⟨gb, 0, none⟩)] 46 (0, 0))) (h5 : w.heap[n5]? = some (.cells #[.map (some bs)] 49 (0, 0))) :
    Calls Try.prog 20 #[.agg #[.int .i64 k0, .int .i64 k1, .int .i64 k2], .pointer (some ⟨n4, 0, none⟩), .pointer (some ⟨n5, 0, none⟩)] w fun e w' => e = .returned (.bool (decide (Rdy E O (k0, k1, k2)))) ∧ Chg [] w w' := by
  obtain ⟨w1, hw1⟩ : ∃ q, q = w.alloc (.cells #[.int .i64 k0, .int .i64 k1, .int .i64 k2] 24) := ⟨_, rfl⟩
  have hc1 : Chg [] w w1 := by rw [hw1]; exact (Chg.refl [] w).alloc _
  have hr := ready_any w1 B gb bm E L kv bs O k0 k1 k2 (h.same hc1) hL hok hk (hm.kept hc1 (by simp))
  have p4 : w1.cell? ⟨n4, 0, none⟩ = some (.pointer (some ⟨gb, 0, none⟩)) := cell_of_heap ((hc1.block _ (lt_of_obj h4) (by simp)).trans h4) rfl
  have p5 : w1.cell? ⟨n5, 0, none⟩ = some (.map (some bs)) := cell_of_heap ((hc1.block _ (lt_of_obj h5) (by simp)).trans h5) rfl
  have b0 : w1.cell? ⟨w.heap.size, 0, none⟩ = some (.int .i64 k0) := by rw [hw1]; exact cell_of_heap (heap_at _ _ _ rfl) rfl
  have b1 : w1.cell? ⟨w.heap.size, 1, none⟩ = some (.int .i64 k1) := by rw [hw1]; exact cell_of_heap (heap_at _ _ _ rfl) rfl
  have b2 : w1.cell? ⟨w.heap.size, 2, none⟩ = some (.int .i64 k2) := by rw [hw1]; exact cell_of_heap (heap_at _ _ _ rfl) rfl
  have Hw1 := Lib.hid hw1
  have Hc1 := Lib.hid hc1
  have Hr := Lib.hid hr
  clear h hm h4 h5 hw1 hc1 hr hk hok
  go_enter Try.func20, Try.ntmps20
  go_upto_region 1 with (fail)
  rw [← Hw1.out]
  go_wp2_with fail
  refine Hr.out.mono ?_
  rintro e w2 ⟨rfl, hc2⟩
  have H2 := Lib.hid hc2
  clear hc2
  go_wp2_with fail
  go_ret
  exact ⟨rfl, Hc1.out.trans H2.out⟩
/-- the loop's state: keys placed, in order -/
structure TI (w3 wr : World) (bs : Nat) (E : List Ed) (O : List I3) (v6 : Value) : Prop where
  chg : Chg [bs] w3 wr
  mp : MapAt Try.prog 24 i3v wr bs (seenE O)
  ord : OwnK wr w3.heap.size v6 O
  top : TopI E O
def TopPost (w : World) (E : List Ed) (e : Ending) (w' : World) : Prop :=
  ((e = .returned (.tuple #[.slice none 0 0, .int .i64 8]) ∧ ∃ x, Reach E x x) ∨ ∃ a c O, e = .returned (.tuple #[.slice a O.length c, .int .i64 0]) ∧ I3s (fun g => w.heap.size ≤ g ∧ g < w'.heap.size) w' (.slice a O.length c) O ∧ TopI E O ∧ O.length = (ks E).length) ∧ Chg [] w w'
theorem ks_ok {E : List Ed} (h : EdOk E) {k : I3} (hk : k ∈ ks E) : QKok k := by
  obtain ⟨e, he, h1⟩ := ((ks_spec E).2.1 k).1 hk
  rcases h1 with rfl | rfl
  · exact (h e he).1
  · exact (h e he).2
set_option maxRecDepth 100000 in
set_option maxHeartbeats 8000000 in
theorem topo_any (p : Nat → Prop) (w : World) (v : Value) (E : List Ed) (h : EdP p w v E) (hl : E.length ≤ 100) (hok : EdOk E) :
    Calls Try.prog 10 #[v] w (TopPost w E) := by
  have hmm := @run_makeMap Try.prog
  have hng := newGraph_any p w v E false h hl hok
  rw [show revIf false E = E from rfl] at hng
  obtain ⟨a, cap, rfl, _, _⟩ := SlR.shape h
  have Hng := Lib.hid hng
  have Hok := Lib.hid hok
  clear h hng hok
  go_enter Try.func10, Try.ntmps10
  go_wp2_with fail
  refine Hng.out.mono ?_
  rintro e w2 ⟨gb, bm, L, kv, rfl, hG⟩
  obtain ⟨ak, ck, rfl⟩ := ownsRow_shape hG.at_.kw
  obtain ⟨w3, hw3⟩ : ∃ q, q = ((w2.alloc (.cells #[.pointer (some ⟨gb, 0, none⟩)] 46)).alloc (.map #[] 0)).alloc (.cells #[.map (some (w2.heap.size + 1))] 49) := ⟨_, rfl⟩
  obtain ⟨n4, hn4⟩ : ∃ n, n = w2.heap.size := ⟨_, rfl⟩
  obtain ⟨bs, hbs⟩ : ∃ n, n = w2.heap.size + 1 := ⟨_, rfl⟩
  obtain ⟨n5, hn5⟩ : ∃ n, n = w2.heap.size + 1 + 1 := ⟨_, rfl⟩
  have hc3 : Chg [] w2 w3 := by rw [hw3]; exact (((Chg.refl [] w2).alloc _).alloc _).alloc _
  have hb4 : w3.heap[n4]? = some (.cells #[.pointer (some ⟨gb, 0, none⟩)] 46 (0, 0)) := by
    rw [hw3, hn4]; exact (heap_past _ _ _ (by simp <;> omega)).trans ((heap_past _ _ _ (by simp)).trans (heap_at _ _ _ rfl))
  have hb5 : w3.heap[n5]? = some (.cells #[.map (some bs)] 49 (0, 0)) := by
    rw [hw3, hn5, hbs]; exact heap_at _ _ _ (by simp)
  have hm3 : MapAt Try.prog 24 i3v w3 bs (seenE []) := by
    have h1 := MapAt.made Try.prog 24 i3v (w2.alloc (.cells #[.pointer (some ⟨gb, 0, none⟩)] 46))
    have h2 := h1.kept ((Chg.refl [] _).alloc (.cells #[.map (some (w2.heap.size + 1))] 49)) (by simp)
    rw [hw3, hbs]
    simpa [seenE] using h2
  have hG3 := hG.at_.same hc3
  have hL := hG.list
  have hbm := hG.at_.mp.lt
  have hne : bs ≠ bm := by omega
  have h45 : n4 ≠ bs ∧ n5 ≠ bs := by omega
  have hks := (ks_spec E).2.2
  have hcw3 : Chg [] w w3 := hG.chg.trans hc3
  have hwb : w.heap.size ≤ bs := by have := hG.chg.size; omega
  have H0 := Lib.hid (And.intro hG3 (And.intro hb4 (And.intro hb5 (And.intro hm3 (And.intro hne (And.intro h45 (And.intro hL (And.intro hcw3 hwb))))))))
  have hT0 : TI w3 w3 bs E [] (.slice none 0 0) := ⟨Chg.refl _ _, hm3, OwnK.nil _ _, TopI.nil E⟩
  have HT0 := Lib.hid hT0
  have HW := Lib.hid (And.intro hw3 (And.intro hn4 (And.intro hbs hn5)))
  have hkb := hG.at_.kw.bound
  have hkm : (ks E).length ≤ maxLen := by omega
  unfold maxLen at hkm
  clear hG hc3 hb4 hb5 hm3 hG3 hL hbm hne h45 hcw3 hw3 hn4 hbs hn5 hT0 hkb
  go_wp2_with fail
  rw [← HW.out.1, ← HW.out.2.2.2, ← HW.out.2.2.1, ← HW.out.2.1]
  go_loopw [6] (fun v6 wr => ∃ (O : List I3) (a6 : Option Addr) (c6 : Nat), v6 = .slice a6 O.length c6 ∧ Hid (TI w3 wr bs E O v6)) (fun v6 _ => (ks E).length - lenV v6)
  case atStart => exact ⟨[], none, 0, rfl, HT0⟩
  case round =>
    clear HT0
    obtain ⟨O, a6, c6, rfl, HT⟩ := hrel
    have hT := HT.out
    obtain ⟨hG3, hb4, hb5, hm3, hne, h45, hL, hcw3, hwb⟩ := H0.out
    have hG := hG3.besides hm3 hne hT.chg
    have hx4 := (hT.chg.block _ (lt_of_obj hb4) (by simpa using h45.1)).trans hb4
    have hx5 := (hT.chg.block _ (lt_of_obj hb5) (by simpa using h45.2)).trans hb5
    have p4 : wr.cell? ⟨n4, 0, none⟩ = some (.pointer (some ⟨gb, 0, none⟩)) := cell_of_heap hx4 rfl
    have g1 : wr.cell? ⟨gb, 1, none⟩ = some (.slice ak (ks E).length ck) := cell_of_heap hG.box rfl
    have l4 := lt_of_cell p4
    have lg := lt_of_cell g1
    have hol := hT.top.len
    by_cases hlt : O.length < (ks E).length
    · have hlt1 : (O.length : Int) < (ks E).length := by omega
      have hidx := top_idx _ wr (.slice ak (ks E).length ck) (ks E) n4 n5 (fun k => decide (Rdy E O k)) hG.kw.i3s (fun W hW k0 k1 k2 hk => tr1_any W _ gb bm n4 n5 E L _ bs O k0 k1 k2 (hG.same hW) hL Hok.out (ks_ok Hok.out hk) (hT.mp.kept hW (by simp)) ((hW.block _ (lt_of_obj hx4) (by simp)).trans hx4) ((hW.block _ (lt_of_obj hx5) (by simp)).trans hx5))
      have Hidx := Lib.hid hidx
      clear hT hG3 hb4 hb5 hm3 hne h45 hL hcw3 hwb hG hx4 hx5 hidx
      go_wp2_with fail
      refine Hidx.out.mono ?_
      rintro e w5 ⟨rfl, hc5⟩
      have H5 := Lib.hid hc5
      clear hc5 p4 g1 l4 lg Hidx
      rcases fidx_cases (fun k => decide (Rdy E O k)) (ks E) (0, 0, 0) with ⟨hz, hall⟩ | ⟨k, hk, hz, hrd⟩
      · rw [hz]
        have Hall := Lib.hid hall
        clear hz hall
        go_wp2_with fail
        go_ret2
        refine ⟨Or.inl ⟨rfl, HT.out.top.stuck hlt fun k hk hr => ?_⟩, (H0.out.2.2.2.2.2.2.2.1.comp HT.out.chg fun g hg => ?_).new H5.out⟩
        · have := Hall.out k hk
          rw [decide_eq_true hr] at this
          cases this
        · exact Or.inr (by rw [List.mem_singleton.1 hg]; exact H0.out.2.2.2.2.2.2.2.2)
      · rw [hz]
        have hk0 : ¬ ((k : Int) < 0) := by omega
        have Hrd := Lib.hid hrd
        clear hz hrd
        go_upto_region 8 with (fail)
        refine wp_region_readsQ 8 (by kernel_rfl) (by kernel_rfl) ?_
        intro wd hwd
        simp only [List.take_succ_cons, List.take_zero, List.drop_succ_cons, List.drop_zero]
        have hcd : Chg [] wr wd := by rw [hwd]; exact H5.out.drew
        have hT := HT.out
        obtain ⟨hG3, hb4, hb5, hm3, hne, h45, hL, hcw3, hwb⟩ := H0.out
        have h3d : Chg [bs] w3 wd := hT.chg.new hcd
        have hG := hG3.besides hm3 hne h3d
        have hx4 := (h3d.block _ (lt_of_obj hb4) (by simpa using h45.1)).trans hb4
        have hx5 := (h3d.block _ (lt_of_obj hb5) (by simpa using h45.2)).trans hb5
        have p4 : wd.cell? ⟨n4, 0, none⟩ = some (.pointer (some ⟨gb, 0, none⟩)) := cell_of_heap hx4 rfl
        have p5 : wd.cell? ⟨n5, 0, none⟩ = some (.map (some bs)) := cell_of_heap hx5 rfl
        have g1 : wd.cell? ⟨gb, 1, none⟩ = some (.slice ak (ks E).length ck) := cell_of_heap hG.box rfl
        have l4 := lt_of_cell p4
        have l5 := lt_of_cell p5
        have lg := lt_of_cell g1
        obtain ⟨gk, ok, rfl, _, q0, q1, q2⟩ := SlR.at hG.kw.i3s k hk (0, 0, 0)
        obtain ⟨y, hy⟩ : ∃ y, (ks E).getD k (0, 0, 0) = y := ⟨_, rfl⟩
        have hrd := Hrd.out
        have hym : y ∈ ks E := by rw [← hy]; exact getD_memb hk _
        have hyk := ks_ok Hok.out hym
        rw [hy] at q0 q1 q2 hrd
        obtain ⟨y0, y1, y2⟩ := y
        simp only at q0 q1 q2
        have lq := lt_of_cell q0
        have hrdy : Rdy E O (y0, y1, y2) := by simpa using hrd
        have hk1 : (k : Int) < (ks E).length := by omega
        have hk2 : (0 : Int) ≤ (k : Int) := by omega
        have hmd := hT.mp.kept hcd (by simp)
        obtain ⟨o, hup, hmu⟩ := hmd.update qkeyed i3v_inj Try.underlying49 (qkOk hyk) (.int .i64 1)
        rw [seen_ups _ _ hrdy.1] at hmu
        simp only [i3v] at hup
        obtain ⟨w6, hw6⟩ : ∃ q, q = setBlock wd bs o := ⟨_, rfl⟩
        rw [← hw6] at hup hmu
        have hc6 : Chg [bs] wd w6 := by rw [hw6]; exact chg_setBlock wd bs o
        have h36 : Chg [bs] w3 w6 := h3d.trans hc6
        have hG6 := hG3.besides hm3 hne h36
        have hz4 := (h36.block _ (lt_of_obj hb4) (by simpa using h45.1)).trans hb4
        have e4 : w6.cell? ⟨n4, 0, none⟩ = some (.pointer (some ⟨gb, 0, none⟩)) := cell_of_heap hz4 rfl
        have e1 : w6.cell? ⟨gb, 1, none⟩ = some (.slice (some ⟨gk, ok, none⟩) (ks E).length ck) := cell_of_heap hG6.box rfl
        obtain ⟨gk', ok', he, _, r0, r1, r2⟩ := SlR.at hG6.kw.i3s k hk (0, 0, 0)
        cases he
        rw [hy] at r0 r1 r2
        simp only at r0 r1 r2
        have m4 := lt_of_cell e4
        have m1 := lt_of_cell e1
        have mr := lt_of_cell r0
        have ho6 : OwnK w6 w3.heap.size (.slice a6 O.length c6) O := (hT.ord.same hcd).kept hc6.toP fun g hg hS => own_map (hT.ord.same hcd) hmd (by rw [hg]; simpa using hS)
        obtain ⟨w7, hw7⟩ : ∃ q, q = w6.alloc (.cells #[.int .i64 y0, .int .i64 y1, .int .i64 y2] 24) := ⟨_, rfl⟩
        obtain ⟨n7, hn7⟩ : ∃ n, n = w6.heap.size := ⟨_, rfl⟩
        have hc7 : Chg [] w6 w7 := by rw [hw7]; exact (Chg.refl [] w6).alloc _
        have hb7 : w7.heap[n7]? = some (kObj (y0, y1, y2)) := by rw [hw7, hn7]; exact heap_at _ _ _ rfl
        obtain ⟨v8, w8, hr8, ho8, hc8, _⟩ := run_append_keys w7 26 w3.heap.size 0 _ _ O [(y0, y1, y2)] (ho6.same hc7) (OwnK.of_heap1 hb7) (by simp only [List.length_cons, List.length_nil]; omega) (h36.new hc7).size
        obtain ⟨a8, c8, rfl⟩ := ownsRow_shape ho8
        have hOl : (O ++ [(y0, y1, y2)]).length = O.length + 1 := by simp
        rw [hOl] at hr8
        have H8 := Lib.hid (show TI w3 w8 bs E (O ++ [(y0, y1, y2)]) (.slice a8 (O ++ [(y0, y1, y2)]).length c8) from
          ⟨(h36.new hc7).comp hc8 fun g hg => Or.inr ((ho6.same hc7).lt g (by simpa using hg)).1, (hmu.kept hc7 (by simp)).kept hc8 (fun hS => by
            have := ((ho6.same hc7).lt bs (by simpa using hS)).1
            have := hm3.lt
            omega), ho8, hT.top.snoc hym hrdy⟩)
        have HW7 := Lib.hid (And.intro hw7 hn7)
        have Hr8 := Lib.hid hr8
        clear hwd hcd hT hG3 hb4 hb5 hm3 hne h45 hL hcw3 hwb h3d hG hx4 hx5 hy hrd hym hyk hrdy hmd hmu hw6 hc6 h36 hG6 hz4 ho6 hw7 hn7 hc7 hb7 hr8 ho8 hc8 Hrd
        repeat go_big_quiet_step (fail)
        refine wpQuiet_nil ?_
        go_wp2_with (at_builtin; rw [← HW7.out.1, ← HW7.out.2]; refine wpList_append_run rfl _ _ _ rfl _ _ _ _ rfl rfl Hr8.out ?_)
        rw [hOl] at H8
        exact ⟨⟨O ++ [(y0, y1, y2)], a8, c8, by rw [hOl], H8⟩, by simp only [lenV]; omega⟩
    · have hnlt : ¬ ((O.length : Int) < (ks E).length) := by omega
      have hwb := H0.out.2.2.2.2.2.2.2.2
      have hcw := hcw3.comp hT.chg fun g hg => Or.inr (by rw [List.mem_singleton.1 hg]; exact hwb)
      have Hend := Lib.hid (show I3s (fun g => w.heap.size ≤ g ∧ g < wr.heap.size) wr (.slice a6 O.length c6) O ∧ TopI E O ∧ O.length = (ks E).length ∧ Chg [] w wr from
        ⟨hT.ord.i3s.imp fun g hg => ⟨Nat.le_trans hcw3.size hg.1, hg.2.1⟩, hT.top, by omega, hcw⟩)
      clear hT hG3 hb4 hb5 hm3 hne h45 hL hcw3 hwb hG hx4 hx5 hcw
      go_wp2_with fail
      go_ret2
      exact ⟨Or.inr ⟨a6, c6, O, rfl, Hend.out.1, Hend.out.2.1, Hend.out.2.2.1⟩, Hend.out.2.2.2⟩
end Go.Proofs.Ytenjjiilcdgimaa
