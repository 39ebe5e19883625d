/- depgraph.newGraph. -/
import Derived.Test.YtenjjiilcdgimaaDgF
namespace Go.Proofs.Ytenjjiilcdgimaa
open Go.RowKit Go.ChangeMaps Go.MapKept Go.Shelf
set_option linter.unusedVariables false
set_option linter.unusedSimpArgs false
def rdEd (w : World) (ad : Addr) (e : Ed) : Prop := rdI3 w ad e.1 ∧ rdI3 w ⟨ad.block, ad.off + 3, none⟩ e.2
def EdP (p : Nat → Prop) (w : World) (v : Value) (E : List Ed) : Prop := SlR p 6 rdEd w v E
theorem EdP.same {p : Nat → Prop} {w w' : World} {v : Value} {E : List Ed} (h : EdP p w v E) (hc : Chg [] w w') : EdP p w' v E :=
  SlR.imp h (fun _ h => h) fun ad x hp hx => ⟨hx.1.kept (hc.p (S := fun _ => False)) (fun h => h), hx.2.kept (hc.p (S := fun _ => False)) (fun h => h)⟩
def e0 : Ed := (k0, k0)
theorem EdP.cells {p : Nat → Prop} {w : World} {a : Option Addr} {n cap : Nat} {E : List Ed} (h : EdP p w (.slice a n cap) E) (i : Nat) (hi : i < E.length) :
    ∃ g off, a = some ⟨g, off, none⟩ ∧ p g ∧ w.cell? ⟨g, off + i * 6, none⟩ = some (.int .i64 (E.getD i e0).1.1) ∧ w.cell? ⟨g, off + i * 6 + 1, none⟩ = some (.int .i64 (E.getD i e0).1.2.1) ∧ w.cell? ⟨g, off + i * 6 + 2, none⟩ = some (.int .i64 (E.getD i e0).1.2.2) ∧
      w.cell? ⟨g, off + i * 6 + 3, none⟩ = some (.int .i64 (E.getD i e0).2.1) ∧ w.cell? ⟨g, off + i * 6 + 4, none⟩ = some (.int .i64 (E.getD i e0).2.2.1) ∧ w.cell? ⟨g, off + i * 6 + 5, none⟩ = some (.int .i64 (E.getD i e0).2.2.2) := by
  obtain ⟨g, off, rfl, hp, ⟨h1, h2, h3⟩, h4, h5, h6⟩ := SlR.at h i hi e0
  exact ⟨g, off, rfl, hp, h1, h2, h3, h4, h5, h6⟩
def revIf (r : Bool) (E : List Ed) : List Ed := if r then rev E else E
theorem revIf_len (r : Bool) (E : List Ed) : (revIf r E).length = E.length := by unfold revIf rev; split <;> simp
def EdOk (E : List Ed) : Prop := ∀ e ∈ E, QKok e.1 ∧ QKok e.2
theorem getD_memEd {E : List Ed} {k : Nat} (h : k < E.length) : E.getD k e0 ∈ E := by
  rw [List.getD_eq_getElem?_getD, List.getElem?_eq_getElem h]
  simp
theorem revIf_take (r : Bool) (E : List Ed) (k : Nat) (h : k < E.length) : revIf r (E.take (k + 1)) = revIf r (E.take k) ++ [if r then ((E.getD k e0).2, (E.getD k e0).1) else E.getD k e0] := by
  rw [fold_take_snoc E k h e0]
  unfold revIf rev
  cases r <;> simp
/-- the graph is that of E -/
structure GI (w0 w : World) (gb bm : Nat) (E : List Ed) (L : GL) (kv : Value) : Prop where
  at_ : GrAt w w0.heap.size gb bm L kv (ks E)
  nx : glN L = (gr E).1
  chg : Chg [] w0 w
  ge : w0.heap.size ≤ gb ∧ w0.heap.size ≤ bm
theorem GI.list {w0 w : World} {gb bm : Nat} {E : List Ed} {L : GL} {kv : Value} (h : GI w0 w gb bm E L kv) (x : I3) : glL L x = Proofs.Ytenjjiilcdgimaa.nx E x := by
  unfold glL Proofs.Ytenjjiilcdgimaa.nx
  rw [← h.nx, glN_get]
theorem keepObj {a b : World} {v : Value} {n : Nat} {o : Obj} (hc : Chg v.ownBlock.toList a b) (h : a.heap[n]? = some o) (hne : v.ownBlock ≠ some n) : b.heap[n]? = some o := (hc.block n (lt_of_obj h) (by simpa using hne)).trans h
def kObj (k : I3) : Obj := .cells #[.int .i64 k.1, .int .i64 k.2.1, .int .i64 k.2.2] 24 (0, 0)
theorem ng_mid {wq wi : World} {B gb bm : Nat} {L : GL} {kv : Value} {K : List I3} {n8 n9 : Nat} {x8 x9 : I3} (hG : GrAt wq B gb bm L kv K) (h8 : wq.heap[n8]? = some (kObj x8)) (h9 : wq.heap[n9]? = some (kObj x9)) (x : I3) (e8 : (glV L x).ownBlock ≠ some n8) (e9 : (glV L x).ownBlock ≠ some n9) (hc : Chg (glV L x).ownBlock.toList wq wi) :
    wi.heap[gb]? = some (.cells #[.map (some bm), kv] 52 (0, 0)) ∧ wi.heap[n8]? = some (kObj x8) ∧ wi.heap[n9]? = some (kObj x9) ∧ MapAt Try.prog 24 i3v wi bm (glE L) :=
  ⟨keepObj hc hG.box (own_obj (hG.row x) hG.box (by decide)), keepObj hc h8 e8, keepObj hc h9 e9, hG.mp.kept hc (by simpa using own_map (hG.row x) hG.mp)⟩
theorem ng_midK {wq wi : World} {B gb bm : Nat} {L : GL} {kv : Value} {K : List I3} {n8 n9 : Nat} {x8 x9 : I3} (hG : GrAt wq B gb bm L kv K) (h8 : wq.heap[n8]? = some (kObj x8)) (h9 : wq.heap[n9]? = some (kObj x9)) (e8 : kv.ownBlock ≠ some n8) (e9 : kv.ownBlock ≠ some n9) (hc : Chg kv.ownBlock.toList wq wi) :
    wi.heap[gb]? = some (.cells #[.map (some bm), kv] 52 (0, 0)) ∧ wi.heap[n8]? = some (kObj x8) ∧ wi.heap[n9]? = some (kObj x9) :=
  ⟨keepObj hc hG.box (own_obj hG.kw hG.box (by decide)), keepObj hc h8 e8, keepObj hc h9 e9⟩
theorem new_ne {v v5 : Value} {n m : Nat} (hn : ∀ g, v5.ownBlock = some g → v.ownBlock = some g ∨ m ≤ g) (h : v.ownBlock ≠ some n) (hl : n < m) : v5.ownBlock ≠ some n := fun hz => (hn n hz).elim h (fun hm => by omega)
theorem kObj_ne {w : World} {gb n : Nat} {cs : Array Value} {x : I3} (h : w.heap[gb]? = some (.cells cs 52 (0, 0))) (h8 : w.heap[n]? = some (kObj x)) : n ≠ gb := fun e => by
  rw [e, h] at h8
  simp [kObj] at h8
theorem ng_last {w5 w6 : World} {B gb n8 n9 : Nat} {x8 x9 : I3} {cs : Array Value} {v5 : Value} {l5 : List I3} (h5 : OwnK w5 B v5 l5) (m1 : w5.heap[gb]? = some (.cells cs 52 (0, 0))) (m2 : w5.heap[n8]? = some (kObj x8)) (m3 : w5.heap[n9]? = some (kObj x9)) (e8 : v5.ownBlock ≠ some n8) (e9 : v5.ownBlock ≠ some n9) (hc : Chg v5.ownBlock.toList w5 w6) (u : Value) :
    w6.heap[gb]? = some (.cells cs 52 (0, 0)) ∧ w6.heap[n8]? = some (kObj x8) ∧ w6.heap[n9]? = some (kObj x9) ∧ (w6.setCell ⟨gb, 1, none⟩ u).heap[n8]? = some (kObj x8) ∧ (w6.setCell ⟨gb, 1, none⟩ u).heap[n9]? = some (kObj x9) := by
  have h1 := keepObj hc m1 (own_obj h5 m1 (by decide))
  have h2 := keepObj hc m2 e8
  have h3 := keepObj hc m3 e9
  exact ⟨h1, h2, h3, (heap_setCell_ne _ _ _ _ (kObj_ne h1 h2)).trans h2, (heap_setCell_ne _ _ _ _ (kObj_ne h1 h3)).trans h3⟩
theorem ng_len {E1 : List Ed} {x : I3} (h : (ks E1).length ≤ 2 * E1.length) (hl : E1.length ≤ 100) : (insK (ks E1) x).length ≤ 1000 := by
  have := ins_len (ks E1) x
  omega
theorem kCellsAt {w : World} {n : Nat} {a0 a1 a2 : Int} (h : w.heap[n]? = some (kObj (a0, a1, a2))) : w.cell? ⟨n, 0, none⟩ = some (.int .i64 a0) ∧ w.cell? ⟨n, 1, none⟩ = some (.int .i64 a1) ∧ w.cell? ⟨n, 2, none⟩ = some (.int .i64 a2) :=
  ⟨cell_of_heap h rfl, cell_of_heap h rfl, cell_of_heap h rfl⟩
theorem ng_end {w wr wj w5 w6 : World} {gb bm : Nat} {E1 : List Ed} {L : GL} {kv v' v5 v6 : Value} {x y : I3} (hG : GI w wr gb bm E1 L kv) (hG2 : GrAt wj w.heap.size gb bm (ups L x (v', insK (glL L x) y)) kv (ks E1)) (hcj : Chg [] w wj)
    (h5 : Chg kv.ownBlock.toList wj.drew w5) (n5 : ∀ g, v5.ownBlock = some g → kv.ownBlock = some g ∨ wj.drew.heap.size ≤ g) (h6 : Chg v5.ownBlock.toList w5 w6) (own6 : OwnK w6 w.heap.size v6 (insK (insK (ks E1) x) y)) (n6 : ∀ g, v6.ownBlock = some g → v5.ownBlock = some g ∨ w5.heap.size ≤ g) :
    GI w (w6.setCell ⟨gb, 1, none⟩ v6) gb bm (E1 ++ [(x, y)]) (ups L x (v', insK (glL L x) y)) v6 := by
  have c5 : Chg kv.ownBlock.toList wj w5 := (Chg.refl _ wj).drew.trans h5
  have c56 : Chg kv.ownBlock.toList wj w6 := c5.comp h6 fun g hg => (n5 g (by simpa using hg)).elim (fun e => Or.inl (by simpa using e)) Or.inr
  have n6' : ∀ g, v6.ownBlock = some g → kv.ownBlock = some g ∨ wj.heap.size ≤ g := fun g hg => (n6 g hg).elim (fun e => n5 g e) fun e => Or.inr (Nat.le_trans c5.size e)
  have hks : ks (E1 ++ [(x, y)]) = insK (insK (ks E1) x) y := by unfold ks; rw [gr_snoc]; rfl
  refine ⟨by rw [hks]; exact hG2.updK own6 c56 n6', ?_, ?_, hG.ge⟩
  · rw [← glN_ups, gr_snoc, hG.list, hG.nx]
    rfl
  · exact (hcj.comp c56 fun g hg => Or.inr (hG2.kw.lt g (by simpa using hg)).1).setCell (Or.inr hG.ge.1) _
def NgPost (w : World) (E : List Ed) (e : Ending) (w' : World) : Prop :=
  ∃ gb bm L kv, e = .returned (.pointer (some ⟨gb, 0, none⟩)) ∧ GI w w' gb bm E L kv
set_option maxRecDepth 100000 in
set_option maxHeartbeats 8000000 in
theorem newGraph_any (p : Nat → Prop) (w : World) (v : Value) (E : List Ed) (r : Bool) (h : EdP p w v E) (hl : E.length ≤ 100) (hok : EdOk E) :
    Calls Try.prog 17 #[v, .bool r] w (NgPost w (revIf r E)) := by
  obtain ⟨a, cap, rfl, hml, hcp⟩ := SlR.shape h
  have H := Lib.hid h
  have Hok := Lib.hid hok
  have hmm := @run_makeMap Try.prog
  obtain ⟨w1, hw1⟩ : ∃ x, x = (w.alloc (.map #[] 0)).alloc (.cells #[.map (some w.heap.size), .slice none 0 0] 52) := ⟨_, rfl⟩
  have hG0 : GI w w1 (w.heap.size + 1) w.heap.size [] [] (.slice none 0 0) := by
    refine ⟨⟨by rw [hw1]; exact heap_at _ _ _ (by simp), ?_, fun x => OwnK.nil _ _, fun x y _ g hg => by simp [glV, aget_nil, Value.ownBlock] at hg, OwnK.nil _ _, fun x g hg => by simp [glV, aget_nil, Value.ownBlock] at hg⟩, rfl, by rw [hw1]; exact ((Chg.refl [] w).alloc _).alloc _, by omega⟩
    rw [hw1]
    exact (MapAt.made Try.prog 24 i3v w).kept ((Chg.refl [] _).alloc _) (by simp)
  have hmi : min (E.length : Int) 400 = (E.length : Int) := by omega
  have HG0 := Lib.hid hG0
  have Hw1 := Lib.hid hw1
  unfold maxLen at hml
  clear h hok hG0 hw1
  go_enter Try.func17, Try.ntmps17
  go_wp2_with fail
  rw [← Hw1.out]
  obtain ⟨gb, hgb⟩ : ∃ n, n = w.heap.size + 1 := ⟨_, rfl⟩
  rw [← hgb] at HG0
  rw [← hgb]
  have Hgb := Lib.hid hgb
  clear hgb
  go_loopw [19] (fun jj wr => ∃ (k : Nat) (L : GL) (kv : Value), k ≤ E.length ∧ jj = .int .i64 (k : Nat) ∧ Hid (GI w wr gb w.heap.size (revIf r (E.take k)) L kv)) (fun jj _ => E.length - (intOf jj).toNat)
  case atStart => exact ⟨0, [], _, by omega, rfl, Lib.hid (by have := HG0.out; cases r <;> exact this)⟩
  case round =>
    clear HG0
    obtain ⟨k, L, kv, hk, rfl, HG⟩ := hrel
    by_cases hlt : k < E.length
    · have hk1 : (k : Int) < E.length := by omega
      obtain ⟨g, off, rfl, _, c0, c1, c2, c3, c4, c5⟩ := (H.out.same HG.out.chg).cells k hlt
      have hok := Hok.out _ (getD_memEd hlt)
      have htk := revIf_take r E k hlt
      obtain ⟨ed, hed⟩ : ∃ e, E.getD k e0 = e := ⟨_, rfl⟩
      rw [hed] at c0 c1 c2 c3 c4 c5 hok htk
      obtain ⟨⟨f0, f1, f2⟩, t0, t1, t2⟩ := ed
      simp only at c0 c1 c2 c3 c4 c5
      have Htk := Lib.hid htk
      have Hok2 := Lib.hid hok
      clear hed htk hok
      go_upto_region 5 with (fail)
      obtain ⟨w2, hw2⟩ : ∃ x, x = wr.alloc (.cells #[.int .i64 f0, .int .i64 f1, .int .i64 f2, .int .i64 t0, .int .i64 t1, .int .i64 t2] 37) := ⟨_, rfl⟩
      have hc2 : Chg [] wr w2 := by rw [hw2]; exact (Chg.refl [] wr).alloc _
      have hb2 : w2.heap[wr.heap.size]? = some (.cells #[.int .i64 f0, .int .i64 f1, .int .i64 f2, .int .i64 t0, .int .i64 t1, .int .i64 t2] 37 (0, 0)) := by rw [hw2]; exact heap_at _ _ _ rfl
      rw [← hw2]
      obtain ⟨ne, hne⟩ : ∃ n, n = wr.heap.size := ⟨_, rfl⟩
      rw [← hne] at hb2
      rw [← hne]
      have x0 : w2.cell? ⟨ne, 0, none⟩ = some (.int .i64 f0) := cell_of_heap hb2 rfl
      have x1 : w2.cell? ⟨ne, 1, none⟩ = some (.int .i64 f1) := cell_of_heap hb2 rfl
      have x2 : w2.cell? ⟨ne, 2, none⟩ = some (.int .i64 f2) := cell_of_heap hb2 rfl
      have x3 : w2.cell? ⟨ne, 3, none⟩ = some (.int .i64 t0) := cell_of_heap hb2 rfl
      have x4 : w2.cell? ⟨ne, 4, none⟩ = some (.int .i64 t1) := cell_of_heap hb2 rfl
      have x5 : w2.cell? ⟨ne, 5, none⟩ = some (.int .i64 t2) := cell_of_heap hb2 rfl
      have lx := lt_of_cell x0
      have lx1 : ne < w2.heap.size + 1 := by have := lx; simp only at this; omega
      have lx2 : ne < w2.heap.size + 2 := by omega
      have Hc2 := Lib.hid hc2
      clear hw2 hc2 hb2 hne c0 c1 c2 c3 c4 c5
      go_cut [8, 9] (fun x8 x9 wx => ∃ n8 n9, x8 = .pointer (some ⟨n8, 0, none⟩) ∧ x9 = .pointer (some ⟨n9, 0, none⟩) ∧ wx.heap[n8]? = some (.cells #[.int .i64 f0, .int .i64 f1, .int .i64 f2] 24 (0, 0)) ∧ wx.heap[n9]? = some (.cells #[.int .i64 t0, .int .i64 t1, .int .i64 t2] 24 (0, 0)) ∧ n8 ≠ n9 ∧ Chg [] w2 wx ∧ w2.heap.size ≤ n8 ∧ w2.heap.size ≤ n9)
      case first =>
        go_region
        · go_wp2_with fail
          go_meet
          exact ⟨_, _, rfl, rfl, ((Chg.refl [] (w2.alloc _)).alloc _ |>.drew).block _ (by simp) (by simp) |>.trans (heap_at _ _ _ rfl), heap_at _ _ _ (by simp), by omega, ((Chg.refl [] _).alloc _).alloc _ |>.drew, by omega, by omega⟩
        · go_wp2_with fail
          go_meet
          exact ⟨_, _, rfl, rfl, heap_at _ _ _ (by simp), ((Chg.refl [] (w2.alloc _)).alloc _ |>.drew).block _ (by simp) (by simp) |>.trans (heap_at _ _ _ rfl), by omega, ((Chg.refl [] _).alloc _).alloc _ |>.drew, by omega, by omega⟩
      case rest =>
        obtain ⟨n8, n9, rfl, rfl, b8, b9, hne89, hc89, ge8, ge9⟩ := hcut
        have y0 : wc.cell? ⟨n8, 0, none⟩ = some (.int .i64 f0) := cell_of_heap b8 rfl
        have y1 : wc.cell? ⟨n8, 1, none⟩ = some (.int .i64 f1) := cell_of_heap b8 rfl
        have y2 : wc.cell? ⟨n8, 2, none⟩ = some (.int .i64 f2) := cell_of_heap b8 rfl
        have z0 : wc.cell? ⟨n9, 0, none⟩ = some (.int .i64 t0) := cell_of_heap b9 rfl
        have z1 : wc.cell? ⟨n9, 1, none⟩ = some (.int .i64 t1) := cell_of_heap b9 rfl
        have z2 : wc.cell? ⟨n9, 2, none⟩ = some (.int .i64 t2) := cell_of_heap b9 rfl
        have ly := lt_of_cell y0
        have lz := lt_of_cell z0
        have hne98 := Ne.symm hne89
        have v8 : ∀ i, wc.frozen? ⟨n8, i, none⟩ = false := fun i => frozen_of_heap b8
        have v9 : ∀ i, wc.frozen? ⟨n9, i, none⟩ = false := fun i => frozen_of_heap b9
        have Hb89 := Lib.hid (And.intro b8 b9)
        have Hc89 := Lib.hid hc89
        clear b8 b9 hc89
        cases r
        case' false =>
          go_upto_region 8 with (fail)
          obtain ⟨wq, hwq⟩ : ∃ q, q = wc := ⟨_, rfl⟩
          rw [← hwq]
          obtain ⟨x, hx⟩ : ∃ x : I3, x = (f0, f1, f2) := ⟨_, rfl⟩
          obtain ⟨y, hy⟩ : ∃ x : I3, x = (t0, t1, t2) := ⟨_, rfl⟩
          have q8 : wq.heap[n8]? = some (kObj x) := by rw [hwq, hx]; exact Hb89.out.1
          have q9 : wq.heap[n9]? = some (kObj y) := by rw [hwq, hy]; exact Hb89.out.2
          have hcq : Chg [] wr wq := by rw [hwq]; exact Hc2.out.trans Hc89.out
          have hxok : QKok x ∧ QKok y := by rw [hx, hy]; exact Hok2.out
          obtain ⟨E1, hE1⟩ : ∃ q, q = revIf false (E.take k) := ⟨_, rfl⟩
          have HG1 : Hid (GI w wr gb w.heap.size E1 L kv) := by rw [hE1]; exact HG
          have hl1 : E1.length ≤ 100 := by rw [hE1, revIf_len, List.length_take]; omega
          have hxy : revIf false (E.take (k + 1)) = E1 ++ [(x, y)] := by rw [Htk.out, hx, hy, hE1]; simp
          have hg8 : wr.heap.size ≤ n8 ∧ wr.heap.size ≤ n9 := ⟨Nat.le_trans Hc2.out.size ge8, Nat.le_trans Hc2.out.size ge9⟩
          have Hq := Lib.hid (And.intro hcq (And.intro hxok (And.intro hxy hg8)))
          clear hcq hxok hxy hg8 hx hy hwq hE1 HG y0 y1 y2 z0 z1 z2 v8 v9 Htk Hb89
        case' true =>
          go_upto_region 8 with (fail)
          generalize hwq : World.setCell _ _ _ = wq
          obtain ⟨x, hx⟩ : ∃ x : I3, x = (t0, t1, t2) := ⟨_, rfl⟩
          obtain ⟨y, hy⟩ : ∃ x : I3, x = (f0, f1, f2) := ⟨_, rfl⟩
          have q8 : wq.heap[n8]? = some (kObj x) := by
            rw [← hwq, hx]
            exact ((heap_setCell_ne _ _ _ _ hne89).trans ((heap_setCell_ne _ _ _ _ hne89).trans (heap_setCell_ne _ _ _ _ hne89))).trans (heap_setCell_same (heap_setCell_same (heap_setCell_same Hb89.out.1 _) _) _)
          have q9 : wq.heap[n9]? = some (kObj y) := by
            rw [← hwq, hy]
            exact heap_setCell_same (heap_setCell_same (heap_setCell_same (((heap_setCell_ne _ _ _ _ hne98).trans ((heap_setCell_ne _ _ _ _ hne98).trans (heap_setCell_ne _ _ _ _ hne98))).trans Hb89.out.2) _) _) _
          have hcq : Chg [] wr wq := by
            have i8 : n8 ∈ ([] : List Nat) ∨ w2.heap.size ≤ n8 := Or.inr ge8
            have i9 : n9 ∈ ([] : List Nat) ∨ w2.heap.size ≤ n9 := Or.inr ge9
            rw [← hwq]; exact Hc2.out.trans ((((((Hc89.out.setCell i8 _).setCell i8 _).setCell i8 _).setCell i9 _).setCell i9 _).setCell i9 _)
          have hxok : QKok x ∧ QKok y := by rw [hx, hy]; exact ⟨Hok2.out.2, Hok2.out.1⟩
          obtain ⟨E1, hE1⟩ : ∃ q, q = revIf true (E.take k) := ⟨_, rfl⟩
          have HG1 : Hid (GI w wr gb w.heap.size E1 L kv) := by rw [hE1]; exact HG
          have hl1 : E1.length ≤ 100 := by rw [hE1, revIf_len, List.length_take]; omega
          have hxy : revIf true (E.take (k + 1)) = E1 ++ [(x, y)] := by rw [Htk.out, hx, hy, hE1]; simp
          have hg8 : wr.heap.size ≤ n8 ∧ wr.heap.size ≤ n9 := ⟨Nat.le_trans Hc2.out.size ge8, Nat.le_trans Hc2.out.size ge9⟩
          have Hq := Lib.hid (And.intro hcq (And.intro hxok (And.intro hxy hg8)))
          clear hcq hxok hxy hg8 hx hy hwq hE1 HG y0 y1 y2 z0 z1 z2 v8 v9 Htk Hb89
        all_goals
          have hG := HG1.out.at_.same Hq.out.1
          have hw8 : ∀ z, (glV L z).ownBlock ≠ some n8 := fun z hz => by have := ((HG1.out.at_.row z).lt n8 hz).2; have := Hq.out.2.2.2.1; omega
          have hw9 : ∀ z, (glV L z).ownBlock ≠ some n9 := fun z hz => by have := ((HG1.out.at_.row z).lt n9 hz).2; have := Hq.out.2.2.2.2; omega
          have hk8 : kv.ownBlock ≠ some n8 := fun hz => by have := (HG1.out.at_.kw.lt n8 hz).2; have := Hq.out.2.2.2.1; omega
          have hk9 : kv.ownBlock ≠ some n9 := fun hz => by have := (HG1.out.at_.kw.lt n9 hz).2; have := Hq.out.2.2.2.2; omega
          have hs : SortedK (glL L x) := by rw [HG1.out.list]; exact (nx_spec _ x).1
          have hll : (glL L x).length ≤ 1000 := by
            rw [HG1.out.list]
            refine Nat.le_trans (nx_spec _ x).2.2 ?_
            omega
          have hB : w.heap.size ≤ wq.drew.heap.size := (HG1.out.chg.trans Hq.out.1).size
          have hlk := (hG.same ((Chg.refl [] wq).drew)).look x Hq.out.2.1.1
          have hic := insertK_any wq.drew w.heap.size (glV L x) (glL L x) y ((hG.row x).same ((Chg.refl [] wq).drew)) hs hll hB
          have p0 : wq.cell? ⟨gb, 0, none⟩ = some (.map (some w.heap.size)) := cell_of_heap hG.box rfl
          have lg := lt_of_cell p0
          have l8 := lt_of_obj q8
          have l9 := lt_of_obj q9
          have Hm := Lib.hid (And.intro hG (And.intro hw8 (And.intro hw9 (And.intro hk8 (And.intro hk9 hB)))))
          have Hq89 := Lib.hid (And.intro q8 q9)
          obtain ⟨vx, hvx⟩ : ∃ v, v = glV L x := ⟨_, rfl⟩
          rw [← hvx] at hlk hic
          have Hvx := Lib.hid hvx
          clear hvx hG hw8 hw9 hk8 hk9 hs hll hB
          obtain ⟨a0, a1, a2⟩ := x
          obtain ⟨d0, d1, d2⟩ := y
          obtain ⟨s0, s1, s2⟩ := kCellsAt q8
          obtain ⟨r0, r1, r2⟩ := kCellsAt q9
          simp only [i3v] at hlk
          have Hic := Lib.hid hic
          clear q8 q9 hic
          go_region_held3 (fun w' => w'.cell? ⟨gb, 0, none⟩ = some (.map (some w.heap.size)) ∧ w'.cell? ⟨n8, 0, none⟩ = some (.int .i64 a0) ∧ w'.cell? ⟨n8, 1, none⟩ = some (.int .i64 a1) ∧ w'.cell? ⟨n8, 2, none⟩ = some (.int .i64 a2) ∧ w'.cell? ⟨n9, 0, none⟩ = some (.int .i64 d0) ∧ w'.cell? ⟨n9, 1, none⟩ = some (.int .i64 d1) ∧ w'.cell? ⟨n9, 2, none⟩ = some (.int .i64 d2))
            (first | (go_keep; done) | assumption | (exact ⟨m0, i0, i1, i2, j0, j1, j2⟩) | (exact ⟨g0, i0', i1', i2', j0', j1', j2'⟩))
            ((go_at_call 26; refine Hic.out.mono ?_; rintro e wi ⟨v', rfl, hown, hcg, hnew⟩; obtain ⟨m1, m2, m3, m4⟩ := ng_mid Hm.out.1 Hq89.out.1 Hq89.out.2 (a0, a1, a2) (Hm.out.2.1 _) (Hm.out.2.2.1 _) (Hvx.out ▸ (Chg.refl _ wq).drew.trans hcg); have m0 : wi.cell? ⟨gb, 0, none⟩ = some (.map (some w.heap.size)) := cell_of_heap m1 rfl; obtain ⟨i0, i1, i2⟩ := kCellsAt m2; obtain ⟨j0, j1, j2⟩ := kCellsAt m3; obtain ⟨o, hup, hmu⟩ := m4.update qkeyed i3v_inj Try.underlying50 (qkOk Hq.out.2.1.1) v'; simp only [i3v] at hup; have hsb := chg_setBlock wi w.heap.size o; have g1 := (hsb.block _ (lt_of_obj m1) (by simpa using map_obj m4 m1)).trans m1; have g2 := (hsb.block _ (lt_of_obj m2) (by simpa using map_obj m4 m2)).trans m2; have g3 := (hsb.block _ (lt_of_obj m3) (by simpa using map_obj m4 m3)).trans m3; have g0 : (setBlock wi w.heap.size o).cell? ⟨gb, 0, none⟩ = some (.map (some w.heap.size)) := cell_of_heap g1 rfl; obtain ⟨i0', i1', i2'⟩ := kCellsAt g2; obtain ⟨j0', j1', j2'⟩ := kCellsAt g3; have Hwi := Lib.hid (And.intro hown (And.intro hcg (And.intro hnew (And.intro g1 (And.intro g2 (And.intro g3 hmu)))))); clear hown hcg hnew m1 m2 m3 m4 hmu g1 g2 g3 hsb))
          go_wp2_with fail
          obtain ⟨wj, hwj⟩ : ∃ q, q = setBlock wi w.heap.size o := ⟨_, rfl⟩
          rw [← hwj]
          have hG2 : GrAt wj w.heap.size gb w.heap.size (ups L (a0, a1, a2) (v', insK (glL L (a0, a1, a2)) (d0, d1, d2))) kv (ks E1) := by
            rw [hwj]
            exact Hm.out.1.upd (a0, a1, a2) Hwi.out.1 (Hvx.out ▸ (Chg.refl _ wq).drew.trans Hwi.out.2.1) (Hvx.out ▸ Hwi.out.2.2.1) Hwi.out.2.2.2.2.2.2
          have hj8 : wj.heap[n8]? = some (kObj (a0, a1, a2)) := by rw [hwj]; exact Hwi.out.2.2.2.2.1
          have hj9 : wj.heap[n9]? = some (kObj (d0, d1, d2)) := by rw [hwj]; exact Hwi.out.2.2.2.2.2.1
          have hcj : Chg [] w wj := by
            rw [hwj]
            have e1 : Chg [] w wi := (HG1.out.chg.trans Hq.out.1).comp ((Chg.refl _ wq).drew.trans Hwi.out.2.1) fun g hg => Or.inr (by rw [Hvx.out] at hg; exact ((Hm.out.1.row _).lt g (by simpa using hg)).1)
            exact e1.comp (chg_setBlock wi _ o) fun g hg => Or.inr (by simp at hg; omega)
          have hkl := (ks_spec E1).2.2
          have hi1 := insertK_any wj.drew w.heap.size kv (ks E1) (a0, a1, a2) (hG2.kw.same ((Chg.refl [] wj).drew)) (ks_spec E1).1 (by omega) hcj.size
          have p1 : wj.cell? ⟨gb, 1, none⟩ = some kv := cell_of_heap hG2.box rfl
          have l1 := lt_of_cell p1
          have l81 := lt_of_obj hj8
          have l91 := lt_of_obj hj9
          clear s0 s1 s2 r0 r1 r2 p0 i0 i1 i2 j0 j1 j2 i0' i1' i2' j0' j1' j2' m0 g0 hup lg l8 l9 hlk
          obtain ⟨s0, s1, s2⟩ := kCellsAt hj8
          obtain ⟨r0, r1, r2⟩ := kCellsAt hj9
          have Hj := Lib.hid (And.intro hG2 (And.intro hcj (And.intro hj8 (And.intro hj9 hkl))))
          simp only [i3v] at hi1
          have Hi1 := Lib.hid hi1
          clear hG2 hcj hj8 hj9 hi1 hwj Hwi Hic hkl
          go_region_with
            (first
              | (go_at_call 26; (with_reducible refine Hi1.out.mono ?_); rintro e w5 ⟨v5, rfl, hown, hcg, hnew⟩; obtain ⟨m1, m2, m3⟩ := ng_midK Hj.out.1 Hj.out.2.2.1 Hj.out.2.2.2.1 Hm.out.2.2.2.1 Hm.out.2.2.2.2.1 ((Chg.refl _ wj).drew.trans hcg); obtain ⟨i0, i1, i2⟩ := kCellsAt m2; obtain ⟨j0, j1, j2⟩ := kCellsAt m3; have hi2 := insertK_any w5 w.heap.size v5 _ (d0, d1, d2) hown ((ks_spec E1).1.ins _) (ng_len (ks_spec E1).2.2 hl1) (Nat.le_trans Hj.out.2.1.size ((Chg.refl _ wj).drew.trans hcg).size); simp only [i3v] at hi2; have Hi2 := Lib.hid hi2; clear hi2; have Hw5 := Lib.hid (And.intro hown (And.intro hcg (And.intro hnew (And.intro m1 (And.intro m2 m3))))); clear hown hcg hnew m1 m2 m3)
              | (go_at_call 26; (with_reducible refine Hi2.out.mono ?_); rintro e w6 ⟨v6, rfl, hown, hcg, hnew⟩; obtain ⟨a6, c6, hv6⟩ := ownsRow_shape hown; subst hv6; obtain ⟨m1, m2, m3, m4, m5⟩ := ng_last Hw5.out.1 Hw5.out.2.2.2.1 Hw5.out.2.2.2.2.1 Hw5.out.2.2.2.2.2 (new_ne Hw5.out.2.2.1 Hm.out.2.2.2.1 (lt_of_obj Hj.out.2.2.1)) (new_ne Hw5.out.2.2.1 Hm.out.2.2.2.2.1 (lt_of_obj Hj.out.2.2.2.1)) hcg (.slice none 0 0); have g0 : w6.cell? ⟨gb, 1, none⟩ = some kv := cell_of_heap m1 rfl; have gf : w6.frozen? ⟨gb, 1, none⟩ = false := frozen_of_heap m1; obtain ⟨i0', i1', i2'⟩ := kCellsAt m2; obtain ⟨j0', j1', j2'⟩ := kCellsAt m3; obtain ⟨k0, k1, k2⟩ := kCellsAt m4; obtain ⟨o0, o1, o2⟩ := kCellsAt m5; have Hw6 := Lib.hid (And.intro hown (And.intro hcg (And.intro hnew m1))); clear hown hcg hnew m1 m2 m3 m4 m5))
          all_goals
           go_wp2_with fail
           refine ⟨⟨k + 1, _, _, by omega, by simp, Lib.hid (by rw [Hq.out.2.2.1]; exact ng_end HG1.out Hj.out.1 Hj.out.2.1 Hw5.out.2.1 Hw5.out.2.2.1 Hw6.out.2.1 Hw6.out.1 Hw6.out.2.2.1)⟩, ?_⟩
           simp only [intOf]
           omega
    · have hg1 : decide ((k : Int) < E.length) = false := decide_eq_false (by omega)
      have hke : E.take k = E := List.take_of_length_le (by omega)
      rw [hke] at HG
      go_wp2_with fail
      go_ret
      exact ⟨gb, _, L, kv, rfl, HG.out⟩
end Go.Proofs.Ytenjjiilcdgimaa
