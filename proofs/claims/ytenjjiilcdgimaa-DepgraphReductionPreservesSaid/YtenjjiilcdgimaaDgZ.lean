/- depgraph: TransitiveReduction, the walk. -/
import Derived.Test.YtenjjiilcdgimaaDgY
namespace Go.Proofs.Ytenjjiilcdgimaa
open Go.RowKit Go.ChangeMaps Go.MapKept Go.Shelf
set_option linter.unusedVariables false
set_option linter.unusedSimpArgs false
structure BelI (w4 wx : World) (bl : Nat) (E : List Ed) (D : GL) (done : List I3) : Prop where
  chg : Chg [bl] w4 wx
  mp : MapAt Try.prog 24 i3v wx bl (glE D)
  val : ∀ x v l, aget D x = some (v, l) → I3s (fun g => g ≠ bl) wx v l ∧ IsDeps E x l
  dom : ∀ x ∈ done, ∃ v l, aget D x = some (v, l)
theorem BelI.next {w4 wx w5 w6 : World} {bl : Nat} {E : List Ed} {D : GL} {done : List I3} {k : I3} {v : Value} {l : List I3} {o : Obj} (h : BelI w4 wx bl E D done) (h5 : Chg [] wx w6) (hmu : MapAt Try.prog 24 i3v (setBlock w6 bl o) bl (ups (glE D) k v))
    (hi : I3s (fun g => w5.heap.size ≤ g ∧ g < w6.heap.size) w6 v l) (h45 : w4.heap.size ≤ w5.heap.size) (hb : bl < w4.heap.size) (hd : IsDeps E k l) : BelI w4 (setBlock w6 bl o) bl E (ups D k (v, l)) (done ++ [k]) := by
  have hs := chg_setBlock w6 bl o
  refine ⟨(h.chg.new h5).trans hs, by rw [glE_ups] at hmu; exact hmu, fun x v' l' hx => ?_, fun x hx => ?_⟩
  · rw [aget_ups] at hx
    by_cases he : k = x
    · rw [if_pos he] at hx
      cases hx
      exact ⟨(hi.imp (q := fun g => g ≠ bl) (fun g hg => by have := hg.1; omega)).kept hs.toP (fun g hg hS => hg (by simpa using hS)), he ▸ hd⟩
    · rw [if_neg he] at hx
      obtain ⟨h1, h2⟩ := h.val x v' l' hx
      exact ⟨(i3s_same h1 h5).kept hs.toP (fun g hg hS => hg (by simpa using hS)), h2⟩
  · by_cases he : k = x
    · exact ⟨v, l, by rw [aget_ups, if_pos he]⟩
    · rcases List.mem_append.1 hx with hx | hx
      · obtain ⟨v', l', h1⟩ := h.dom x hx
        exact ⟨v', l', by rw [aget_ups, if_neg he]; exact h1⟩
      · exact absurd (List.mem_singleton.1 hx).symm he
theorem EdP.imp' {p q : Nat → Prop} {w : World} {v : Value} {E : List Ed} (h : EdP p w v E) (hp : ∀ g, p g → q g) : EdP q w v E := SlR.imp h hp fun _ _ _ h => h
def RedPost (w : World) (E : List Ed) (e : Ending) (w' : World) : Prop :=
  ((e = .returned (.tuple #[.slice none 0 0, .int .i64 8])) ∨ ∃ a c R, e = .returned (.tuple #[.slice a R.length c, .int .i64 0]) ∧ EdP (fun g => w.heap.size ≤ g ∧ g < w'.heap.size) w' (.slice a R.length c) R ∧ IsRed E R ∧ ∃ O, TopI E O ∧ O.length = (ks E).length) ∧ Chg [] w w'
theorem imp_iff {E : List Ed} {D : GL} {f t : I3} (hd : ∀ x ∈ ks E, ∃ v l, aget D x = some (v, l)) (hv : ∀ x v l, aget D x = some (v, l) → IsDeps E x l) : (nx E f).any (fun k => decide (t ∈ belL D k)) = true ↔ Imp E (f, t) := by
  rw [List.any_eq_true]
  unfold Imp
  constructor
  · rintro ⟨k, hk, h⟩
    have hE := ((nx_spec E f).2.1 k).1 hk
    obtain ⟨v, l, hl⟩ := hd k (((ks_spec E).2.1 k).2 ⟨_, hE, Or.inr rfl⟩)
    simp only [decide_eq_true_eq, belL, hl, Option.map_some, Option.getD_some] at h
    exact ⟨k, hE, ((hv k v l hl).2 t).1 h⟩
  · rintro ⟨k, hE, hr⟩
    obtain ⟨v, l, hl⟩ := hd k (((ks_spec E).2.1 k).2 ⟨_, hE, Or.inr rfl⟩)
    refine ⟨k, ((nx_spec E f).2.1 k).2 hE, ?_⟩
    simp only [decide_eq_true_eq, belL, hl, Option.map_some, Option.getD_some]
    exact ((hv k v l hl).2 t).2 hr
set_option maxRecDepth 100000 in
set_option maxHeartbeats 16000000 in
theorem reduction_any (p : Nat → Prop) (w : World) (v : Value) (E : List Ed) (h : EdP p w v E) (hl : E.length ≤ 100) (hok : EdOk E) :
    Calls Try.prog 13 #[v] w (RedPost w E) := by
  have hmm := @run_makeMap Try.prog
  have ht := topo_any p w v E h hl hok
  obtain ⟨a, cap, rfl, hml, hcp⟩ := SlR.shape h
  have hmi : min (E.length : Int) 400 = (E.length : Int) := by omega
  unfold maxLen at hml
  have Ht := Lib.hid ht
  have H := Lib.hid (And.intro h (And.intro hl hok))
  clear h hok ht
  go_enter Try.func13, Try.ntmps13
  go_wp2_with fail
  refine Ht.out.mono fun e w1 h1 => ?_
  obtain ⟨ao, co, O, eo, rfl, hc1, _, ho⟩ := h1.two
  clear h1
  rcases ho with ⟨rfl, hcy⟩ | ⟨rfl, htop, hlo⟩
  · have Hc1 := Lib.hid hc1
    clear hc1 hcy
    go_wp2_with fail
    go_ret2
    exact ⟨Or.inl rfl, Hc1.out⟩
  · have H1 := Lib.hid (And.intro hc1 (And.intro htop hlo))
    have hng := newGraph_any p w1 _ E false (H.out.1.same hc1) H.out.2.1 H.out.2.2
    rw [show revIf false E = E from rfl] at hng
    have Hng := Lib.hid hng
    clear hc1 htop hlo hng
    go_wp2_with fail
    refine Hng.out.mono ?_
    rintro e w2 ⟨gb, bm, L, kv, rfl, hG⟩
    obtain ⟨ak, ck, rfl⟩ := ownsRow_shape hG.at_.kw
    obtain ⟨w3, hw3⟩ : ∃ q, q = (w2.alloc (.map #[] 0)).alloc (.cells #[.map (some w2.heap.size)] 50) := ⟨_, rfl⟩
    obtain ⟨bl, hbl⟩ : ∃ n, n = w2.heap.size := ⟨_, rfl⟩
    obtain ⟨n7, hn7⟩ : ∃ n, n = w2.heap.size + 1 := ⟨_, rfl⟩
    have hc3 : Chg [] w2 w3 := by rw [hw3]; exact ((Chg.refl [] w2).alloc _).alloc _
    have hb7 : w3.heap[n7]? = some (.cells #[.map (some bl)] 50 (0, 0)) := by rw [hw3, hn7, hbl]; exact heap_at _ _ _ (by simp)
    have hm3 : MapAt Try.prog 24 i3v w3 bl (glE []) := by
      have h1 := (MapAt.made Try.prog 24 i3v w2).kept ((Chg.refl [] _).alloc (.cells #[.map (some w2.heap.size)] 50)) (by simp)
      rw [hw3, hbl]
      exact h1
    have hG3 := hG.at_.same hc3
    have hL := hG.list
    have hbm := hG.at_.mp.lt
    have hne : bl ≠ bm := by omega
    have h7b : n7 ≠ bl := by omega
    have hwb : w.heap.size ≤ bl := by have := hG.chg.size; have := H1.out.1.size; omega
    have hblt : bl < w3.heap.size := hm3.lt
    have hcw3 : Chg [] w w3 := H1.out.1.trans (hG.chg.trans hc3)
    have hks := (ks_spec E).2.2
    have H0 := Lib.hid (And.intro hG3 (And.intro hb7 (And.intro hm3 (And.intro hne (And.intro h7b (And.intro hL (And.intro hcw3 (And.intro hwb hblt))))))))
    have HB0 := Lib.hid (show BelI w3 w3 bl E [] [] from ⟨Chg.refl _ _, hm3, fun x v l h => by simp [aget_nil] at h, by simp⟩)
    have HW := Lib.hid (And.intro hw3 (And.intro hbl hn7))
    have hkb := hG.at_.kw.bound
    have hkm : (ks E).length ≤ maxLen := by omega
    unfold maxLen at hkm
    have g1 : w3.cell? ⟨gb, 1, none⟩ = some (.slice ak (ks E).length ck) := cell_of_heap hG3.box rfl
    have lg := lt_of_cell g1
    clear hG hc3 hb7 hm3 hG3 hL hbm hne h7b hcw3 hwb hblt hw3 hbl hn7 hkb
    go_upto_region 6 with (fail)
    rw [← HW.out.1, ← HW.out.2.2]
    rw [← HW.out.2.1]
    go_wp2_with fail
    clear g1 lg
    go_loopw [30] (fun i wx => ∃ (j : Nat) (D : GL), j ≤ (ks E).length ∧ i = .int .i64 (j : Nat) ∧ Hid (BelI w3 wx bl E D ((ks E).take j))) (fun i _ => (ks E).length - (intOf i).toNat)
    case atStart => exact ⟨0, [], by omega, rfl, HB0⟩
    case round =>
      clear HB0
      obtain ⟨j, D, hj, rfl, HB⟩ := hrel
      have hG := H0.out.1.besides H0.out.2.2.1 H0.out.2.2.2.1 HB.out.chg
      by_cases hjl : j < (ks E).length
      · have hj1 : (j : Int) < (ks E).length := by omega
        obtain ⟨gk, ok, rfl, _, q0, q1, q2⟩ := SlR.at hG.kw.i3s j hjl (0, 0, 0)
        obtain ⟨y, hy⟩ : ∃ y, (ks E).getD j (0, 0, 0) = y := ⟨_, rfl⟩
        have hym : y ∈ ks E := by rw [← hy]; exact getD_memb hjl _
        have hyk := ks_ok H.out.2.2 hym
        have htk := fold_take_snoc (ks E) j hjl (0, 0, 0)
        rw [hy] at q0 q1 q2 htk
        obtain ⟨y0, y1, y2⟩ := y
        simp only at q0 q1 q2
        have lq := lt_of_cell q0
        obtain ⟨w5, hw5⟩ : ∃ q, q = wr.alloc (.cells #[.int .i64 y0, .int .i64 y1, .int .i64 y2] 24) := ⟨_, rfl⟩
        obtain ⟨n9, hn9⟩ : ∃ n, n = wr.heap.size := ⟨_, rfl⟩
        have hc5 : Chg [] wr w5 := by rw [hw5]; exact (Chg.refl [] wr).alloc _
        have hb5 : w5.heap[n9]? = some (kObj (y0, y1, y2)) := by rw [hw5, hn9]; exact heap_at _ _ _ rfl
        have h7 := (((HB.out.chg.new hc5).block _ (lt_of_obj H0.out.2.1) (by simpa using H0.out.2.2.2.2.1)).trans H0.out.2.1)
        have p7 : w5.cell? ⟨n7, 0, none⟩ = some (.map (some bl)) := cell_of_heap h7 rfl
        obtain ⟨b0, b1, b2⟩ := kCellsAt hb5
        have lb := lt_of_cell b0
        have l7 := lt_of_cell p7
        have hr := reachable_any w5.drew _ gb bm E L _ (y0, y1, y2) ((hG.same hc5).same ((Chg.refl [] w5).drew)) H0.out.2.2.2.2.2.1 H.out.2.1 H.out.2.2 hyk
        simp only [i3v] at hr
        have Hr := Lib.hid hr
        have HW5 := Lib.hid (And.intro hw5 hn9)
        have H5 := Lib.hid (And.intro hc5 (And.intro hb5 (And.intro h7 (And.intro hyk htk))))
        clear hy hym hyk htk hw5 hn9 hc5 hb5 h7 hr hG
        go_upto_region 9 with (fail)
        rw [← HW5.out.1, ← HW5.out.2]
        clear q0 q1 q2 lq
        go_region_held3 (fun W => W.cell? ⟨n7, 0, none⟩ = some (.map (some bl)) ∧ W.cell? ⟨n9, 0, none⟩ = some (.int .i64 y0) ∧ W.cell? ⟨n9, 1, none⟩ = some (.int .i64 y1) ∧ W.cell? ⟨n9, 2, none⟩ = some (.int .i64 y2))
          (first | (go_keep; done) | (exact ⟨m7, m0, m1, m2⟩) | (exact ⟨s7, s0, s1, s2⟩))
          ((go_at_call 18; (with_reducible refine Hr.out.mono ?_); rintro e w6 ⟨v6, l6, rfl, hi, hd, hc⟩; have hc6 : Chg [] w5 w6 := (Chg.refl [] w5).drew.trans hc; have e7 := (hc6.block _ (lt_of_obj H5.out.2.2.1) (by simp)).trans H5.out.2.2.1; have e9 := (hc6.block _ (lt_of_obj H5.out.2.1) (by simp)).trans H5.out.2.1; have m7 : w6.cell? ⟨n7, 0, none⟩ = some (.map (some bl)) := cell_of_heap e7 rfl; obtain ⟨m0, m1, m2⟩ := kCellsAt e9; obtain ⟨o, hup, hmu⟩ := (HB.out.mp.kept (H5.out.1.trans hc6) (by simp)).update qkeyed i3v_inj Try.underlying50 (qkOk H5.out.2.2.2.1) v6; simp only [i3v] at hup; have hsb := chg_setBlock w6 bl o; have s7 : (setBlock w6 bl o).cell? ⟨n7, 0, none⟩ = some (.map (some bl)) := cell_of_heap ((hsb.block _ (lt_of_obj e7) (by simpa using H0.out.2.2.2.2.1)).trans e7) rfl; obtain ⟨s0, s1, s2⟩ := kCellsAt ((hsb.block _ (lt_of_obj e9) (by simpa using map_obj (HB.out.mp.kept (H5.out.1.trans hc6) (by simp)) e9)).trans e9); have H6 := Lib.hid (And.intro hi (And.intro hd (And.intro hc6 hmu))); clear hi hd hc hc6 hmu e7 e9 hsb))
        all_goals
          go_wp2_with fail
          refine ⟨⟨j + 1, ups D (y0, y1, y2) (v6, l6), by omega, by go_num, Lib.hid ?_⟩, by simp [intOf]; omega⟩
          rw [H5.out.2.2.2.2]
          exact HB.out.next (w5 := w5) (H5.out.1.trans H6.out.2.2.1) H6.out.2.2.2 H6.out.1 (HB.out.chg.new H5.out.1).size H0.out.2.2.2.2.2.2.2.2 H6.out.2.1
      · have hj1 : ¬ ((j : Int) < (ks E).length) := by omega
        have hta : (ks E).take j = ks E := List.take_of_length_le (by omega)
        rw [hta] at HB
        obtain ⟨wv, hwv⟩ : ∃ q, q = wr := ⟨_, rfl⟩
        have hG' := hG
        rw [← hwv] at HB hG'
        have HV := Lib.hid (And.intro hG' (And.intro hwv (H0.out.2.2.2.2.2.2.1.comp HB.out.chg fun g hg => Or.inr (by rw [List.mem_singleton.1 hg]; exact H0.out.2.2.2.2.2.2.2.1))))
        have hImp := fun f t => imp_iff (f := f) (t := t) HB.out.dom (fun x v l hx => (HB.out.val x v l hx).2)
        have HImp := Lib.hid hImp
        clear hwv hG hG' hta hImp
        go_wp2_with fail
        go_loopw [10, 46] (fun v10 i wx => ∃ (r : Nat) (R : List Ed) (a10 : Option Addr) (c10 : Nat), r ≤ E.length ∧ i = .int .i64 (r : Nat) ∧ v10 = .slice a10 R.length c10 ∧ Hid (OwnE wx wv.heap.size v10 R ∧ Chg [] wv wx) ∧ Hid (R.Nodup ∧ ∀ x, x ∈ R ↔ x ∈ E.take r ∧ ¬ Imp E x) ∧ Hid (R.length ≤ r)) (fun _ i _ => E.length - (intOf i).toNat)
        case atStart => exact ⟨0, [], none, 0, by omega, rfl, rfl, Lib.hid ⟨OwnE.nil _ _, by rw [HV.out.2.1]; exact Chg.refl _ _⟩, Lib.hid ⟨by simp, by simp⟩, Lib.hid (by simp)⟩
        case round =>
          obtain ⟨r, R, a10, c10, hr, rfl, rfl, HR, HI, HRl⟩ := hrel
          by_cases hrl : r < E.length
          · have hr1 : (r : Int) < E.length := by omega
            have hE5 := H.out.1.same (HV.out.2.2.trans HR.out.2)
            obtain ⟨g, off, rfl, _, c0, c1, c2, c3, c4, c5⟩ := hE5.cells r hrl
            have hmem := getD_memEd hrl
            have htk := fold_take_snoc E r hrl e0
            obtain ⟨ed, hed⟩ : ∃ e, E.getD r e0 = e := ⟨_, rfl⟩
            rw [hed] at c0 c1 c2 c3 c4 c5 hmem htk
            obtain ⟨⟨f0, f1, f2⟩, t0, t1, t2⟩ := ed
            simp only at c0 c1 c2 c3 c4 c5
            have lc := lt_of_cell c0
            have heok := H.out.2.2 _ hmem
            obtain ⟨w5, hw5⟩ : ∃ q, q = wr.alloc (.cells #[.int .i64 f0, .int .i64 f1, .int .i64 f2, .int .i64 t0, .int .i64 t1, .int .i64 t2] 37) := ⟨_, rfl⟩
            obtain ⟨n12, hn12⟩ : ∃ n, n = wr.heap.size := ⟨_, rfl⟩
            have hc5 : Chg [] wr w5 := by rw [hw5]; exact (Chg.refl [] wr).alloc _
            have hb5 : w5.heap[n12]? = some (.cells #[.int .i64 f0, .int .i64 f1, .int .i64 f2, .int .i64 t0, .int .i64 t1, .int .i64 t2] 37 (0, 0)) := by rw [hw5, hn12]; exact heap_at _ _ _ rfl
            have HW5 := Lib.hid (And.intro hw5 hn12)
            have H5 := Lib.hid (And.intro hc5 (And.intro hb5 (And.intro hmem (And.intro htk heok))))
            clear hE5 hmem htk hed heok hw5 hn12 hc5 hb5
            go_upto_region 15 with (fail)
            rw [← HW5.out.1, ← HW5.out.2]
            refine wp_region_readsQ 8 (by kernel_rfl) (by kernel_rfl) ?_
            intro wd hwd
            simp only [List.take_succ_cons, List.take_zero, List.drop_succ_cons, List.drop_zero]
            have hcd : Chg [] w5 wd := by rw [hwd]; exact (Chg.refl [] w5).drew
            have hvd : Chg [] wv wd := HR.out.2.trans (H5.out.1.trans hcd)
            have hG := HV.out.1.same hvd
            have g0 : wd.cell? ⟨gb, 0, none⟩ = some (.map (some bm)) := cell_of_heap hG.box rfl
            have lg := lt_of_cell g0
            have e12 := (hcd.block _ (lt_of_obj H5.out.2.1) (by simp)).trans H5.out.2.1
            obtain ⟨x0, x1, x2, x3, x4, x5⟩ := edCc e12
            have lx := lt_of_cell x0
            have hlg := hG.look (f0, f1, f2) H5.out.2.2.2.2.1
            simp only [i3v] at hlg
            have hrow := (hG.row (f0, f1, f2)).i3s
            rw [H0.out.2.2.2.2.2.1] at hrow
            have h3v := HB.out.chg
            have hcf := red_cf _ wd _ (nx E (f0, f1, f2)) n7 n12 (fun k => decide ((t0, t1, t2) ∈ belL D k)) hrow (fun W hW k0 k1 k2 hk => by
              have hkE := ((nx_spec E (f0, f1, f2)).2.1 _).1 hk
              obtain ⟨v, l, hD⟩ := HB.out.dom (k0, k1, k2) (((ks_spec E).2.1 _).2 ⟨_, hkE, Or.inr rfl⟩)
              have hvW : Chg [] wv W := hvd.trans hW
              exact imp1_any W n7 n12 bl D _ v l k0 k1 k2 f0 f1 f2 t0 t1 t2 (((h3v.new hvW).block _ (lt_of_obj H0.out.2.1) (by simpa using H0.out.2.2.2.2.1)).trans H0.out.2.1) ((hW.block _ (lt_of_obj e12) (by simp)).trans e12) (HB.out.mp.kept hvW (by simp)) (nx_ok H.out.2.2 _ _ hk) hD (i3s_same (HB.out.val _ v l hD).1 hvW))
            have hbi := HImp.out (f0, f1, f2) (t0, t1, t2)
            obtain ⟨b, hb⟩ : ∃ b, b = (nx E (f0, f1, f2)).any (fun k => decide ((t0, t1, t2) ∈ belL D k)) := ⟨_, rfl⟩
            rw [← hb] at hcf hbi
            have Hcf := Lib.hid hcf
            have Hbi := Lib.hid hbi
            have Hd := Lib.hid (And.intro hcd e12)
            clear hwd hcd hvd hG e12 hrow h3v hcf hbi hb c0 c1 c2 c3 c4 c5 lc
            repeat go_big_quiet_step (fail)
            refine wpQuiet_nil ?_
            go_wp2_with fail
            refine Hcf.out.mono ?_
            rintro e w6 ⟨rfl, hc6⟩
            have e6 := (hc6.block _ (lt_of_obj Hd.out.2) (by simp)).trans Hd.out.2
            have H6 := Lib.hid (And.intro (H5.out.1.trans (Hd.out.1.trans hc6)) e6)
            clear hc6 x0 x1 x2 x3 x4 x5 g0 lg lx hlg Hcf
            obtain ⟨x0, x1, x2, x3, x4, x5⟩ := edCc e6
            have lx := lt_of_cell x0
            clear e6
            cases b
            · have hni : ¬ Imp E ((f0, f1, f2), t0, t1, t2) := fun h => absurd (Hbi.out.2 h) (by simp)
              have hstf := red_step (E := E) (E.take r) ((f0, f1, f2), t0, t1, t2) false Hbi.out HI.out
              have hcn := edContains_any _ w6 _ R ((f0, f1, f2), t0, t1, t2) ((HR.out.1.same H6.out.1).eds) (fun x hx => H.out.2.2 _ (List.mem_of_mem_take ((HI.out.2 x).1 hx).1)) H5.out.2.2.2.2
              unfold edv at hcn
              simp only at hcn
              by_cases hin : ((f0, f1, f2), t0, t1, t2) ∈ R
              · rw [decide_eq_true hin] at hcn
                unfold redS at hstf
                rw [if_pos (Or.inr hin)] at hstf
                have Hcn := Lib.hid hcn
                have Hst := Lib.hid hstf
                clear hcn hstf hin hni
                go_wp2_with fail
                refine Hcn.out.mono ?_
                rintro e w7 ⟨rfl, hc7⟩
                have H7 := Lib.hid (H6.out.1.trans hc7)
                clear hc7 x0 x1 x2 x3 x4 x5 lx
                go_wp2_with fail
                refine ⟨⟨r + 1, R, a10, c10, by omega, by go_num, rfl, Lib.hid ⟨HR.out.1.same H7.out, HR.out.2.trans H7.out⟩, Lib.hid ?_, Lib.hid (by have := HRl.out; omega)⟩, by simp [intOf]; omega⟩
                rw [H5.out.2.2.2.1]
                exact Hst.out
              · rw [decide_eq_false hin] at hcn
                unfold redS at hstf
                rw [if_neg (by simpa using hin)] at hstf
                have Hcn := Lib.hid hcn
                have Hst := Lib.hid hstf
                clear hcn hstf hin hni
                go_wp2_with fail
                refine Hcn.out.mono ?_
                rintro e w7 ⟨rfl, hc7⟩
                have e7 := (hc7.block _ (lt_of_obj H6.out.2) (by simp)).trans H6.out.2
                have h7 := H6.out.1.trans hc7
                clear x0 x1 x2 x3 x4 x5 lx hc7
                obtain ⟨x0, x1, x2, x3, x4, x5⟩ := edCc e7
                have lx := lt_of_cell x0
                obtain ⟨w8, hw8⟩ : ∃ q, q = w7.alloc (.cells #[.int .i64 f0, .int .i64 f1, .int .i64 f2, .int .i64 t0, .int .i64 t1, .int .i64 t2] 37) := ⟨_, rfl⟩
                obtain ⟨n8, hn8⟩ : ∃ n, n = w7.heap.size := ⟨_, rfl⟩
                have hc8 : Chg [] w7 w8 := by rw [hw8]; exact (Chg.refl [] w7).alloc _
                have hb8 : w8.heap[n8]? = some (.cells #[.int .i64 f0, .int .i64 f1, .int .i64 f2, .int .i64 t0, .int .i64 t1, .int .i64 t2] 37 (0, 0)) := by rw [hw8, hn8]; exact heap_at _ _ _ rfl
                have ho8 := HR.out.1.same (h7.trans hc8)
                have hv8 := HR.out.2.trans (h7.trans hc8)
                obtain ⟨v9, w9, hr9, ho9, hc9⟩ := run_append_eds w8 22 wv.heap.size _ _ _ R [((f0, f1, f2), t0, t1, t2)] ho8 (ed1_at hb8) (by have := HRl.out; simp only [List.length_cons, List.length_nil]; omega) hv8.size
                obtain ⟨a9, c9, rfl⟩ := ownsRow_shape ho9
                obtain ⟨q, hq⟩ : ∃ q, q = (R ++ [((f0, f1, f2), t0, t1, t2)]).length := ⟨_, rfl⟩
                rw [← hq] at hr9
                have H9 := Lib.hid (show OwnE w9 wv.heap.size (.slice a9 q c9) (R ++ [((f0, f1, f2), t0, t1, t2)]) ∧ Chg [] wv w9 from ⟨by rw [hq]; exact ho9, hv8.comp hc9 fun g hg => Or.inr (ho8.lt g (by simpa using hg)).1⟩)
                have Hr9 := Lib.hid hr9
                have HW8 := Lib.hid (And.intro hw8 hn8)
                have Hq := Lib.hid hq
                clear e7 h7 hw8 hn8 hc8 hb8 ho8 hv8 hr9 ho9 hc9 hq
                go_wp2_with (at_builtin; rw [← HW8.out.1, ← HW8.out.2]; refine wpList_append_run rfl _ _ _ rfl _ _ _ _ rfl rfl Hr9.out ?_)
                refine ⟨⟨r + 1, _, a9, c9, by omega, by go_num, by rw [Hq.out], H9, Lib.hid ?_, Lib.hid (by have := HRl.out; simp; omega)⟩, by simp [intOf]; omega⟩
                rw [H5.out.2.2.2.1]
                exact Hst.out
            · have hstt := red_step (E := E) (E.take r) ((f0, f1, f2), t0, t1, t2) true Hbi.out HI.out
              unfold redS at hstt
              rw [if_pos (Or.inl rfl)] at hstt
              have Hst := Lib.hid hstt
              clear hstt
              go_wp2_with fail
              refine ⟨⟨r + 1, R, a10, c10, by omega, by go_num, rfl, Lib.hid ⟨HR.out.1.same H6.out.1, HR.out.2.trans H6.out.1⟩, Lib.hid ?_, Lib.hid (by have := HRl.out; omega)⟩, by simp [intOf]; omega⟩
              rw [H5.out.2.2.2.1]
              exact Hst.out
          · have hr1 : ¬ ((r : Int) < E.length) := by omega
            have hta : E.take r = E := List.take_of_length_le (by omega)
            rw [hta] at HI
            have hend := HR.out.1.eds.imp' (q := fun g => w.heap.size ≤ g ∧ g < wr.heap.size) (fun g hg => ⟨Nat.le_trans HV.out.2.2.size hg.1, hg.2.1⟩)
            have Hend := Lib.hid (And.intro hend (HV.out.2.2.trans HR.out.2))
            clear hend
            go_wp2_with fail
            go_ret2
            exact ⟨Or.inr ⟨a10, c10, R, rfl, Hend.out.1, HI.out, O, H1.out.2⟩, Hend.out.2⟩
end Go.Proofs.Ytenjjiilcdgimaa
