/- depgraph: Levels. -/
import Derived.Test.YtenjjiilcdgimaaDgT
import Derived.Test.YtenjjiilcdgimaaRange
namespace Go.Proofs.Ytenjjiilcdgimaa
open Go.RowKit Go.ChangeMaps Go.MapKept Go.Shelf
set_option linter.unusedVariables false
set_option linter.unusedSimpArgs false
theorem flat_ge {α : Type} (Ls : List (List α)) (h : ∀ l ∈ Ls, l ≠ []) : Ls.length ≤ Ls.flatten.length := by
  induction Ls with
  | nil => simp
  | cons l r ih =>
    have h1 := ih fun x hx => h x (by simp [hx])
    have h2 := List.length_pos_iff.2 (h l (by simp))
    simp only [List.flatten_cons, List.length_append, List.length_cons]
    omega
theorem flat_snoc {α : Type} (Ls : List (List α)) (l : List α) : (Ls ++ [l]).flatten = Ls.flatten ++ l := by simp
def rd (E : List Ed) (O : List I3) (l : List I3) : List I3 := l.filter fun k => decide (Rdy E O k)
theorem rd_snoc (E : List Ed) (O l : List I3) (k : I3) : rd E O (l ++ [k]) = if Rdy E O k then rd E O l ++ [k] else rd E O l := by
  unfold rd
  rw [List.filter_append]
  by_cases h : Rdy E O k <;> simp [h]
theorem infoKs : (Try.prog.info? 26).map (fun i => (i.zero, i.size, i.bytes)) = some (some (.slice none 0 0), 1, 24) := by kernel_rfl
/-- the levels so far -/
structure LI (w3 wr : World) (bs : Nat) (E : List Ed) (Ls : List (List I3)) (v6 : Value) : Prop where
  chg : Chg [bs] w3 wr
  mp : MapAt Try.prog 24 i3v wr bs (seenE Ls.flatten)
  row : ∃ vs : List Value, vs.length = Ls.length ∧ wr.ownsRow w3.heap.size 26 1 v6 Ls.length vs ∧ ∀ i (h : i < Ls.length), OwnK wr w3.heap.size (vs.getD i undef) Ls[i]
  top : TopI E Ls.flatten
  ne : ∀ l ∈ Ls, l ≠ []
def LevPost (w : World) (E : List Ed) (e : Ending) (w' : World) : Prop :=
  ((e = .returned (.tuple #[.slice none 0 0, .int .i64 8]) ∧ ∃ x, Reach E x x) ∨ ∃ a c Ls, e = .returned (.tuple #[.slice a Ls.length c, .int .i64 0]) ∧ I3ss (fun g => w.heap.size ≤ g ∧ g < w'.heap.size) w' (.slice a Ls.length c) Ls ∧ TopI E Ls.flatten ∧ Ls.flatten.length = (ks E).length ∧ Ls.length ≤ (ks E).length) ∧ Chg [] w w'
theorem I3ss_imp {p q : Nat → Prop} {w : World} {v : Value} {xs : List (List I3)} (h : I3ss p w v xs) (hp : ∀ g, p g → q g) : I3ss q w v xs :=
  SlR.imp h hp fun ad x _ hx => by
    obtain ⟨u, h1, h2⟩ := hx
    exact ⟨u, h1, h2.imp hp⟩
theorem LI.ss {w3 wr : World} {bs : Nat} {E : List Ed} {Ls : List (List I3)} {v6 : Value} (h : LI w3 wr bs E Ls v6) : I3ss (fun g => w3.heap.size ≤ g ∧ g < wr.heap.size) wr v6 Ls := by
  obtain ⟨vs, hl, ho, hk⟩ := h.row
  have ho' := ho
  rcases ho.2 with ⟨rfl, h0⟩ | ⟨g, cap, cur, rfl, h1, h2, h3, h4, h5, h6⟩
  · have : Ls = [] := List.eq_nil_of_length_eq_zero h0
    subst this
    exact SlR.nil _ _ _ _
  · refine ⟨_, cap, rfl, h3, h4, fun _ => ⟨g, 0, rfl, ⟨h1, lt_of_obj h2⟩, fun j hj => ?_⟩⟩
    have hj' : j < vs.length := by omega
    have c0 := ho'.cells (g := g) rfl j vs[j] (by rw [List.getElem?_eq_getElem hj'])
    rw [Addr.add_lit] at c0
    have hkj := hk j hj
    rw [List.getD_eq_getElem?_getD, List.getElem?_eq_getElem hj', Option.getD_some] at hkj
    exact ⟨vs[j], by simpa using c0, hkj.i3s.imp fun g hg => ⟨hg.1, hg.2.1⟩⟩
theorem LI.rowAt {w3 wr w' : World} {bs : Nat} {E : List Ed} {Ls : List (List I3)} {v6 : Value} (h : LI w3 wr bs E Ls v6) (hc : Chg [bs] wr w') :
    ∃ vs : List Value, vs.length = Ls.length ∧ w'.ownsRow w3.heap.size 26 1 v6 Ls.length vs ∧ ∀ i (h : i < Ls.length), OwnK w' w3.heap.size (vs.getD i undef) Ls[i] := by
  obtain ⟨vs, hl, ho, hk⟩ := h.row
  refine ⟨vs, hl, ownsRow_kept ho fun g hg hlt => hc.block g hlt fun hm => own_map ho h.mp (by rw [hg]; simpa using hm), fun i hi => (hk i hi).kept hc.toP fun g hg hS => own_map (hk i hi) h.mp (by rw [hg]; simpa using hS)⟩
theorem LI.push {w3 w7 : World} {bs : Nat} {E : List Ed} {Ls : List (List I3)} {v6 lv : Value} {Lv : List I3} {n7 : Nat} (hc : Chg [bs] w3 w7) (hmp : MapAt Try.prog 24 i3v w7 bs (seenE (Ls.flatten ++ Lv)))
    (hr : ∃ vs : List Value, vs.length = Ls.length ∧ w7.ownsRow w3.heap.size 26 1 v6 Ls.length vs ∧ ∀ i (h : i < Ls.length), OwnK w7 w3.heap.size (vs.getD i undef) Ls[i])
    (hlv : OwnK w7 w3.heap.size lv Lv) (ht : TopI E (Ls.flatten ++ Lv)) (hne : ∀ l ∈ Ls, l ≠ []) (hn : Lv ≠ []) (hb7 : w7.heap[n7]? = some (.cells #[lv] 26 (0, 0))) (hlen : Ls.length ≤ 1000) (ty : TypeId) :
    ∃ a8 c8 w8, (Builtin.append_ #[33, 33] ty #[v6, .slice (some ⟨n7, 0, none⟩) 1 1]).run Try.prog w7 = .ok (.slice a8 (Ls.length + 1) c8) w8 ∧ LI w3 w8 bs E (Ls ++ [Lv]) (.slice a8 (Ls.length + 1) c8) := by
  obtain ⟨vs, hl, ho, hk⟩ := hr
  obtain ⟨i0, hi, hz0, hz1, hz2⟩ := info_parts infoKs
  have hone : ∀ u ∈ [lv], u.oneCell' = true := by
    intro u hu
    obtain ⟨a, c, rfl⟩ := ownsRow_shape hlv
    rw [List.mem_singleton.1 hu]
    rfl
  obtain ⟨v', w8, hrun, h2, h3, _, h5⟩ := run_append_own_at (P := Try.prog) w7 w3.heap.size 33 ty 26 i0 (.slice none 0 0) 1 24 Try.underlying33 hi hz0 hz1 hz2 rfl (by decide) v6 Ls.length vs ho ⟨n7, 0, none⟩ 1 1 [lv] rfl (fun j u hj => by
    cases j with
    | zero =>
      simp only [List.getElem?_cons_zero, Option.some.injEq] at hj
      subst hj
      rw [Addr.add_lit]
      exact cell_of_heap hb7 rfl
    | succ j => simp at hj) hone (by unfold maxLen; omega) (by omega) hc.size
  obtain ⟨a8, c8, rfl⟩ := ownsRow_shape h2
  have hch : Chg v6.ownBlock.toList w7 w8 := (Chg.refl _ w7).grown h3 (by intro k hk; left; simp [hk])
  have hoff : ∀ {v : Value} {l : List I3}, OwnK w7 w3.heap.size v l → OwnK w8 w3.heap.size v l := fun {v l} hv => hv.kept hch.toP fun g hg hS => by
    obtain ⟨cur, hcur⟩ := own_at ho (g := g) (by simpa using hS)
    exact own_obj hv hcur (by decide) hg
  refine ⟨a8, c8, w8, hrun, ⟨hc.comp hch fun g hg => Or.inr (ho.lt g (by simpa using hg)).1, ?_, ⟨vs ++ [lv], by simp [hl], by simpa using h2, fun i hi' => ?_⟩, by rw [flat_snoc]; exact ht, fun l hm => ?_⟩⟩
  · rw [flat_snoc]
    exact hmp.kept hch fun hS => own_map ho hmp (by simpa using hS)
  · by_cases hlt : i < Ls.length
    · have := hoff (hk i hlt)
      rw [List.getElem_append_left hlt, List.getD_eq_getElem?_getD, List.getElem?_append_left (by omega), ← List.getD_eq_getElem?_getD]
      exact this
    · obtain rfl : i = Ls.length := by simp at hi'; omega
      have e1 : (vs ++ [lv]).getD Ls.length undef = lv := by rw [← hl]; simp
      have e2 : (Ls ++ [Lv])[Ls.length]'hi' = Lv := by simp
      rw [e1, e2]
      exact hoff hlv
  · rcases List.mem_append.1 hm with h | h
    · exact hne l h
    · rw [List.mem_singleton.1 h]; exact hn
theorem rd_stuck {E : List Ed} {O : List I3} (h : rd E O (ks E) = []) : ∀ k ∈ ks E, ¬ Rdy E O k := by
  intro k hk hr
  unfold rd at h
  rw [List.filter_eq_nil_iff] at h
  have := h k hk
  simp [hr] at this
theorem rd_nodup (E : List Ed) (O : List I3) : (rd E O (ks E)).Nodup := (ks_spec E).1.nodup.sublist List.filter_sublist
theorem rd_mem {E : List Ed} {O : List I3} {k : I3} (h : k ∈ rd E O (ks E)) : k ∈ ks E ∧ Rdy E O k := by
  unfold rd at h
  rw [List.mem_filter] at h
  exact ⟨h.1, by simpa using h.2⟩
set_option maxRecDepth 100000 in
set_option maxHeartbeats 8000000 in
theorem levels_any (p : Nat → Prop) (w : World) (v : Value) (E : List Ed) (h : EdP p w v E) (hl : E.length ≤ 100) (hok : EdOk E) :
    Calls Try.prog 11 #[v] w (LevPost w E) := by
  have hmm := @run_makeMap Try.prog
  have hng := newGraph_any p w v E false h hl hok
  rw [show revIf false E = E from rfl] at hng
  obtain ⟨a, cap, rfl, _, _⟩ := SlR.shape h
  have Hng := Lib.hid hng
  have Hok := Lib.hid hok
  clear h hng hok
  go_enter Try.func11, Try.ntmps11
  go_wp2_with fail
  refine Hng.out.mono ?_
  rintro e w2 ⟨gb, bm, L, kv, rfl, hG⟩
  obtain ⟨ak, ck, rfl⟩ := ownsRow_shape hG.at_.kw
  obtain ⟨w3, hw3⟩ : ∃ q, q = w2.alloc (.map #[] 0) := ⟨_, rfl⟩
  obtain ⟨bs, hbs⟩ : ∃ n, n = w2.heap.size := ⟨_, rfl⟩
  have hc3 : Chg [] w2 w3 := by rw [hw3]; exact (Chg.refl [] w2).alloc _
  have hm3 : MapAt Try.prog 24 i3v w3 bs (seenE []) := by
    rw [hw3, hbs]
    have := MapAt.made Try.prog 24 i3v w2
    simpa [seenE] using this
  have hG3 := hG.at_.same hc3
  have hL := hG.list
  have hbm := hG.at_.mp.lt
  have hne : bs ≠ bm := by omega
  have hks := (ks_spec E).2.2
  have hcw3 : Chg [] w w3 := hG.chg.trans hc3
  have hwb : w.heap.size ≤ bs := by have := hG.chg.size; omega
  have H0 := Lib.hid (And.intro hG3 (And.intro hm3 (And.intro hne (And.intro hL (And.intro hcw3 hwb)))))
  have HT0 := Lib.hid (show LI w3 w3 bs E [] (.slice none 0 0) from ⟨Chg.refl _ _, hm3, ⟨[], rfl, ⟨rfl, .inl ⟨rfl, rfl⟩⟩, fun i h => absurd h (by simp)⟩, TopI.nil E, by simp⟩)
  have HW := Lib.hid (And.intro hw3 hbs)
  have hkb := hG.at_.kw.bound
  have hkm : (ks E).length ≤ maxLen := by omega
  unfold maxLen at hkm
  clear hG hc3 hm3 hG3 hL hbm hne hcw3 hwb hw3 hbs hkb
  go_wp2_with fail
  rw [← HW.out.1, ← HW.out.2]
  go_loopw [6] (fun v6 wr => ∃ (Ls : List (List I3)) (a6 : Option Addr) (c6 : Nat), v6 = .slice a6 Ls.length c6 ∧ Hid (LI w3 wr bs E Ls v6)) (fun v6 _ => (ks E).length - lenV v6)
  case atStart => exact ⟨[], none, 0, rfl, HT0⟩
  case round =>
    clear HT0
    obtain ⟨Ls, a6, c6, rfl, HT⟩ := hrel
    obtain ⟨O, hO⟩ : ∃ O, O = Ls.flatten := ⟨_, rfl⟩
    have hT := HT.out
    obtain ⟨hG3, hm3, hne, hL, hcw3, hwb⟩ := H0.out
    have hol := hT.top.len
    have hll := flat_ge Ls hT.ne
    rw [← hO] at hol hll
    go_upto_region 4 with (fail)
    refine wp_region_readsQ 7 (by kernel_rfl) (by kernel_rfl) ?_
    intro wd hwd
    simp only [List.take_succ_cons, List.take_zero, List.drop_succ_cons, List.drop_zero]
    have hcd : Chg [] wr wd := by rw [hwd]; exact (Chg.refl [] wr).drew
    have h3d : Chg [bs] w3 wd := hT.chg.new hcd
    have hG := hG3.besides hm3 hne h3d
    have hmd := hT.mp.kept hcd (by simp)
    rw [← hO] at hmd
    have hlen := hmd.len Try.underlying49 (ty := 3)
    rw [show (seenE O).length = O.length by simp [seenE]] at hlen
    have g1 : wd.cell? ⟨gb, 1, none⟩ = some (.slice ak (ks E).length ck) := cell_of_heap hG.box rfl
    have lg := lt_of_cell g1
    have Hd := Lib.hid (And.intro h3d (And.intro hG (And.intro hmd hcd)))
    have HOe := Lib.hid hO
    clear hwd hcd h3d hG hmd hT hG3 hm3 hne hL hcw3 hwb hO
    by_cases hlt : O.length < (ks E).length
    · have hlt1 : (O.length : Int) < (ks E).length := by omega
      repeat go_big_quiet_step (fail)
      refine wpQuiet_nil ?_
      go_wp2_with fail
      clear g1 lg hlen hlt1
      go_loopw [7, 28] (fun v7 i wx => ∃ (j : Nat) (Lv : List I3) (a7 : Option Addr) (c7 : Nat), j ≤ (ks E).length ∧ i = .int .i64 (j : Nat) ∧ v7 = .slice a7 Lv.length c7 ∧ Hid (Lv = rd E O ((ks E).take j)) ∧ Hid (OwnK wx wd.heap.size v7 Lv ∧ Chg [] wd wx)) (fun _ i _ => (ks E).length - (intOf i).toNat)
      case atStart => exact ⟨0, [], none, 0, by omega, rfl, rfl, Lib.hid rfl, Lib.hid ⟨OwnK.nil _ _, Chg.refl _ _⟩⟩
      case round =>
        obtain ⟨j, Lv, a7, c7, hj, rfl, rfl, HLv, HI⟩ := hrel
        by_cases hjl : j < (ks E).length
        · have hj1 : (j : Int) < (ks E).length := by omega
          have hGr := Hd.out.2.1.same HI.out.2
          obtain ⟨gk, ok, rfl, _, q0, q1, q2⟩ := SlR.at hGr.kw.i3s j hjl (0, 0, 0)
          obtain ⟨y, hy⟩ : ∃ y, (ks E).getD j (0, 0, 0) = y := ⟨_, rfl⟩
          have hym : y ∈ ks E := by rw [← hy]; exact getD_memb hjl _
          have hyk := ks_ok Hok.out hym
          rw [hy] at q0 q1 q2
          obtain ⟨y0, y1, y2⟩ := y
          simp only at q0 q1 q2
          have lq := lt_of_cell q0
          have hsn : rd E O ((ks E).take (j + 1)) = if Rdy E O (y0, y1, y2) then Lv ++ [(y0, y1, y2)] else Lv := by
            rw [fold_take_snoc _ j hjl (0, 0, 0), hy, rd_snoc, HLv.out]
          have hLl : Lv.length ≤ j := by
            rw [HLv.out]
            refine Nat.le_trans (List.length_filter_le _ _) ?_
            rw [List.length_take]
            omega
          obtain ⟨w5, hw5⟩ : ∃ q, q = wr.alloc (.cells #[.int .i64 y0, .int .i64 y1, .int .i64 y2] 24) := ⟨_, rfl⟩
          obtain ⟨n5, hn5⟩ : ∃ n, n = wr.heap.size := ⟨_, rfl⟩
          have hc5 : Chg [] wr w5 := by rw [hw5]; exact (Chg.refl [] wr).alloc _
          have hb5 : w5.heap[n5]? = some (kObj (y0, y1, y2)) := by rw [hw5, hn5]; exact heap_at _ _ _ rfl
          have Hrd := Lib.hid (ready_any w5 _ gb bm E L _ bs O y0 y1 y2 (hGr.same hc5) H0.out.2.2.2.1 Hok.out hyk (Hd.out.2.2.1.kept (HI.out.2.trans hc5) (by simp)))
          have HW5 := Lib.hid (And.intro hw5 hn5)
          have H5 := Lib.hid (And.intro hc5 hb5)
          have Hsn := Lib.hid hsn
          clear hGr hy hym hyk hsn hw5 hn5 hc5 hb5
          go_wp2_with fail
          rw [← HW5.out.1, ← HW5.out.2]
          refine Hrd.out.mono ?_
          rintro e w6 ⟨rfl, hc6⟩
          have hb6 := (hc6.block _ (lt_of_obj H5.out.2) (by simp)).trans H5.out.2
          obtain ⟨e0, e1, e2⟩ := kCellsAt hb6
          have le := lt_of_cell e0
          have h56 : Chg [] wr w6 := H5.out.1.trans hc6
          by_cases hrd : Rdy E O (y0, y1, y2)
          · rw [decide_eq_true hrd]
            have hLn := Hsn.out
            rw [if_pos hrd] at hLn
            obtain ⟨w7, hw7⟩ : ∃ q, q = w6.alloc (.cells #[.int .i64 y0, .int .i64 y1, .int .i64 y2] 24) := ⟨_, rfl⟩
            obtain ⟨n7, hn7⟩ : ∃ n, n = w6.heap.size := ⟨_, rfl⟩
            have hc7 : Chg [] w6 w7 := by rw [hw7]; exact (Chg.refl [] w6).alloc _
            have hb7 : w7.heap[n7]? = some (kObj (y0, y1, y2)) := by rw [hw7, hn7]; exact heap_at _ _ _ rfl
            have ho7 := HI.out.1.same (h56.trans hc7)
            have h07 : Chg [] wd w7 := HI.out.2.trans (h56.trans hc7)
            obtain ⟨v8, w8, hr8, ho8, hc8, _⟩ := run_append_keys w7 26 wd.heap.size 0 _ _ Lv [(y0, y1, y2)] ho7 (OwnK.of_heap1 hb7) (by simp only [List.length_cons, List.length_nil]; omega) h07.size
            obtain ⟨a8, c8, rfl⟩ := ownsRow_shape ho8
            have hOl : (Lv ++ [(y0, y1, y2)]).length = Lv.length + 1 := by simp
            rw [hOl] at hr8
            have H8 := Lib.hid (show OwnK w8 wd.heap.size (.slice a8 (Lv ++ [(y0, y1, y2)]).length c8) (Lv ++ [(y0, y1, y2)]) ∧ Chg [] wd w8 from ⟨ho8, h07.comp hc8 fun g hg => Or.inr (ho7.lt g (by simpa using hg)).1⟩)
            have HW7 := Lib.hid (And.intro hw7 hn7)
            have Hr8 := Lib.hid hr8
            have HLn := Lib.hid hLn.symm
            clear hrd hLn hw7 hn7 hc7 hb7 ho7 h07 hr8 ho8 hc8 hb6 h56 hc6 Hrd Hsn
            go_wp2_with (at_builtin; rw [← HW7.out.1, ← HW7.out.2]; refine wpList_append_run rfl _ _ _ rfl _ _ _ _ rfl rfl Hr8.out ?_)
            rw [hOl] at H8
            exact ⟨⟨j + 1, _, a8, c8, by omega, by go_num, by rw [hOl], HLn, H8⟩, by simp [intOf]; omega⟩
          · rw [decide_eq_false hrd]
            have hLn := Hsn.out
            rw [if_neg hrd] at hLn
            have H6 := Lib.hid (And.intro (HI.out.1.same h56) (HI.out.2.trans h56))
            have HLn := Lib.hid hLn.symm
            clear hrd hLn hb6 h56 hc6 Hrd Hsn
            go_wp2_with fail
            exact ⟨⟨j + 1, Lv, a7, c7, by omega, by go_num, rfl, HLn, H6⟩, by simp [intOf]; omega⟩
        · have hj1 : ¬ ((j : Int) < (ks E).length) := by omega
          obtain rfl : j = (ks E).length := by omega
          rw [List.take_length] at HLv
          by_cases hLe : Lv = []
          · subst hLe
            have hstuck := HT.out.top.stuck (by rw [← HOe.out]; exact hlt) (rd_stuck (by rw [← HOe.out]; exact HLv.out.symm))
            have Hst := Lib.hid hstuck
            clear hstuck
            go_wp2_with fail
            go_ret2
            exact ⟨Or.inl ⟨rfl, Hst.out⟩, (H0.out.2.2.2.2.1.comp Hd.out.1 fun g hg => Or.inr (by rw [List.mem_singleton.1 hg]; exact H0.out.2.2.2.2.2)).new HI.out.2⟩
          · have hpos : 0 < Lv.length := List.length_pos_iff.2 hLe
            have hnz : ¬ ((Lv.length : Int) = 0) := by omega
            have hLl : Lv.length ≤ (ks E).length := by rw [HLv.out]; exact List.length_filter_le _ _
            have HLe := Lib.hid hLe
            clear hLe
            go_wp2_with fail
            obtain ⟨wv, hwv⟩ : ∃ q, q = wr := ⟨_, rfl⟩
            have HIv := HI
            have Hmv := Lib.hid (Hd.out.2.2.1.kept HI.out.2 (by simp))
            rw [← hwv] at HIv Hmv
            go_loopw [46] (fun i wx => ∃ j : Nat, j ≤ Lv.length ∧ i = .int .i64 (j : Nat) ∧ Hid (MapAt Try.prog 24 i3v wx bs (seenE (O ++ Lv.take j)) ∧ Chg [bs] wv wx)) (fun i _ => Lv.length - (intOf i).toNat)
            case atStart => exact ⟨0, by omega, rfl, Lib.hid ⟨by rw [← hwv, List.take_zero, List.append_nil]; exact Hmv.out, by rw [← hwv]; exact Chg.refl _ _⟩⟩
            case round =>
              clear hwv
              obtain ⟨j, hj, rfl, HJ⟩ := hrel
              have hown : OwnK wr wd.heap.size (.slice a7 Lv.length c7) Lv := HIv.out.1.kept HJ.out.2.toP fun g hg hS => own_map HIv.out.1 Hmv.out (by rw [hg]; simpa using hS)
              by_cases hjl : j < Lv.length
              · have hj1 : (j : Int) < Lv.length := by omega
                obtain ⟨gk, ok, rfl, _, q0, q1, q2⟩ := SlR.at hown.i3s j hjl (0, 0, 0)
                obtain ⟨y, hy⟩ : ∃ y, Lv.getD j (0, 0, 0) = y := ⟨_, rfl⟩
                have hym : y ∈ Lv := by rw [← hy]; exact getD_memb hjl _
                have hyr := rd_mem (HLv.out ▸ hym)
                have hyk := ks_ok Hok.out hyr.1
                have htk := fold_take_snoc Lv j hjl (0, 0, 0)
                rw [hy] at q0 q1 q2 htk
                have hnin : y ∉ O ++ Lv.take j := by
                  intro hm
                  rcases List.mem_append.1 hm with hm | hm
                  · exact hyr.2.1 hm
                  · have hnd : (Lv.take (j + 1)).Nodup := (HLv.out ▸ rd_nodup E O : Lv.Nodup).sublist (List.take_sublist _ _)
                    rw [htk, List.nodup_append] at hnd
                    exact hnd.2.2 y hm y (by simp) rfl
                obtain ⟨y0, y1, y2⟩ := y
                simp only at q0 q1 q2
                have lq := lt_of_cell q0
                obtain ⟨w5, hw5⟩ : ∃ q, q = wr.alloc (.cells #[.int .i64 y0, .int .i64 y1, .int .i64 y2] 24) := ⟨_, rfl⟩
                obtain ⟨n5, hn5⟩ : ∃ n, n = wr.heap.size := ⟨_, rfl⟩
                have hc5 : Chg [] wr w5 := by rw [hw5]; exact (Chg.refl [] wr).alloc _
                have hb5 : w5.heap[n5]? = some (kObj (y0, y1, y2)) := by rw [hw5, hn5]; exact heap_at _ _ _ rfl
                obtain ⟨e0, e1, e2⟩ := kCellsAt hb5
                have le := lt_of_cell e0
                obtain ⟨o, hup, hmu⟩ := (HJ.out.1.kept hc5 (by simp)).update qkeyed i3v_inj Try.underlying49 (qkOk hyk) (.int .i64 1)
                rw [seen_ups _ _ hnin, List.append_assoc, ← htk] at hmu
                simp only [i3v] at hup
                have HW5 := Lib.hid (And.intro hw5 hn5)
                have H6 := Lib.hid (And.intro hmu ((HJ.out.2.new hc5).trans (chg_setBlock w5 bs o)))
                clear hown hy hym hyr hyk htk hnin hw5 hn5 hc5 hb5 hmu
                go_upto_region 17 with (fail)
                rw [← HW5.out.1, ← HW5.out.2]
                go_wp2_with fail
                exact ⟨⟨j + 1, by omega, by go_num, H6⟩, by simp [intOf]; omega⟩
              · have hj1 : ¬ ((j : Int) < Lv.length) := by omega
                obtain rfl : j = Lv.length := by omega
                rw [List.take_length] at HJ
                obtain ⟨w7, hw7⟩ : ∃ q, q = wr.alloc (.cells #[.slice a7 Lv.length c7] 26) := ⟨_, rfl⟩
                obtain ⟨n7, hn7⟩ : ∃ n, n = wr.heap.size := ⟨_, rfl⟩
                have hc7 : Chg [] wr w7 := by rw [hw7]; exact (Chg.refl [] wr).alloc _
                have hb7 : w7.heap[n7]? = some (.cells #[.slice a7 Lv.length c7] 26 (0, 0)) := by rw [hw7, hn7]; exact heap_at _ _ _ rfl
                have hto : Chg [bs] _ w7 := ((Hd.out.2.2.2.trans HIv.out.2).nil.trans HJ.out.2).new hc7
                have hmp7 := HJ.out.1.kept hc7 (by simp)
                rw [HOe.out] at hmp7
                have hrm : ∀ k ∈ Lv, k ∈ ks E ∧ Rdy E O k := fun k hk => rd_mem (HLv.out ▸ hk)
                obtain ⟨a8, c8, w8, hr8, hI8⟩ := LI.push (HT.out.chg.trans hto) hmp7 (HT.out.rowAt hto) (ownsRow_base (hown.same hc7) Hd.out.1.size)
                  (HT.out.top.more (HLv.out ▸ rd_nodup E O : Lv.Nodup) (fun k hk => (hrm k hk).1) (fun k hk => by rw [← HOe.out]; exact (hrm k hk).2)) HT.out.ne HLe.out hb7 (by omega) 33
                have HW7 := Lib.hid (And.intro hw7 hn7)
                have Hr8 := Lib.hid hr8
                have H8 := Lib.hid hI8
                clear hown hw7 hn7 hc7 hb7 hto hmp7 hrm hr8 hI8
                go_wp2_with (at_builtin; rw [← HW7.out.1, ← HW7.out.2]; refine wpList_append_run rfl _ _ _ rfl _ _ _ _ rfl rfl Hr8.out ?_)
                have hOl : (Ls ++ [Lv]).length = Ls.length + 1 := by simp
                exact ⟨⟨Ls ++ [Lv], a8, c8, by rw [hOl], H8⟩, by simp only [lenV]; omega⟩
    · have hnlt : ¬ ((O.length : Int) < (ks E).length) := by omega
      have hcw := H0.out.2.2.2.2.1.comp Hd.out.1 fun g hg => Or.inr (by rw [List.mem_singleton.1 hg]; exact H0.out.2.2.2.2.2)
      have Hss := Lib.hid (HT.out.ss)
      repeat go_big_quiet_step (fail)
      refine wpQuiet_nil ?_
      go_wp2_with fail
      go_ret2
      have h1 := I3ss_imp (Hss.out.kept (Hd.out.2.2.2.p (S := fun _ => False)) (fun _ _ h => h)) (q := fun g => w.heap.size ≤ g ∧ g < wd.heap.size) (fun g hg => ⟨Nat.le_trans H0.out.2.2.2.2.1.size hg.1, Nat.lt_of_lt_of_le hg.2 Hd.out.2.2.2.size⟩)
      exact ⟨Or.inr ⟨a6, c6, Ls, rfl, h1, HT.out.top, by rw [← HOe.out]; omega, by omega⟩, hcw⟩
end Go.Proofs.Ytenjjiilcdgimaa
