/- JsonrpcExactlyOnce: the walk. -/
import Derived.Test.YtiklgipcgdgkoaaDoorJsP
import Derived.Test.YtiklgipcgdgkoaaDoorMod
import Derived.Deep.DeepCutAuto
import Derived.Deep.OwnRows
namespace Go.Proofs.YtiklgipcgdgkoaaDoor.Jv
open Go Go.BigFrame Go.RowKit Go.ChangeMaps Go.MapKept
set_option linter.unusedVariables false
set_option linter.unusedSimpArgs false
theorem pendF_mem : ∀ (js : List Jb) (i : Nat) (x : Int), x ∈ pendF i js ↔ ∃ k, k < js.length ∧ x = ((i + k : Nat) : Int) ∧ (js.getD k jd).2.1 = true
  | [], i, x => by simp [pendF]
  | j :: js, i, x => by
    have ih := pendF_mem js (i + 1) x
    have hs : (∃ k, k < (j :: js).length ∧ x = ((i + k : Nat) : Int) ∧ ((j :: js).getD k jd).2.1 = true) ↔ (x = (i : Int) ∧ j.2.1 = true) ∨ ∃ k, k < js.length ∧ x = ((i + 1 + k : Nat) : Int) ∧ (js.getD k jd).2.1 = true := by
      constructor
      · rintro ⟨k, hk, hx, hp⟩
        cases k with
        | zero => exact Or.inl ⟨by simpa using hx, by simpa using hp⟩
        | succ k => exact Or.inr ⟨k, by simpa using hk, by rw [hx]; omega, by simpa using hp⟩
      · rintro (⟨hx, hp⟩ | ⟨k, hk, hx, hp⟩)
        · exact ⟨0, by simp, by simpa using hx, by simpa using hp⟩
        · exact ⟨k + 1, by simpa using hk, by rw [hx]; omega, by simpa using hp⟩
    rw [hs, pendF]
    split
    · rename_i hj
      rw [List.mem_cons, ih]
      simp [hj]
    · rename_i hj
      rw [ih]
      simp [hj]
theorem pendF_nodup : ∀ (js : List Jb) (i : Nat), (pendF i js).Nodup
  | [], i => by simp [pendF]
  | j :: js, i => by
    rw [pendF]
    split
    · refine List.nodup_cons.2 ⟨fun h => ?_, pendF_nodup js (i + 1)⟩
      obtain ⟨k, _, hx, _⟩ := (pendF_mem js (i + 1) _).1 h
      omega
    · exact pendF_nodup js (i + 1)
/-- the jobs once the first n open ones are answered -/
def Opn (js js' : List Jb) (n : Nat) : Prop := js'.length = js.length ∧ ∀ k, k < js.length → ((js'.getD k jd).2.1 = true ↔ (js.getD k jd).2.1 = true ∧ ((k : Nat) : Int) ∉ (pendF 0 js).take n)
theorem Opn.step {js js' : List Jb} {n : Nat} (h : Opn js js' n) (hn : n < (pendF 0 js).length) : ∃ k : Nat, (pendF 0 js)[n] = k ∧ k < js'.length ∧ ckE js' k = 0 ∧ Opn js (ansJ js' k) (n + 1) := by
  obtain ⟨k, hk, hx, hp⟩ := (pendF_mem js 0 _).1 (List.getElem_mem hn)
  rw [Nat.zero_add] at hx
  have hnd := pendF_nodup js 0
  have hnot : ((k : Nat) : Int) ∉ (pendF 0 js).take n := by
    rw [← hx]
    intro hm
    obtain ⟨q, hq, he⟩ := List.getElem_of_mem hm
    rw [List.length_take] at hq
    rw [List.getElem_take] at he
    exact List.pairwise_iff_getElem.1 hnd q n (by omega) hn (by omega) he
  have hk' : k < js'.length := by rw [h.1]; exact hk
  have hpk := (h.2 k hk).2 ⟨hp, hnot⟩
  refine ⟨k, hx, hk', ?_, by unfold ansJ; rw [List.length_set]; exact h.1, fun q hq => ?_⟩
  · unfold ckE
    rw [if_neg (by omega), Int.toNat_natCast, if_neg]
    show ¬ (js'.getD k jd).2.1 = false
    rw [hpk]; simp
  · rw [List.take_succ_eq_append_getElem hn, hx]
    unfold ansJ
    by_cases hqk : q = k
    · subst hqk
      simp [hk']
    · have e : (js'.set k ((js'.getD k jd).1, false, (js'.getD k jd).2.2)).getD q jd = js'.getD q jd := by
        rw [List.getD_eq_getElem?_getD, List.getElem?_set_ne (Ne.symm hqk), ← List.getD_eq_getElem?_getD]
      rw [e, h.2 q hq]
      constructor
      · rintro ⟨h1, h2⟩
        exact ⟨h1, fun hm => (List.mem_append.1 hm).elim h2 fun hm => hqk (by have := List.mem_singleton.1 hm; omega)⟩
      · rintro ⟨h1, h2⟩
        exact ⟨h1, fun hm => h2 (List.mem_append.2 (Or.inl hm))⟩
theorem Opn.last {js js' : List Jb} (h : Opn js js' (pendF 0 js).length) : pendF 0 js' = [] := by
  rw [List.eq_nil_iff_forall_not_mem]
  intro x hx
  obtain ⟨k, hk, hx, hp⟩ := (pendF_mem js' 0 x).1 hx
  have hk' : k < js.length := by rw [← h.1]; exact hk
  obtain ⟨h1, h2⟩ := (h.2 k hk').1 hp
  rw [List.take_length] at h2
  exact h2 ((pendF_mem js 0 _).2 ⟨k, hk', by rw [Nat.zero_add], h1⟩)
theorem Opn.first (js : List Jb) : Opn js js 0 := ⟨rfl, fun k hk => by simp⟩
theorem li_zero : LI 0 [0, 0, 0, 0, 0, 0] [0, 0, 0, 0, 0, 0] [] [] := ⟨rfl, rfl, by simp, by simp, fun j hj => by simp at hj, fun j hj => by simp at hj, fun i hi => by
  have : i = 0 ∨ i = 1 ∨ i = 2 ∨ i = 3 ∨ i = 4 ∨ i = 5 := by omega
  rcases this with rfl | rfl | rfl | rfl | rfl | rfl <;> rfl, fun i hi => by
  have : i = 0 ∨ i = 1 ∨ i = 2 ∨ i = 3 ∨ i = 4 ∨ i = 5 := by omega
  rcases this with rfl | rfl | rfl | rfl | rfl | rfl <;> decide, fun i hi => by
  have : i = 0 ∨ i = 1 ∨ i = 2 ∨ i = 3 ∨ i = 4 ∨ i = 5 := by omega
  rcases this with rfl | rfl | rfl | rfl | rfl | rfl <;> decide⟩
theorem hpush (w : World) (o : Obj) : (w.alloc o).heap = w.heap.push o := rfl
theorem made6 : madeCells #[Value.int .i64 0] 6 = #[.int .i64 0, .int .i64 0, .int .i64 0, .int .i64 0, .int .i64 0, .int .i64 0] := by
  apply Array.ext (by simp [madeCells])
  intro i h1 h2
  simp only [madeCells, Array.size_map, Array.size_range] at h1
  have : i = 0 ∨ i = 1 ∨ i = 2 ∨ i = 3 ∨ i = 4 ∨ i = 5 := by omega
  rcases this with rfl | rfl | rfl | rfl | rfl | rfl <;> simp [madeCells]
set_option maxRecDepth 100000 in
set_option maxHeartbeats 16000000 in
theorem exactly_any (w : World) (sv : Value) (S : List I3) (hS : I3s (fun k => k < w.heap.size) w sv S) (hT : TP w) (hlow : Tryd.laysValid_ren.g 3 < w.heap.size ∧ Tryd.laysValid_ren.g 4 < w.heap.size ∧ 2 < w.heap.size) :
    Calls Tryd.prog 5 #[sv] w fun e w' => e = .returned (.bool true) ∧ Chg [] w w' := by
  have HS := Lib.hid hS
  have HT := Lib.hid hT
  have Hlow := Lib.hid hlow
  obtain ⟨sa, sc, rfl, hsl, hsc⟩ := hS.shape
  unfold maxLen at hsl
  obtain ⟨sn, hsn⟩ : ∃ sn : Nat, min (S.length : Int) 40 = sn := ⟨(min (S.length : Int) 40).toNat, by omega⟩
  have hs1 : sn ≤ S.length := by omega
  have hs2 : sn ≤ 40 := by omega
  have hs3 : (sn : Int) ≤ sc := by omega
  have Hsn := Lib.hid hsn
  clear hS hsn hT hlow
  go_enter Tryd.func5, Tryd.ntmps5
  go_wp2_with fail
  refine (mex_any w HT.out).mono ?_
  rintro e w1 ⟨rfl, hc1⟩
  have Hc1 := Lib.hid hc1
  clear hc1
  go_wp2_with fail
  refine (new_any w1).mono ?_
  rintro e w2 ⟨rfl, rfl⟩
  obtain ⟨sb, hsb⟩ : ∃ y, y = w1.heap.size := ⟨_, rfl⟩
  obtain ⟨w3, hw3⟩ : ∃ y, y = (w1.alloc (.cells #[.slice none 0 0, .slice none 0 0] 73)).alloc (.cells #[.pointer (some ⟨sb, 0, none⟩)] 41) := ⟨_, rfl⟩
  have hc3 : Chg [] w1 w3 := by rw [hw3]; exact ((Chg.refl _ _).alloc _).alloc _
  have hb3 : w3.heap[sb]? = some (.cells #[.slice none 0 0, .slice none 0 0] 73 (0, 0)) := by
    rw [hw3, hsb, heap_past _ _ _ (by simp)]; exact heap_at _ _ _ rfl
  have hbs3 : w3.heap[sb + 1]? = some (.cells #[.pointer (some ⟨sb, 0, none⟩)] 41 (0, 0)) := by
    rw [hw3, hsb]; exact heap_at _ _ _ (by simp)
  have hz3 : w3.heap.size = sb + 2 := by rw [hw3, hsb]; simp
  have Hc3 := Lib.hid (Hc1.out.trans hc3)
  have Hb3 := Lib.hid (And.intro hb3 (And.intro hbs3 (And.intro hz3 (show w.heap.size ≤ sb by rw [hsb]; exact Hc1.out.size))))
  have b0 : w3.cell? ⟨sb + 1, 0, none⟩ = some (.pointer (some ⟨sb, 0, none⟩)) := cell_of_heap hbs3 rfl
  have lb := lt_of_cell b0
  clear hb3 hbs3 hz3 hc3
  go_upto_region 4 with fail
  rw [← hsb, ← hw3]
  clear hw3 hsb
  go_upto_region 6 with fail
  go_cut [4, 5] (fun x4 x5 wx => ∃ gk ga ba, x4 = .slice (some ⟨gk, 0, none⟩) 6 6 ∧ x5 = .pointer (some ⟨ba, 0, none⟩) ∧ Hid ((sb + 2 ≤ gk ∧ sb + 2 ≤ ga ∧ sb + 2 ≤ ba ∧ gk ≠ ga ∧ ba ≠ gk ∧ ba ≠ ga) ∧ Six wx gk [0, 0, 0, 0, 0, 0] ∧ Six wx ga [0, 0, 0, 0, 0, 0] ∧ wx.heap[ba]? = some (.cells #[.slice (some ⟨ga, 0, none⟩) 6 6] 43 (0, 0)) ∧ Chg [] w3 wx))
  case first =>
    have hmk : ∀ W : World, (Instr.makeSlice 43 (.int .i64 6) (.int .i64 6)).run Tryd.prog W = .ok (.slice (some ⟨W.heap.size, 0, none⟩) 6 6) (W.alloc (.cells #[.int .i64 0, .int .i64 0, .int .i64 0, .int .i64 0, .int .i64 0, .int .i64 0] 3)) := fun W => by
      have h := run_make_row' 43 3 (.int .i64 0) 8 Tryd.underlying43 infoIn rfl .i64 .i64 6 (by decide) (by decide) W
      rw [show madeCells #[Value.int .i64 0] 6 = #[.int .i64 0, .int .i64 0, .int .i64 0, .int .i64 0, .int .i64 0, .int .i64 0] from made6] at h
      exact h
    go_region
    all_goals
      go_wp2_with fail
      go_meet
      have hz := Hb3.out.2.2.1
      first
        | (refine ⟨_, w3.heap.size, _, rfl, rfl, Lib.hid ⟨⟨?_, ?_, ?_, ?_, ?_, ?_⟩, ⟨?_, rfl⟩, ⟨?_, rfl⟩, ?_, ?_⟩⟩; all_goals (first | omega | (simp only [hpush, heap_drew, Array.getElem?_push, Array.size_push]; (repeat (first | rw [if_pos (by omega)] | rw [if_neg (by omega)])); (try rfl); done) | ((repeat (first | exact Chg.refl _ _ | apply Chg.alloc | apply Chg.drew)); done)); done)
        | (refine ⟨_, (w3.heap.size + 1), _, rfl, rfl, Lib.hid ⟨⟨?_, ?_, ?_, ?_, ?_, ?_⟩, ⟨?_, rfl⟩, ⟨?_, rfl⟩, ?_, ?_⟩⟩; all_goals (first | omega | (simp only [hpush, heap_drew, Array.getElem?_push, Array.size_push]; (repeat (first | rw [if_pos (by omega)] | rw [if_neg (by omega)])); (try rfl); done) | ((repeat (first | exact Chg.refl _ _ | apply Chg.alloc | apply Chg.drew)); done)); done)
        | (refine ⟨_, (w3.heap.size + 1 + 1), _, rfl, rfl, Lib.hid ⟨⟨?_, ?_, ?_, ?_, ?_, ?_⟩, ⟨?_, rfl⟩, ⟨?_, rfl⟩, ?_, ?_⟩⟩; all_goals (first | omega | (simp only [hpush, heap_drew, Array.getElem?_push, Array.size_push]; (repeat (first | rw [if_pos (by omega)] | rw [if_neg (by omega)])); (try rfl); done) | ((repeat (first | exact Chg.refl _ _ | apply Chg.alloc | apply Chg.drew)); done)); done)
  case rest =>
    obtain ⟨gk, ga, ba, rfl, rfl, Hx⟩ := hcut
    obtain ⟨bs, hbs⟩ : ∃ y, y = sb + 1 := ⟨_, rfl⟩
    rw [← hbs] at b0 lb Hb3 ⊢
    obtain ⟨base, hbase⟩ : ∃ y, y = sb + 1 := ⟨_, rfl⟩
    have HG : Hid (Geo w base sb bs ba ga gk) := Lib.hid (by
      obtain ⟨⟨h1, h2, h3, h4, h5, h6⟩, _⟩ := Hx.out
      obtain ⟨_, _, h7, h8⟩ := Hb3.out
      exact ⟨HT.out, Hlow.out, h8, by omega, by omega, by omega, ⟨h4, by omega, by omega, h5⟩, by omega⟩)
    have H0 : Hid (Stt w base sb bs ba ga gk [0, 0, 0, 0, 0, 0] [0, 0, 0, 0, 0, 0] [] [] wc) := Lib.hid (by
      obtain ⟨⟨h1, h2, h3, h4, h5, h6⟩, e1, e2, e3, e4⟩ := Hx.out
      obtain ⟨f1, f2, h7, h8⟩ := Hb3.out
      refine ⟨⟨none, 0, none, 0, (e4.block sb (lt_of_obj f1) (by simp)).trans f1, World.ownsRow_nil _ _ _ _, World.ownsRow_nil _ _ _ _, rfl, rfl, by omega, by have := e4.size; omega⟩, ⟨(e4.block bs (lt_of_obj f2) (by simp)).trans f2, e3, ⟨by omega, by omega, by omega⟩, by omega, h6⟩, e1, e2, Hc3.out.trans e4⟩)
    clear Hb3 b0 lb hbs hbase
    have hsn := Hsn.out
    go_wp2_with fail
    go_loopw [26] (fun i wr => ∃ n : Nat, n ≤ sn ∧ i = .int .i64 (n : Nat) ∧ ∃ A B js qs, Hid (Stt w base sb bs ba ga gk A B js qs wr ∧ LI n A B js qs)) (fun i _ => sn - (intOf i).toNat)
    case atStart => exact ⟨0, by omega, rfl, _, _, _, _, Lib.hid ⟨H0.out, li_zero⟩⟩
    case round =>
      clear H0
      obtain ⟨n, hn, rfl, A, B, js, qs, Hs⟩ := hrel
      by_cases hlt : n < sn
      · have hs41 : S.length ≤ S.length := Nat.le_refl _
        obtain ⟨g, off, hsa, hg, r0, r1, r2⟩ := HS.out.at n (by omega) (0, 0, 0)
        obtain ⟨z, hz⟩ : ∃ z, S.getD n (0, 0, 0) = z := ⟨_, rfl⟩
        obtain ⟨xd, xa, xb⟩ := z
        rw [hz] at r0 r1 r2
        simp only at hg r0 r1 r2
        subst hsa
        clear hz hs41
        have hfr := Hs.out.1.fr
        have y0 := (hfr.cell (p := ⟨g, off + n * 3, none⟩) hg (by simp)).trans r0
        have y1 := (hfr.cell (p := ⟨g, off + n * 3 + 1, none⟩) hg (by simp)).trans r1
        have y2 := (hfr.cell (p := ⟨g, off + n * 3 + 2, none⟩) hg (by simp)).trans r2
        have lg := lt_of_cell y0
        obtain ⟨w4, hw4⟩ : ∃ y, y = wr.alloc (.cells #[.int .i64 xd, .int .i64 xa, .int .i64 xb] 47) := ⟨_, rfl⟩
        obtain ⟨xk, hxk⟩ : ∃ y, y = wr.heap.size := ⟨_, rfl⟩
        have hc4 : Chg [] wr w4 := by rw [hw4]; exact (Chg.refl _ _).alloc _
        have hb4 : w4.heap[xk]? = some (.cells #[.int .i64 xd, .int .i64 xa, .int .i64 xb] 47 (0, 0)) := by rw [hw4, hxk]; exact heap_at _ _ _ rfl
        have H4 := Lib.hid (And.intro (Hs.out.1.new hc4) hb4)
        have Hxk : Hid (xk ≠ sb ∧ xk ≠ gk) := Lib.hid (by
          obtain ⟨ja, jn, qa, qn, hs⟩ := Hs.out.1.srv
          have e1 := lt_of_obj hs.box
          have e2 := lt_of_obj Hs.out.1.sa.1
          exact ⟨by omega, by omega⟩)
        have x0 : w4.cell? ⟨xk, 0, none⟩ = some (.int .i64 xd) := cell_of_heap hb4 rfl
        have x1 : w4.cell? ⟨xk, 1, none⟩ = some (.int .i64 xa) := cell_of_heap hb4 rfl
        have lx := lt_of_cell x0
        have hn1 : (n : Int) < sn := by omega
        have hn0 : (0 : Int) ≤ (n : Int) := by omega
        clear hfr r0 r1 r2 hc4 hb4
        go_upto_region 11 with fail
        rw [← hw4, ← hxk]
        clear hw4 hxk y0 y1 y2 lg
        obtain ⟨d, hd⟩ := Int.eq_ofNat_of_zero_le (modI_bd xa 6 (by omega)).1
        have hd6 := (modI_bd xa 6 (by omega)).2
        rw [hd] at hd6
        have hd' : d < 6 := by omega
        obtain ⟨m, hm⟩ := Int.eq_ofNat_of_zero_le (modI_bd xd 5 (by omega)).1
        have hm6 := (modI_bd xd 5 (by omega)).2
        rw [hm] at hm6
        have Hd := Lib.hid hd
        have Hm := Lib.hid hm
        have hm5 : m = 0 ∨ m = 1 ∨ m = 2 ∨ m = 3 ∨ m = 4 := by omega
        clear hd hm hm6 hd6
        go_wp2_with fail
        refine (mod_any xa 6 _ (by omega) (by omega)).mono ?_
        rintro e w5 ⟨rfl, hw5⟩
        rw [← hw5, Hd.out]
        clear hw5
        go_wp2_with fail
        refine (mod_any xd 5 _ (by omega) (by omega)).mono ?_
        rintro e w5 ⟨rfl, hw5⟩
        rw [← hw5, Hm.out]
        clear hw5 x0 x1 lx Hm
        have hd := hd'
        have q0 := H4.out.1.sa.cell hd
        have qf := H4.out.1.sa.fz d
        have lgk := lt_of_cell q0
        have hxb : 0 ≤ A.getD d 0 ∧ A.getD d 0 ≤ 40 := by
          have h1 := Hs.out.2.eq d hd
          have h2 := Hs.out.2.b0 d hd
          have h3 := Hs.out.2.an d hd
          omega
        obtain ⟨x, hx⟩ : ∃ x, x = A.getD d 0 := ⟨_, rfl⟩
        rw [← hx] at q0 hxb
        obtain ⟨hxb0, hxb1⟩ := hxb
        have Hx := Lib.hid hx
        have d3 : (0 : Int) ≤ (d : Int) := by omega
        have d4 : (d : Int) < 6 := by omega
        clear hx hd'
        rcases hm5 with rfl | rfl | rfl | rfl | rfl
        · skip
          obtain ⟨w5, hw5⟩ : ∃ y, y = w4.setCell ⟨gk, d, none⟩ (.int .i64 (x + 1)) := ⟨_, rfl⟩
          have hS5 := H4.out.1.ask HG.out d (x + 1)
          rw [← hw5] at hS5
          have hx5 : w5.heap[xk]? = some (.cells #[.int .i64 xd, .int .i64 xa, .int .i64 xb] 47 (0, 0)) := by
            rw [hw5, heap_setCell_ne _ _ _ _ (by simp only; exact Hxk.out.2)]
            exact H4.out.2
          go_upto_region 17 with fail
          rw [← hw5]
          clear hw5 q0 qf lgk
          obtain ⟨ja, jn, qa, qn, hs⟩ := hS5.srv
          have s0 : w5.cell? ⟨bs, 0, none⟩ = some (.pointer (some ⟨sb, 0, none⟩)) := cell_of_heap hS5.bx.s rfl
          have ls := lt_of_cell s0
          have Hcall := Lib.hid (receive_any w5 base sb _ jn _ qn ja qa js qs 1 (d : Nat) ⟨#[109]⟩ hs (by have := Hs.out.2.lj; omega) (by have := Hs.out.2.lq; omega) (hS5.tp HG.out).1 ⟨by omega, Or.inl ⟨rfl, rfl, by decide, by decide, by decide⟩⟩ (Or.inl rfl))
          have HS5 := Lib.hid (And.intro hS5 hx5)
          unfold mV at Hcall
          clear hs hS5 hx5
          go_wp2_with fail
          refine Hcall.out.mono ?_
          rintro e w6 ⟨⟨x9, y9, rfl⟩, js', qs', hN, hS⟩
          have hx6 := sf_box hS.2 HS5.out.2 (by decide) Hxk.out.1
          have Hst : Hid (Stt w base sb bs ba ga gk (inc1 A d) B js' qs' w6 ∧ LI (n + 1) (inc1 A d) B js' qs') := Lib.hid ⟨by
            unfold inc1
            rw [← Hx.out]
            exact HS5.out.1.post HG.out hS, Hs.out.2.ask hd (hN.elim (fun h => h.2) (fun h => absurd h.1 (by decide)))⟩
          clear hN hS s0 ls
          have x2 : w6.cell? ⟨xk, 2, none⟩ = some (.int .i64 xb) := cell_of_heap hx6 rfl
          have lx := lt_of_cell x2
          clear hx6
          go_upto_region 22 with fail
          obtain ⟨ja6, jn6, qa6, qn6, hs6⟩ := Hst.out.1.srv
          have Hclo := Lib.hid (fun hb => flushClo_any w6 base sb _ jn6 _ qn6 bs ba ga ja6 qa6 _ _ _ hs6 (by have := Hst.out.2.lq; omega) Hst.out.1.bx Hst.out.1.s6 Hst.out.2.ok hb)
          have Hbnd := Lib.hid (fun i (hi : i < 6) => Hst.out.2.bnd i hi)
          clear hs6
          go_wp2_with fail
          refine (mod_any xb 3 _ (by omega) (by omega)).mono ?_
          rintro e w7 ⟨rfl, hw7⟩
          rw [← hw7]
          clear hw7
          by_cases hm3 : modI xb 3 = 0
          · rw [hm3]
            clear hm3
            go_wp2_with fail
            refine (Hclo.out fun i hi => by have := Hbnd.out i hi; omega).mono ?_
            rintro e w8 hP
            have HP := Lib.hid (Hst.out.1.clo HG.out hP)
            obtain ⟨rfl, _⟩ := hP
            clear x2 lx
            go_wp2_with fail
            exact ⟨⟨n + 1, by omega, by go_num, _, _, _, _, Lib.hid ⟨HP.out, Hst.out.2.flush⟩⟩, by simp [intOf]; omega⟩
          · generalize modI xb 3 = y at hm3
            have hm3' : (y == 0) = false := by simpa using hm3
            clear x2 lx
            go_wp2_with fail
            exact ⟨⟨n + 1, by omega, by go_num, _, _, _, _, Hst⟩, by simp [intOf]; omega⟩
        · skip
          obtain ⟨w5, hw5⟩ : ∃ y, y = w4.setCell ⟨gk, d, none⟩ (.int .i64 (x + 1)) := ⟨_, rfl⟩
          have hS5 := H4.out.1.ask HG.out d (x + 1)
          rw [← hw5] at hS5
          have hx5 : w5.heap[xk]? = some (.cells #[.int .i64 xd, .int .i64 xa, .int .i64 xb] 47 (0, 0)) := by
            rw [hw5, heap_setCell_ne _ _ _ _ (by simp only; exact Hxk.out.2)]
            exact H4.out.2
          go_upto_region 17 with fail
          rw [← hw5]
          clear hw5 q0 qf lgk
          obtain ⟨ja, jn, qa, qn, hs⟩ := hS5.srv
          have s0 : w5.cell? ⟨bs, 0, none⟩ = some (.pointer (some ⟨sb, 0, none⟩)) := cell_of_heap hS5.bx.s rfl
          have ls := lt_of_cell s0
          have Hcall := Lib.hid (receive_any w5 base sb _ jn _ qn ja qa js qs 1 (d : Nat) ⟨#[109]⟩ hs (by have := Hs.out.2.lj; omega) (by have := Hs.out.2.lq; omega) (hS5.tp HG.out).1 ⟨by omega, Or.inl ⟨rfl, rfl, by decide, by decide, by decide⟩⟩ (Or.inl rfl))
          have HS5 := Lib.hid (And.intro hS5 hx5)
          unfold mV at Hcall
          clear hs hS5 hx5
          go_wp2_with fail
          refine Hcall.out.mono ?_
          rintro e w6 ⟨⟨x9, y9, rfl⟩, js', qs', hN, hS⟩
          have hx6 := sf_box hS.2 HS5.out.2 (by decide) Hxk.out.1
          have Hst : Hid (Stt w base sb bs ba ga gk (inc1 A d) B js' qs' w6 ∧ LI (n + 1) (inc1 A d) B js' qs') := Lib.hid ⟨by
            unfold inc1
            rw [← Hx.out]
            exact HS5.out.1.post HG.out hS, Hs.out.2.ask hd (hN.elim (fun h => h.2) (fun h => absurd h.1 (by decide)))⟩
          clear hN hS s0 ls
          have x2 : w6.cell? ⟨xk, 2, none⟩ = some (.int .i64 xb) := cell_of_heap hx6 rfl
          have lx := lt_of_cell x2
          clear hx6
          go_upto_region 22 with fail
          obtain ⟨ja6, jn6, qa6, qn6, hs6⟩ := Hst.out.1.srv
          have Hclo := Lib.hid (fun hb => flushClo_any w6 base sb _ jn6 _ qn6 bs ba ga ja6 qa6 _ _ _ hs6 (by have := Hst.out.2.lq; omega) Hst.out.1.bx Hst.out.1.s6 Hst.out.2.ok hb)
          have Hbnd := Lib.hid (fun i (hi : i < 6) => Hst.out.2.bnd i hi)
          clear hs6
          go_wp2_with fail
          refine (mod_any xb 3 _ (by omega) (by omega)).mono ?_
          rintro e w7 ⟨rfl, hw7⟩
          rw [← hw7]
          clear hw7
          by_cases hm3 : modI xb 3 = 0
          · rw [hm3]
            clear hm3
            go_wp2_with fail
            refine (Hclo.out fun i hi => by have := Hbnd.out i hi; omega).mono ?_
            rintro e w8 hP
            have HP := Lib.hid (Hst.out.1.clo HG.out hP)
            obtain ⟨rfl, _⟩ := hP
            clear x2 lx
            go_wp2_with fail
            exact ⟨⟨n + 1, by omega, by go_num, _, _, _, _, Lib.hid ⟨HP.out, Hst.out.2.flush⟩⟩, by simp [intOf]; omega⟩
          · generalize modI xb 3 = y at hm3
            have hm3' : (y == 0) = false := by simpa using hm3
            clear x2 lx
            go_wp2_with fail
            exact ⟨⟨n + 1, by omega, by go_num, _, _, _, _, Hst⟩, by simp [intOf]; omega⟩
        · skip
          have s0 : w4.cell? ⟨bs, 0, none⟩ = some (.pointer (some ⟨sb, 0, none⟩)) := cell_of_heap H4.out.1.bx.s rfl
          have ls := lt_of_cell s0
          obtain ⟨ja, jn, qa, qn, hs⟩ := H4.out.1.srv
          have Hcall := Lib.hid (receive_any w4 base sb _ jn _ qn ja qa js qs 5 (d : Nat) ⟨#[]⟩ hs (by have := Hs.out.2.lj; omega) (by have := Hs.out.2.lq; omega) (H4.out.1.tp HG.out).1 ⟨by omega, Or.inr (Or.inr ⟨Or.inr rfl, rfl, rfl⟩)⟩ (Or.inr rfl))
          unfold mV at Hcall
          clear hs q0 qf lgk
          go_wp2_with fail
          refine Hcall.out.mono ?_
          rintro e w6 ⟨⟨x9, y9, rfl⟩, js', qs', hN, hS⟩
          have hx6 := sf_box hS.2 H4.out.2 (by decide) Hxk.out.1
          have Hst : Hid (Stt w base sb bs ba ga gk A B js' qs' w6 ∧ LI (n + 1) A B js' qs') := Lib.hid ⟨H4.out.1.post HG.out hS, by
            obtain ⟨_, hp, rfl⟩ := hN.elim (fun h => absurd h.1 (by decide)) id
            exact (Hs.out.2.pr hp).mono (by omega)⟩
          clear hN hS s0 ls
          have x2 : w6.cell? ⟨xk, 2, none⟩ = some (.int .i64 xb) := cell_of_heap hx6 rfl
          have lx := lt_of_cell x2
          clear hx6
          go_upto_region 22 with fail
          obtain ⟨ja6, jn6, qa6, qn6, hs6⟩ := Hst.out.1.srv
          have Hclo := Lib.hid (fun hb => flushClo_any w6 base sb _ jn6 _ qn6 bs ba ga ja6 qa6 _ _ _ hs6 (by have := Hst.out.2.lq; omega) Hst.out.1.bx Hst.out.1.s6 Hst.out.2.ok hb)
          have Hbnd := Lib.hid (fun i (hi : i < 6) => Hst.out.2.bnd i hi)
          clear hs6
          go_wp2_with fail
          refine (mod_any xb 3 _ (by omega) (by omega)).mono ?_
          rintro e w7 ⟨rfl, hw7⟩
          rw [← hw7]
          clear hw7
          by_cases hm3 : modI xb 3 = 0
          · rw [hm3]
            clear hm3
            go_wp2_with fail
            refine (Hclo.out fun i hi => by have := Hbnd.out i hi; omega).mono ?_
            rintro e w8 hP
            have HP := Lib.hid (Hst.out.1.clo HG.out hP)
            obtain ⟨rfl, _⟩ := hP
            clear x2 lx
            go_wp2_with fail
            exact ⟨⟨n + 1, by omega, by go_num, _, _, _, _, Lib.hid ⟨HP.out, Hst.out.2.flush⟩⟩, by simp [intOf]; omega⟩
          · generalize modI xb 3 = y at hm3
            have hm3' : (y == 0) = false := by simpa using hm3
            clear x2 lx
            go_wp2_with fail
            exact ⟨⟨n + 1, by omega, by go_num, _, _, _, _, Hst⟩, by simp [intOf]; omega⟩
        · skip
          have s0 : w4.cell? ⟨bs, 0, none⟩ = some (.pointer (some ⟨sb, 0, none⟩)) := cell_of_heap H4.out.1.bx.s rfl
          have ls := lt_of_cell s0
          have x2 : w4.cell? ⟨xk, 2, none⟩ = some (.int .i64 xb) := cell_of_heap H4.out.2 rfl
          have lx := lt_of_cell x2
          obtain ⟨ja, jn, qa, qn, hs⟩ := H4.out.1.srv
          have Hcall := Lib.hid (respond_any w4 base sb _ jn _ qn ja qa js qs xb hs (by have := Hs.out.2.lj; omega) (by have := Hs.out.2.lq; omega) Hs.out.2.ids.ok (H4.out.1.tp HG.out).1)
          clear hs q0 qf lgk
          go_wp2_with fail
          refine Hcall.out.mono ?_
          rintro e w6 ⟨rfl, js', qs', hN, hS⟩
          have hx6 := sf_box hS.2 H4.out.2 (by decide) Hxk.out.1
          have Hst : Hid (Stt w base sb bs ba ga gk A B js' qs' w6 ∧ LI (n + 1) A B js' qs') := Lib.hid ⟨H4.out.1.post HG.out hS, Hs.out.2.ans hN⟩
          generalize ckE js xb = ck
          clear hN hS s0 ls x2 lx
          have x2 : w6.cell? ⟨xk, 2, none⟩ = some (.int .i64 xb) := cell_of_heap hx6 rfl
          have lx := lt_of_cell x2
          clear hx6
          go_upto_region 22 with fail
          obtain ⟨ja6, jn6, qa6, qn6, hs6⟩ := Hst.out.1.srv
          have Hclo := Lib.hid (fun hb => flushClo_any w6 base sb _ jn6 _ qn6 bs ba ga ja6 qa6 _ _ _ hs6 (by have := Hst.out.2.lq; omega) Hst.out.1.bx Hst.out.1.s6 Hst.out.2.ok hb)
          have Hbnd := Lib.hid (fun i (hi : i < 6) => Hst.out.2.bnd i hi)
          clear hs6
          go_wp2_with fail
          refine (mod_any xb 3 _ (by omega) (by omega)).mono ?_
          rintro e w7 ⟨rfl, hw7⟩
          rw [← hw7]
          clear hw7
          by_cases hm3 : modI xb 3 = 0
          · rw [hm3]
            clear hm3
            go_wp2_with fail
            refine (Hclo.out fun i hi => by have := Hbnd.out i hi; omega).mono ?_
            rintro e w8 hP
            have HP := Lib.hid (Hst.out.1.clo HG.out hP)
            obtain ⟨rfl, _⟩ := hP
            clear x2 lx
            go_wp2_with fail
            exact ⟨⟨n + 1, by omega, by go_num, _, _, _, _, Lib.hid ⟨HP.out, Hst.out.2.flush⟩⟩, by simp [intOf]; omega⟩
          · generalize modI xb 3 = y at hm3
            have hm3' : (y == 0) = false := by simpa using hm3
            clear x2 lx
            go_wp2_with fail
            exact ⟨⟨n + 1, by omega, by go_num, _, _, _, _, Hst⟩, by simp [intOf]; omega⟩
        · skip
          have s0 : w4.cell? ⟨bs, 0, none⟩ = some (.pointer (some ⟨sb, 0, none⟩)) := cell_of_heap H4.out.1.bx.s rfl
          have ls := lt_of_cell s0
          have x2 : w4.cell? ⟨xk, 2, none⟩ = some (.int .i64 xb) := cell_of_heap H4.out.2 rfl
          have lx := lt_of_cell x2
          obtain ⟨ja, jn, qa, qn, hs⟩ := H4.out.1.srv
          have Hcall := Lib.hid (fail_any w4 base sb _ jn _ qn ja qa js qs xb 1 ⟨#[102, 97, 105, 108, 101, 100]⟩ hs (by have := Hs.out.2.lj; omega) (by have := Hs.out.2.lq; omega) Hs.out.2.ids.ok (H4.out.1.tp HG.out).1 (by decide) (by decide) (by decide))
          clear hs q0 qf lgk
          go_wp2_with fail
          refine Hcall.out.mono ?_
          rintro e w6 ⟨rfl, js', qs', hN, hS⟩
          have hx6 := sf_box hS.2 H4.out.2 (by decide) Hxk.out.1
          have Hst : Hid (Stt w base sb bs ba ga gk A B js' qs' w6 ∧ LI (n + 1) A B js' qs') := Lib.hid ⟨H4.out.1.post HG.out hS, Hs.out.2.ans hN⟩
          generalize ckE js xb = ck
          clear hN hS s0 ls x2 lx
          have x2 : w6.cell? ⟨xk, 2, none⟩ = some (.int .i64 xb) := cell_of_heap hx6 rfl
          have lx := lt_of_cell x2
          clear hx6
          go_upto_region 22 with fail
          obtain ⟨ja6, jn6, qa6, qn6, hs6⟩ := Hst.out.1.srv
          have Hclo := Lib.hid (fun hb => flushClo_any w6 base sb _ jn6 _ qn6 bs ba ga ja6 qa6 _ _ _ hs6 (by have := Hst.out.2.lq; omega) Hst.out.1.bx Hst.out.1.s6 Hst.out.2.ok hb)
          have Hbnd := Lib.hid (fun i (hi : i < 6) => Hst.out.2.bnd i hi)
          clear hs6
          go_wp2_with fail
          refine (mod_any xb 3 _ (by omega) (by omega)).mono ?_
          rintro e w7 ⟨rfl, hw7⟩
          rw [← hw7]
          clear hw7
          by_cases hm3 : modI xb 3 = 0
          · rw [hm3]
            clear hm3
            go_wp2_with fail
            refine (Hclo.out fun i hi => by have := Hbnd.out i hi; omega).mono ?_
            rintro e w8 hP
            have HP := Lib.hid (Hst.out.1.clo HG.out hP)
            obtain ⟨rfl, _⟩ := hP
            clear x2 lx
            go_wp2_with fail
            exact ⟨⟨n + 1, by omega, by go_num, _, _, _, _, Lib.hid ⟨HP.out, Hst.out.2.flush⟩⟩, by simp [intOf]; omega⟩
          · generalize modI xb 3 = y at hm3
            have hm3' : (y == 0) = false := by simpa using hm3
            clear x2 lx
            go_wp2_with fail
            exact ⟨⟨n + 1, by omega, by go_num, _, _, _, _, Hst⟩, by simp [intOf]; omega⟩
      · obtain rfl : n = sn := by omega
        have hn1 : ¬ ((n : Int) < n) := by omega
        have s0 : wr.cell? ⟨bs, 0, none⟩ = some (.pointer (some ⟨sb, 0, none⟩)) := cell_of_heap Hs.out.1.bx.s rfl
        have ls := lt_of_cell s0
        obtain ⟨ja, jn, qa, qn, hs⟩ := Hs.out.1.srv
        have Hp := Lib.hid (pending_any wr base sb _ jn _ qn ja qa js qs hs (by have := Hs.out.2.lj; omega))
        clear hs
        go_wp2_with fail
        refine Hp.out.mono ?_
        rintro e w2 ⟨⟨a, c, rfl, ho⟩, hc2⟩
        have H2 := Lib.hid (Hs.out.1.new hc2)
        obtain ⟨pn, hpn⟩ : ∃ y, y = (pendF 0 js).length := ⟨_, rfl⟩
        rw [← hpn] at ho ⊢
        have hpl : pn ≤ 40 := by
          have h1 := pendF_len js 0
          have h2 := Hs.out.2.lj
          omega
        have Hpn := Lib.hid hpn
        obtain ⟨sz, hsz⟩ : ∃ y, y = wr.heap.size := ⟨_, rfl⟩
        have HB : Hid (base ≤ sz) := Lib.hid (by
          rw [hsz]
          obtain ⟨ja, jn, qa, qn, hs⟩ := Hs.out.1.srv
          exact hs.base)
        rw [← hsz] at ho
        have Ho := Lib.hid ho
        clear ho hpn hc2 s0 ls Hp hsz
        go_wp2_with fail
        go_loopw [80] (fun i wr => ∃ q : Nat, q ≤ pn ∧ i = .int .i64 (q : Nat) ∧ ∃ js' qs', Hid (Stt w base sb bs ba ga gk A B js' qs' wr ∧ LI (n + q) A B js' qs' ∧ Opn js js' q ∧ wr.ownsRow sz 3 1 (.slice a pn c) pn ((pendF 0 js).map (Value.int .i64)))) (fun i _ => pn - (intOf i).toNat)
        case atStart => exact ⟨0, by omega, rfl, js, qs, Lib.hid ⟨H2.out, Hs.out.2, Opn.first js, Ho.out⟩⟩
        case round =>
          clear H2 Ho
          obtain ⟨q, hq, rfl, js', qs', Hq⟩ := hrel
          by_cases hlq : q < pn
          · obtain ⟨k, hkx, hk, hck, hop⟩ := Hq.out.2.2.1.step (by have := Hpn.out; omega)
            obtain ⟨ja, jn, qa, qn, hs⟩ := Hq.out.1.srv
            have hown := Hq.out.2.2.2
            rcases hown.2 with ⟨hv, hx⟩ | ⟨gv, cap', cur, hv, hge, hh, hnc, hcm, hsz, ht⟩
            · omega
            cases hv
            have v0 : wr.cell? ⟨gv, q, none⟩ = some (.int .i64 (k : Nat)) := by
              have := World.ownsRow.cells hown (g := gv) rfl q (.int .i64 (k : Nat)) (by
                rw [List.getElem?_map, List.getElem?_eq_getElem (by have := Hpn.out; omega), hkx]; rfl)
              rwa [Addr.add_lit, Nat.zero_add] at this
            have s0 : wr.cell? ⟨bs, 0, none⟩ = some (.pointer (some ⟨sb, 0, none⟩)) := cell_of_heap Hq.out.1.bx.s rfl
            have ls := lt_of_cell s0
            have lv := lt_of_cell v0
            have hgv : gv ≠ sb := by have := HG.out.hbb; have := HB.out; omega
            have Hcall := Lib.hid (respond_any wr.drew base sb _ jn _ qn ja qa js' qs' (k : Nat) (hs.new ((Chg.refl [] wr).drew)) (by have := Hq.out.2.1.lj; omega) (by have := Hq.out.2.1.lq; omega) Hq.out.2.1.ids.ok (Hq.out.1.tp HG.out).1)
            have Hf : Hid (wr.heap[gv]? = some (.cells cur 3 (0, 0)) ∧ gv ≠ sb ∧ ckE js' (k : Nat) = 0 ∧ Opn js (ansJ js' k) (q + 1)) := Lib.hid ⟨hh, hgv, hck, hop⟩
            have hq1 : (q : Int) < pn := by omega
            have hq0 : (0 : Int) ≤ (q : Int) := by omega
            clear hs hown hge hh hcm hsz ht hkx hk hck hop hgv
            go_upto_region 29 with fail
            go_region_law ((rw [if_pos (by simp [Region.wanted])]; go_simp; go_at_call 20; refine Hcall.out.mono ?_; rintro e w6 ⟨rfl, js2, qs2, hN, hS⟩; have HN := Lib.hid (And.intro hN hS); clear hN hS; rw [Hf.out.2.2.1]))
            all_goals
              go_wp2_with fail
              have Hnx : Hid (Stt w base sb bs ba ga gk A B js2 qs2 w6 ∧ LI (n + (q + 1)) A B js2 qs2 ∧ Opn js js2 (q + 1) ∧ w6.ownsRow sz 3 1 (.slice (some ⟨gv, 0, none⟩) pn c) pn ((pendF 0 js).map (Value.int .i64))) := Lib.hid (by
                obtain ⟨hN, hS⟩ := HN.out
                obtain ⟨f1, f2, f3, f4⟩ := Hf.out
                refine ⟨(Hq.out.1.new ((Chg.refl [] wr).drew)).post HG.out hS, Hq.out.2.1.ans hN, ?_, ownsRow_kept (ownsRow_kept Hq.out.2.2.2 fun g hg hl => ((Chg.refl [] wr).drew).block g hl (by simp)) fun g hg hl => ?_⟩
                · rcases hN with ⟨h0, _⟩ | ⟨k', m, hk', _, _, rfl, _⟩
                  · exact absurd f3 h0
                  · obtain rfl : k = k' := by omega
                    exact f4
                · simp only [Value.ownBlock, Option.some.injEq] at hg
                  subst hg
                  exact (sf_box hS.2 (show wr.drew.heap[gv]? = _ from f1) (by decide) f2).trans f1.symm)
              exact ⟨⟨q + 1, by omega, by go_num, js2, qs2, Hnx⟩, by simp [intOf]; omega⟩
          · obtain rfl : q = pn := by omega
            have hq1 : ¬ ((q : Int) < q) := by omega
            have hpend : pendF 0 js' = [] := (show Opn js js' (pendF 0 js).length by rw [← Hpn.out]; exact Hq.out.2.2.1).last
            have Hpend := Lib.hid hpend
            clear hpend
            go_wp2_with fail
            refine (mex_any wr (Hq.out.1.tp HG.out)).mono ?_
            rintro e w3 ⟨rfl, hc3⟩
            have h3 := Hq.out.1.new hc3
            obtain ⟨ja, jn, qa, qn, hs⟩ := h3.srv
            have Hclo := Lib.hid (flushClo_any w3 base sb _ jn _ qn bs ba ga ja qa js' qs' B hs (by have := Hq.out.2.1.lq; omega) h3.bx h3.s6 Hq.out.2.1.ok (fun i hi => by have := Hq.out.2.1.bnd i hi; omega))
            have H3 := Lib.hid h3
            clear hc3 h3 hs
            go_wp2_with fail
            refine Hclo.out.mono ?_
            rintro e w4 hP
            have h4 := H3.out.clo HG.out hP
            obtain ⟨rfl, _⟩ := hP
            have a0 : w4.cell? ⟨ba, 0, none⟩ = some (.slice (some ⟨ga, 0, none⟩) 6 6) := cell_of_heap h4.bx.a rfl
            have la := lt_of_cell a0
            have H4 := Lib.hid h4
            have HAB := Lib.hid (Hq.out.2.1.flush.done Hpend.out)
            clear h4
            go_wp2_with fail
            refine (equal6 w4 gk ga A H4.out.sa (by have := H4.out.s6; rw [← HAB.out] at this; exact this)).mono ?_
            rintro e w5 ⟨rfl, hc5⟩
            have h5 := H4.out.new hc5
            obtain ⟨ja, jn, qa, qn, hs⟩ := h5.srv
            have s0 : w5.cell? ⟨bs, 0, none⟩ = some (.pointer (some ⟨sb, 0, none⟩)) := cell_of_heap h5.bx.s rfl
            have ls := lt_of_cell s0
            have Hp := Lib.hid (pending_any w5 base sb _ jn _ qn ja qa js' _ hs (by have := Hq.out.2.1.lj; omega))
            have H5 := Lib.hid h5
            clear hc5 h5 hs a0 la
            go_wp2_with fail
            refine Hp.out.mono ?_
            rintro e w6 ⟨⟨a6, c6, rfl, ho⟩, hc6⟩
            rw [Hpend.out]
            have H6 := Lib.hid (H5.out.new hc6).fr
            clear ho hc6 s0 ls
            go_wp2_with fail
            go_ret
            exact ⟨rfl, H6.out⟩
end Go.Proofs.YtiklgipcgdgkoaaDoor.Jv
