/- clone; the value of an input at a revision. -/
import Derived.Test.YtggiddhhbilcjaaSnM
import Derived.StillTailTactics
namespace Go.Proofs.Ytggiddhhbilcjaa.Sn
open Go.RowKit Go.ChangeMaps Go.MapKept
set_option linter.unusedVariables false
set_option linter.unusedSimpArgs false
set_option maxHeartbeats 1000000 in
/-- snapshot.clone -/
theorem clone_any (w : World) (v : Value) (s : ByteArray) (xs : List Int) (h : Inp.Ints w v xs) (hl : xs.length * 8 ≤ 140737488355328) :
    Calls Try.prog 34 #[.agg #[v, .string s]] w fun e w' => ∃ a c, e = .returned (.agg #[.slice a xs.length c, .string s]) ∧ Inp.Ints w' (.slice a xs.length c) xs ∧ (∀ ad, a = some ad → w.heap.size ≤ ad.block) ∧ Chg [] w w' := by
  obtain ⟨a0, c0, rfl⟩ := h.shape
  have Hh := Lib.hid h
  clear h
  go_enter Try.func34, Try.ntmps34
  go_wp2_with fail
  go_region_held3 (fun w' => w'.cell? ⟨w.heap.size, 0, none⟩ = some (.slice a0 xs.length c0) ∧ w'.cell? ⟨w.heap.size, 1, none⟩ = some (.string s))
    (first | go_keep | (go_split_ands; refine ⟨?_, ?_⟩ <;> (rw [hc1.cell (by simp; try omega) (by simp)]; simp [go_sem, World.cell?_alloc_past])))
    ((go_at_call 62; refine (Inp.slicesClone _ _ xs (Hh.out.same (by exact (((Chg.refl [] w).alloc _).alloc _).drew)) hl).mono ?_; rintro e w1 ⟨a1, c1, rfl, hi1, hn1, hc1⟩; have q1 := hc1.block (w.heap.size + 1) (by simp) (by simp); have r0 : w1.cell? ⟨w.heap.size + 1, 0, none⟩ = some (.slice none 0 0) := (World.cell?_of_block q1).trans (by simp [go_sem]); have r1 : w1.cell? ⟨w.heap.size + 1, 1, none⟩ = some (.string ⟨#[]⟩) := (World.cell?_of_block q1).trans (by simp [go_sem]); have f0 : w1.frozen? ⟨w.heap.size + 1, 0, none⟩ = false := (World.frozen?_of_block q1).trans (by simp [go_sem]); have f1 : w1.frozen? ⟨w.heap.size + 1, 1, none⟩ = false := (World.frozen?_of_block q1).trans (by simp [go_sem])))
  go_wp2
  refine bodyPost_ret (v := .agg #[.slice a1 xs.length c1, .string s]) (by simp [results, Try.results34, go_sem, r0, r1]) rfl ⟨a1, c1, rfl, ?_, fun ad ha => by have := hn1 ad ha; simp at this; omega, ?_⟩
  · exact hi1.kept (((Chg.refl [w.heap.size + 1] _).setCell (Or.inl (by simp)) _).setCell (Or.inl (by simp)) _) (fun k hk => by
      obtain rfl : k = w.heap.size + 1 := by simpa using hk
      intro c fr
      rw [q1, show ∀ w0 : World, w0.drew.heap = w0.heap from fun _ => rfl, show w.heap.size + 1 = (w.alloc (.cells #[.slice a0 xs.length c0, .string s] 39)).heap.size from by simp, heap_alloc_new]
      simp)
  · exact (((((Chg.refl [] w).alloc _).alloc _).drew.new hc1).setCell (Or.inr (by simp)) _).setCell (Or.inr (by simp)) _
theorem encV_get (l : List Ve) : ∀ j (h : j < l.length), (encV l)[j * 3]? = some (.int .i64 l[j].rev) ∧ (encV l)[j * 3 + 1]? = some (.slice l[j].a l[j].xs.length l[j].cap) ∧ (encV l)[j * 3 + 2]? = some (.string ⟨#[]⟩) := by
  induction l with
  | nil => intro j h; simp at h
  | cons k r ih =>
    intro j h
    have e : encV (k :: r) = .int .i64 k.rev :: .slice k.a k.xs.length k.cap :: .string ⟨#[]⟩ :: encV r := rfl
    rw [e]
    cases j with
    | zero => exact ⟨rfl, rfl, rfl⟩
    | succ j =>
      have h' := ih j (by simpa using h)
      have e1 : (j + 1) * 3 = j * 3 + 1 + 1 + 1 := by omega
      rw [e1]
      simp only [List.getElem?_cons_succ, List.getElem_cons_succ]
      exact h'
theorem encV_len (l : List Ve) : (encV l).length = l.length * 3 := by
  induction l with
  | nil => rfl
  | cons k r ih =>
    show ([_, _, _] ++ encV r).length = _
    rw [List.length_append, ih]
    simp only [List.length_cons, List.length_nil]
    omega
theorem encV_snoc (l : List Ve) (e : Ve) : encV (l ++ [e]) = encV l ++ [.int .i64 e.rev, .slice e.a e.xs.length e.cap, .string ⟨#[]⟩] := by simp [encV]
/-- a version, read -/
def rdV (w : World) (ad : Addr) (e : Ve) : Prop := w.cell? ad = some (.int .i64 e.rev) ∧ w.cell? ⟨ad.block, ad.off + 1, none⟩ = some (.slice e.a e.xs.length e.cap) ∧ w.cell? ⟨ad.block, ad.off + 2, none⟩ = some (.string ⟨#[]⟩)
def rdP (w : World) (ad : Addr) (r : Rs) : Prop := w.cell? ad = some r.val
theorem vers_of_own {w : World} {base : Nat} {v : Value} {l : List Ve} (h : w.ownsRow base 130 3 v l.length (encV l)) : SlR (fun g => v.ownBlock = some g) 3 rdV w v l := by
  have h' := h
  rcases h.2 with ⟨rfl, h0⟩ | ⟨g, cap, cur, rfl, h1, h2, h3, h4, h5, h6⟩
  · have : l = [] := List.eq_nil_of_length_eq_zero h0
    subst this
    exact SlR.nil _ _ _ _
  · refine ⟨_, cap, rfl, h3, h4, fun _ => ⟨g, 0, rfl, rfl, fun j hj => ?_⟩⟩
    obtain ⟨f0, f1, f2⟩ := encV_get l j hj
    have c0 := h'.cells (g := g) rfl _ _ f0
    have c1 := h'.cells (g := g) rfl _ _ f1
    have c2 := h'.cells (g := g) rfl _ _ f2
    rw [Addr.add_lit] at c0 c1 c2
    exact ⟨c0, c1, c2⟩
theorem ptrs_of_own {w : World} {base : Nat} {v : Value} {l : List Rs} (h : w.ownsRow base 94 1 v l.length (encR l)) : SlR (fun g => v.ownBlock = some g) 1 rdP w v l := by
  have h' := h
  rcases h.2 with ⟨rfl, h0⟩ | ⟨g, cap, cur, rfl, h1, h2, h3, h4, h5, h6⟩
  · have : l = [] := List.eq_nil_of_length_eq_zero h0
    subst this
    exact SlR.nil _ _ _ _
  · refine ⟨_, cap, rfl, h3, h4, fun _ => ⟨g, 0, rfl, rfl, fun j hj => ?_⟩⟩
    have c0 := h'.cells (g := g) rfl j l[j].val (by unfold encR; simp [hj])
    rw [Addr.add_lit] at c0
    show w.cell? _ = _
    rw [Nat.mul_one]
    exact c0
theorem versKept {p : Nat → Prop} {w w' : World} {v : Value} {l : List Ve} (h : SlR p 3 rdV w v l) (hc : Chg [] w w') : SlR p 3 rdV w' v l :=
  SlR.imp h (fun _ h => h) fun ad x _ hr => ⟨(hc.cell (lt_of_cell hr.1) (by simp)).trans hr.1, (hc.cell (p := ⟨ad.block, ad.off + 1, none⟩) (lt_of_cell hr.2.1) (by simp)).trans hr.2.1, (hc.cell (p := ⟨ad.block, ad.off + 2, none⟩) (lt_of_cell hr.2.2) (by simp)).trans hr.2.2⟩
theorem zeroVs (w : World) : (zeroValue 128).run Try.prog w = .ok (.slice none 0 0) w := by
  have h : (Try.prog.info? 128).map (fun i => (i.zero, i.size, i.bytes)) = some (some (.slice none 0 0), 1, 24) := by kernel_rfl
  obtain ⟨i0, hi, hz0, hz1, hz2⟩ := info_parts h
  simp [zeroValue, typeInfo, hi, hz0]
theorem zeroRs (w : World) : (zeroValue 106).run Try.prog w = .ok (.slice none 0 0) w := by
  have h : (Try.prog.info? 106).map (fun i => (i.zero, i.size, i.bytes)) = some (some (.slice none 0 0), 1, 24) := by kernel_rfl
  obtain ⟨i0, hi, hz0, hz1, hz2⟩ := info_parts h
  simp [zeroValue, typeInfo, hi, hz0]
theorem box_set {w : World} {B : Nat} {x0 x1 : Value} (h : w.heap[B]? = some (.cells #[x0, x1] 39 (0, 0))) (y0 y1 : Value) : ((w.setCell ⟨B, 0, none⟩ y0).setCell ⟨B, 1, none⟩ y1).heap[B]? = some (.cells #[y0, y1] 39 (0, 0)) :=
  (heap_setCell_same (heap_setCell_same h _) _).trans rfl
theorem box_ints {w : World} {B : Nat} {x0 x1 : Value} (h : w.heap[B]? = some (.cells #[x0, x1] 39 (0, 0))) (y0 y1 : Value) {v : Value} {xs : List Int} (hi : Inp.Ints w v xs) : Inp.Ints ((w.setCell ⟨B, 0, none⟩ y0).setCell ⟨B, 1, none⟩ y1) v xs :=
  hi.kept (((Chg.refl [B] _).setCell (Or.inl (by simp)) _).setCell (Or.inl (by simp)) _) (fun k hk => by
    obtain rfl : k = B := by simpa using hk
    exact NotE.of_heap h (by simp))
theorem box_chg {w0 w : World} {B : Nat} (h : Chg [] w0 w) (hB : w0.heap.size ≤ B) (y0 y1 : Value) : Chg [] w0 ((w.setCell ⟨B, 0, none⟩ y0).setCell ⟨B, 1, none⟩ y1) := (h.setCell (Or.inr hB) _).setCell (Or.inr hB) _
/-- what input brings -/
def InPost (d : Hm) (k : QK) (rev : Int) (w : World) (e : Ending) (w' : World) : Prop :=
  ∃ a c, e = .returned (.tuple #[.agg #[.slice a (d.pl.inp k rev).1.length c, .string ⟨#[]⟩], .int .i64 (d.pl.inp k rev).2.1, .int .i64 (d.pl.inp k rev).2.2]) ∧ Inp.Ints w' (.slice a (d.pl.inp k rev).1.length c) (d.pl.inp k rev).1 ∧ (d.pl.inp k rev).1.length * 8 ≤ 140737488355328 ∧ Chg [] w w'
/-- the versions read so far: the value in its box, its first revision -/
structure InRel (d : Hm) (k : QK) (rev : Int) (w : World) (B : Nat) (n : Nat) (f : Int) (wr : World) : Prop where
  chg : Chg [] w wr
  cur : ∃ a c xs, wr.heap[B]? = some (.cells #[.slice a xs.length c, .string ⟨#[]⟩] 39 (0, 0)) ∧ Inp.Ints wr (.slice a xs.length c) xs ∧ xs.length * 8 ≤ 140737488355328 ∧ inpL rev (((gL d.VL k).drop n).map Ve.pl) xs f = d.pl.inp k rev
set_option maxRecDepth 100000 in
set_option maxHeartbeats 2000000 in
theorem input_any (w : World) (d : Hm) (k : QK) (rev : Int) (h : HmAt w d) (hk : Inp.QKok k) (hv : ∀ e ∈ gL d.VL k, 0 ≤ e.rev ∧ e.rev ≤ 1000000) :
    Calls Try.prog 33 #[.pointer (some ⟨d.b, 0, none⟩), i3v k, .int .i64 rev] w (InPost d k rev w) := by
  obtain ⟨k1, k2, k3⟩ := k
  have q2 : w.cell? ⟨d.b, 3, none⟩ = some (.map (some d.bv)) := cell_of_heap h.box rfl
  have lb := lt_of_cell q2
  obtain ⟨wa, hwa⟩ : ∃ x, x = (w.alloc (.cells #[.int .i64 k1, .int .i64 k2, .int .i64 k3] 43)).alloc (.cells #[.slice none 0 0, .string ⟨#[]⟩] 39) := ⟨_, rfl⟩
  have hca : Chg [] w wa := by rw [hwa]; exact ((Chg.refl [] w).alloc _).alloc _
  have hsa : wa.heap.size = w.heap.size + 2 := by rw [hwa]; simp
  have hkb : wa.heap[w.heap.size]? = some (.cells #[.int .i64 k1, .int .i64 k2, .int .i64 k3] 43 (0, 0)) := by
    rw [hwa]; exact (heap_past _ _ _ (by simp)).trans (heap_at _ _ _ rfl)
  have hvb : wa.heap[w.heap.size + 1]? = some (.cells #[.slice none 0 0, .string ⟨#[]⟩] 39 (0, 0)) := by
    rw [hwa]; exact heap_at _ _ _ (by simp)
  have hrow := vers_of_own (h.V.row (k1, k2, k3))
  obtain ⟨av, capv, hgv, hlm, hlc⟩ := hrow.shape
  obtain ⟨l, hl⟩ : ∃ l, l = gL d.VL (k1, k2, k3) := ⟨_, rfl⟩
  have Hl := Lib.hid hl
  rw [← hl] at hrow hgv hlm hlc hv
  have Hrow := Lib.hid hrow
  have Hgv := Lib.hid hgv
  have H := Lib.hid h
  have Hk := Lib.hid hk
  have Hv := Lib.hid hv
  have Hca := Lib.hid hca
  have Hkb := Lib.hid hkb
  have Hvb := Lib.hid hvb
  clear h hk hrow hgv hl hv hca hkb hvb
  unfold maxLen at hlm
  unfold i3v
  go_enter Try.func33, Try.ntmps33
  go_wp2_with fail
  rw [← hwa]
  clear hwa
  have c3 : wa.cell? ⟨d.b, 3, none⟩ = some (.map (some d.bv)) := (Hca.out.cell lb (by simp)).trans q2
  have e0 : wa.cell? ⟨w.heap.size, 0, none⟩ = some (.int .i64 k1) := cell_of_heap Hkb.out rfl
  have e1 : wa.cell? ⟨w.heap.size, 1, none⟩ = some (.int .i64 k2) := cell_of_heap Hkb.out rfl
  have e2 : wa.cell? ⟨w.heap.size, 2, none⟩ = some (.int .i64 k3) := cell_of_heap Hkb.out rfl
  have hlk : ∀ n, (Instr.lookup 77 (.map (some d.bv)) (.agg #[.int .i64 k1, .int .i64 k2, .int .i64 k3]) false).run Try.prog (wa.drewN n) = .ok (.slice av l.length capv) (wa.drewN n) := fun n => by
    have := (H.out.new (Hca.out.drewN n)).V.look (k1, k2, k3) Hk.out Try.underlying77 zeroVs
    rw [Hgv.out] at this
    exact this
  go_quiet (fail)
  have Hcwd := Lib.hid (Hca.out.drewN nq)
  obtain ⟨wd, hwd⟩ : ∃ x, x = wa.drewN nq := ⟨_, rfl⟩
  have Hvb2 := Lib.hid (show wd.heap[w.heap.size + 1]? = some (.cells #[.slice none 0 0, .string ⟨#[]⟩] 39 (0, 0)) by rw [hwd]; exact Hvb.out)
  rw [← hwd] at Hcwd ⊢
  clear hlk e0 e1 e2 c3 hwd
  go_wp2_with fail
  go_loopw [18, 7, 8] (fun i f z wr => ∃ (n : Nat) (f' : Int), n ≤ l.length ∧ i = .int .i64 (n : Nat) ∧ f = .int .i64 f' ∧ z = .int .i64 1152921504606846976 ∧ InRel d (k1, k2, k3) rev w (w.heap.size + 1) n f' wr) (fun i _ _ _ => l.length - (intOf i).toNat)
  case atStart => exact ⟨0, 0, by omega, rfl, rfl, rfl, Hcwd.out, none, 0, [], Hvb2.out, Or.inl ⟨rfl, rfl⟩, by simp, by rw [List.drop_zero]; rfl⟩
  case round =>
    obtain ⟨n, f, hn, rfl, rfl, rfl, hR⟩ := hrel
    obtain ⟨hcw, ax, cx, xs, hbx, hix, hsx, heq⟩ := hR
    have Hcw := Lib.hid hcw
    have Hbx := Lib.hid hbx
    have Hix := Lib.hid hix
    have Hsx := Lib.hid hsx
    have Heq := Lib.hid heq
    have b0 := cell_of_heap hbx (i := 0) rfl
    have b1 := cell_of_heap hbx (i := 1) rfl
    have f0 := frozen_of_heap hbx (i := 0)
    have f1 := frozen_of_heap hbx (i := 1)
    have lB := lt_of_obj hbx
    clear hcw hbx hix hsx heq
    by_cases hlt : n < l.length
    · obtain ⟨e, he⟩ : ∃ x, l.getD n ⟨0, none, 0, []⟩ = x := ⟨_, rfl⟩
      have hmem : e ∈ l := by rw [← he]; exact getD_memb hlt _
      obtain ⟨g, off, rfl, _, c0, c1, c2⟩ := SlR.at (versKept (Hgv.out ▸ Hrow.out) Hcw.out) n hlt ⟨0, none, 0, []⟩
      simp only [he] at c0 c1 c2
      have hdrop : l.drop n = e :: l.drop (n + 1) := by rw [← he]; exact drop_getD l n hlt _
      have hstep : inpL rev ((l.drop n).map Ve.pl) xs f = if rev < e.rev then (xs, f, e.rev - 1) else inpL rev ((l.drop (n + 1)).map Ve.pl) e.xs e.rev := by rw [hdrop]; rfl
      have Hstep := Lib.hid hstep
      have hve := Hv.out e hmem
      have Hve := Lib.hid ((H.out.new Hcw.out).vn (k1, k2, k3) e (by rw [← Hl.out]; exact hmem))
      have lg := lt_of_cell c0
      have hn1 : (n : Int) < l.length := by omega
      have hn0 : (0 : Int) ≤ (n : Int) := by omega
      obtain ⟨er, ea, ec, exs⟩ := e
      simp only at c0 c1 c2 hve Hstep Hve
      clear hdrop hstep he hmem
      by_cases hr : rev < er
      · have hw : wrap64 (er - 1) = er - 1 := by unfold wrap64; omega
        have hres := Lib.hid ((Hl.out ▸ Heq.out).symm.trans (Hstep.out.trans (if_pos hr)))
        go_wp2_with fail
        go_region
        all_goals
          go_wp2
          obtain ⟨wz, hwz⟩ : ∃ x, x = (((wr.setCell ⟨w.heap.size + 1, 0, none⟩ (.slice ax xs.length cx)).setCell ⟨w.heap.size + 1, 1, none⟩ (.string ⟨#[]⟩)).alloc (.cells #[.int .i64 er, .slice ea exs.length ec, .string ⟨#[]⟩] 130)).drew := ⟨_, rfl⟩
          rw [← hwz]
          have hB : wz.heap[w.heap.size + 1]? = some (.cells #[.slice ax xs.length cx, .string ⟨#[]⟩] 39 (0, 0)) := by
            rw [hwz]
            exact (heap_past _ _ _ (by simp [World.setCell]; omega)).trans (box_set Hbx.out _ _)
          have z0 := cell_of_heap hB (i := 0) rfl
          have z1 := cell_of_heap hB (i := 1) rfl
          have hI : Inp.Ints wz (.slice ax xs.length cx) xs := by
            rw [hwz]
            exact (box_ints Hbx.out _ _ Hix.out).same ((Chg.refl _ _).alloc _).drew
          have hC : Chg [] w wz := by
            rw [hwz]
            exact ((box_chg Hcw.out (by omega) _ _).alloc _).drew
          refine bodyPost_ret (v := .tuple #[.agg #[.slice ax xs.length cx, .string ⟨#[]⟩], .int .i64 f, .int .i64 (er - 1)]) (by simp [results, Try.results33, go_sem, z0, z1]) rfl ?_
          unfold InPost
          rw [hres.out]
          exact ⟨ax, cx, rfl, hI, Hsx.out, hC⟩
      · have hres := Lib.hid ((Hl.out ▸ Heq.out).symm.trans (Hstep.out.trans (if_neg hr)))
        go_wp2_with fail
        go_region
        all_goals
          go_wp2
          refine ⟨⟨n + 1, er, by omega, by go_num, rfl, rfl, ?_, ea, ec, exs, ?_, ?_, Hve.out.2, by rw [hres.out, ← Hl.out]⟩, by simp [intOf]; omega⟩
          · exact ((box_chg Hcw.out (by omega) _ _).alloc _).drew
          · exact (heap_past _ _ _ (by simp [World.setCell]; omega)).trans (box_set Hbx.out _ _)
          · exact (box_ints Hbx.out _ _ Hve.out.1).same ((Chg.refl _ _).alloc _).drew
    · obtain rfl : n = l.length := by omega
      have hres := Lib.hid (show d.pl.inp (k1, k2, k3) rev = (xs, f, fev) by
        have := Heq.out
        rw [← Hl.out, List.drop_length] at this
        exact this.symm)
      go_wp2_with fail
      obtain ⟨wz, hwz⟩ : ∃ x, x = ((wr.setCell ⟨w.heap.size + 1, 0, none⟩ (.slice ax xs.length cx)).setCell ⟨w.heap.size + 1, 1, none⟩ (.string ⟨#[]⟩)) := ⟨_, rfl⟩
      rw [← hwz]
      have hB : wz.heap[w.heap.size + 1]? = some (.cells #[.slice ax xs.length cx, .string ⟨#[]⟩] 39 (0, 0)) := by
        rw [hwz]
        exact box_set Hbx.out _ _
      have z0 := cell_of_heap hB (i := 0) rfl
      have z1 := cell_of_heap hB (i := 1) rfl
      have hI : Inp.Ints wz (.slice ax xs.length cx) xs := by
        rw [hwz]
        exact box_ints Hbx.out _ _ Hix.out
      have hC : Chg [] w wz := by
        rw [hwz]
        exact box_chg Hcw.out (by omega) _ _
      refine bodyPost_ret (v := .tuple #[.agg #[.slice ax xs.length cx, .string ⟨#[]⟩], .int .i64 f, .int .i64 1152921504606846976]) (by simp [results, Try.results33, go_sem, z0, z1]) rfl ?_
      unfold InPost
      rw [hres.out]
      exact ⟨ax, cx, rfl, hI, Hsx.out, hC⟩
end Go.Proofs.Ytggiddhhbilcjaa.Sn
