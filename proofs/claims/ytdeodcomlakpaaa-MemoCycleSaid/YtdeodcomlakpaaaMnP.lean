/- querylang.Compile. -/
import Derived.Test.YtdeodcomlakpaaaMnO
namespace Go.Proofs.Ytdeodcomlakpaaa
open Go.RowKit Go.ChangeMaps Go.MapKept
set_option linter.unusedVariables false
set_option linter.unusedSimpArgs false
theorem Try.infoOp : (Try.prog.info? 93).map (fun i => (i.zero, i.size, i.bytes)) = some (some (.agg #[.int .i64 0, .int .i64 0, .int .i64 0]), 3, 24) := by kernel_rfl
theorem Try.infoOps : (Try.prog.info? 90).map (fun i => (i.zero, i.size, i.bytes)) = some (some (.slice none 0 0), 1, 24) := by kernel_rfl
theorem flat3_cell {ks : List I3} {w : World} {g off : Nat} (h : ∀ j (h : j < ks.length), rdI3 w ⟨g, off + j * 3, none⟩ ks[j]) : ∀ j u, (flat3 ks)[j]? = some u → w.cell? ⟨g, off + j, none⟩ = some u := by
  intro j u hu
  have hj : j < ks.length * 3 := by
    have := (List.getElem?_eq_some_iff.1 hu).1
    rwa [flat3_len] at this
  obtain ⟨q, r, hr, rfl⟩ : ∃ q r, r < 3 ∧ j = q * 3 + r := ⟨j / 3, j % 3, by omega, by omega⟩
  have hq : q < ks.length := by omega
  obtain ⟨f0, f1, f2⟩ := flat3_get ks q hq
  obtain ⟨r0, r1, r2⟩ := h q hq
  rcases (by omega : r = 0 ∨ r = 1 ∨ r = 2) with rfl | rfl | rfl
  · rw [Nat.add_zero, f0] at hu; cases hu
    exact r0
  · rw [f1] at hu; cases hu
    exact r1
  · rw [f2] at hu; cases hu
    exact r2
/-- a row of three-field structs of the call's own, read -/
theorem i3s_of_row {E : TypeId} {w : World} {base : Nat} {v : Value} {n : Nat} {ks : List I3} (h : w.ownsRow base E 3 v n (flat3 ks)) (hn : n = ks.length) : I3s (fun g => base ≤ g ∧ g < w.heap.size) w v ks := by
  subst hn
  have h' := h
  rcases h.2 with ⟨rfl, h0⟩ | ⟨g, cap, cur, rfl, h1, h2, h3, h4, h5, h6⟩
  · have : ks = [] := List.eq_nil_of_length_eq_zero h0
    subst this
    exact SlR.nil _ _ _ _
  · refine ⟨_, cap, rfl, h3, h4, fun _ => ⟨g, 0, rfl, ⟨h1, lt_of_obj h2⟩, fun j hj => ?_⟩⟩
    obtain ⟨f0, f1, f2⟩ := flat3_get ks j hj
    have c0 := h'.cells (g := g) rfl _ _ f0
    have c1 := h'.cells (g := g) rfl _ _ f1
    have c2 := h'.cells (g := g) rfl _ _ f2
    rw [Addr.add_lit] at c0 c1 c2
    exact ⟨c0, c1, c2⟩
set_option maxHeartbeats 1000000 in
theorem opsClone_any (p : Nat → Prop) (w : World) (v : Value) (ops : List QO) (h : I3s p w v ops) (h0 : 0 < ops.length) (hl : ops.length ≤ 1000) :
    Calls Try.prog 54 #[v] w fun e w' => ∃ a c, e = .returned (.slice a ops.length c) ∧ I3s (fun g => w.heap.size ≤ g ∧ g < w'.heap.size) w' (.slice a ops.length c) ops ∧ Chg [] w w' := by
  obtain ⟨a, cap, rfl, h1, h2, h3⟩ := h
  obtain ⟨g, off, rfl, _, hc⟩ := h3 h0
  have hcell := flat3_cell hc
  obtain ⟨i0, hi, hz0, hz1, hz2⟩ := info_parts Try.infoOp
  have hnil := fun w : World => Lib.run_eql_slice_nil (P := Try.prog) w 90 93 (some ⟨g, off, none⟩) ops.length cap 0 0 Try.underlying90
  have hcs : ∀ j u, (flat3 ops)[j]? = some u → (w.alloc (.cells #[] 93)).cell? ((⟨g, off, none⟩ : Addr).add j) = some u := by
    intro j u hu
    have h1 := hcell j u hu
    rw [Addr.add_lit, World.cell?_alloc_past _ _ _ (lt_of_cell h1), h1]
  have h1c : ∀ u ∈ flat3 ops, u.oneCell' = true := by
    intro u hu
    unfold flat3 at hu
    obtain ⟨k, _, hu⟩ := List.mem_flatMap.1 hu
    simp only [List.mem_cons, List.not_mem_nil, or_false] at hu
    rcases hu with rfl | rfl | rfl <;> rfl
  have Hcs := Lib.hid hcs
  have H1c := Lib.hid h1c
  clear hc hcell hcs h1c h3
  go_enter Try.func54, Try.ntmps54
  go_wp2_with (at_builtin; refine wpList_append_own _ rfl _ _ 90 rfl w.heap.size 93 i0 (.agg #[.int .i64 0, .int .i64 0, .int .i64 0]) 3 24 Try.underlying90 hi hz0 hz1 hz2 rfl (by decide) (.slice (some ⟨w.heap.size, 0, none⟩) 0 0) 0 [] rfl (World.ownsRow_made w #[] 0 (Nat.le_refl _) (Nat.zero_le _) rfl) ⟨g, off, none⟩ ops.length cap (flat3 ops) rfl (flat3_len ops) Hcs.out H1c.out (by unfold maxLen; omega) (by omega) (by simp) ?_; intro v' w1 hown hgr _)
  go_ret
  simp only [Nat.zero_add, List.nil_append] at hown
  obtain ⟨a', c', rfl⟩ := ownsRow_shape hown
  exact ⟨a', c', rfl, i3s_of_row hown rfl, ((Chg.refl [] w).alloc _).grown hgr (by simp [Value.ownBlock])⟩
/-- the first k clones lie in the block bq -/
structure CompAt (w0 : World) (qs : List (List QO)) (g : Nat) (k : Nat) (us : List Value) (w : World) : Prop where
  len : us.length = k
  blk : w.heap[g]? = some (.cells (us ++ List.replicate (qs.length - k) (Value.slice none 0 0)).toArray 90 (0, 0))
  each : ∀ j (h : j < us.length), I3s (fun b => w0.heap.size ≤ b ∧ b < w.heap.size ∧ b ≠ g) w us[j] (qs.getD j [])
  shape : ∀ u ∈ us, ∃ a n c, u = Value.slice a n c
theorem CompAt.step {w0 : World} {qs : List (List QO)} {g k : Nat} {us : List Value} {w w' : World} {a : Option Addr} {c : Nat} (h : CompAt w0 qs g k us w) (hc : Chg [] w w') (hk : k < qs.length) (hw : w0.heap.size ≤ w.heap.size)
    (hi : I3s (fun b => w.heap.size ≤ b ∧ b < w'.heap.size) w' (.slice a (qs.getD k []).length c) (qs.getD k [])) : CompAt w0 qs g (k + 1) (us ++ [.slice a (qs.getD k []).length c]) (w'.setCell ⟨g, k, none⟩ (.slice a (qs.getD k []).length c)) := by
  have hg := lt_of_obj h.blk
  have hb := (hc.block g hg (by simp)).trans h.blk
  have hs : ChgP (fun b => b = g) w' (w'.setCell ⟨g, k, none⟩ (.slice a (qs.getD k []).length c)) := (ChgP.refl (fun b => b = g) w').setCell (p := ⟨g, k, none⟩) (Or.inl rfl) _
  have hz : (w'.setCell ⟨g, k, none⟩ (.slice a (qs.getD k []).length c)).heap.size = w'.heap.size := by simp [World.setCell]
  refine ⟨by simp [h.len], ?_, fun j hj => ?_, fun u hu => ?_⟩
  · refine (heap_setCell_same hb _).trans ?_
    have e : qs.length - k = (qs.length - (k + 1)) + 1 := by omega
    congr 2
    rw [e, List.replicate_succ]
    apply Array.ext
    · simp
    · intro i h1 h2
      simp only [List.setIfInBounds_toArray, List.getElem_toArray]
      have : (us ++ Value.slice none 0 0 :: List.replicate (qs.length - (k + 1)) (Value.slice none 0 0)).set k (.slice a (qs.getD k []).length c) = us ++ [.slice a (qs.getD k []).length c] ++ List.replicate (qs.length - (k + 1)) (Value.slice none 0 0) := by
        rw [List.set_append_right _ _ (by rw [h.len]; exact Nat.le_refl _), h.len, Nat.sub_self, List.set_cons_zero]
        simp
      simp only [this]
  · rw [hz]
    by_cases hj' : j < us.length
    · rw [List.getElem_append_left hj']
      exact ((h.each j hj').kept (hc.p (S := fun _ => False)) (fun _ _ h => h) |>.imp fun b hb => ⟨hb.1, Nat.lt_of_lt_of_le hb.2.1 hc.size, hb.2.2⟩).kept hs fun b hb e => hb.2.2 e
    · obtain rfl : j = us.length := by simp at hj; omega
      rw [List.getElem_append_right (Nat.le_refl _)]
      simp only [Nat.sub_self, List.getElem_cons_zero, h.len]
      exact (hi.imp (q := fun b => w0.heap.size ≤ b ∧ b < w'.heap.size ∧ b ≠ g) fun b hb => ⟨Nat.le_trans hw hb.1, hb.2, by omega⟩).kept hs fun b hb e => hb.2.2 e
  · rcases List.mem_append.1 hu with hu | hu
    · exact h.shape u hu
    · rw [List.mem_singleton.1 hu]; exact ⟨_, _, _, rfl⟩
/-- a compiled program's boxes -/
structure CompMem (RO : Nat → Prop) (bv bq : Nat) (qv : Value) (qs : List (List QO)) (w : World) : Prop where
  valid : w.heap[bv]? = some (.cells #[.bool true] 4 (0, 0))
  queries : w.heap[bq]? = some (.cells #[qv] 40 (0, 0))
  rows : I3ss RO w qv qs
  rbv : RO bv
  rbq : RO bq
def CompPost (inp : Int) (qs : List (List QO)) (w : World) (e : Ending) (w' : World) : Prop :=
  ∃ bv bq qv, e = .returned (.func (.func 55) #[] #[.pointer (some ⟨bv, 0, none⟩), .pointer (some ⟨bq, 0, none⟩)]) ∧ CompMem (fun g => w.heap.size ≤ g ∧ g < w'.heap.size) bv bq qv qs w' ∧ Chg [] w w'
set_option maxRecDepth 100000 in
set_option maxHeartbeats 4000000 in
theorem compile_any (p : Nat → Prop) (w : World) (inp : Int) (qs : List (List QO)) (v : Value) (hq : I3ss p w v qs) (hok : PrgOk ⟨inp, qs⟩) :
    Calls Try.prog 23 #[.agg #[.int .i64 inp, v]] w (CompPost inp qs w) := by
  obtain ⟨av, capv, rfl, hlm, hlc⟩ := hq.shape
  obtain ⟨wa, hwa⟩ : ∃ x, x = w.alloc (.cells #[.int .i64 inp, .slice av qs.length capv] 42) := ⟨_, rfl⟩
  have hca : Chg [] w wa := by rw [hwa]; exact (Chg.refl [] w).alloc _
  have hpb : wa.heap[w.heap.size]? = some (.cells #[.int .i64 inp, .slice av qs.length capv] 42 (0, 0)) := by rw [hwa]; exact heap_at _ _ _ rfl
  have Hq := Lib.hid (hq.kept (hca.p (S := fun _ => False)) (fun _ _ h => h))
  have Hchk := Lib.hid (checkP_any p wa inp qs _ Hq.out)
  have Hca := Lib.hid hca
  have Hok := Lib.hid hok
  have h40 := hok.size
  have c0 := cell_of_heap hpb (i := 0) rfl
  have c1 := cell_of_heap hpb (i := 1) rfl
  have Hpb := Lib.hid hpb
  have hmf : ∀ (fn : Fn) (first cap : Array Value) (w : World), (Instr.makeFunc fn first cap).run Try.prog w = .ok (.func fn first cap) w := fun _ _ _ _ => rfl
  have hmk := run_make_row' (P := Try.prog) 40 90 (.slice none 0 0) 24 Try.underlying40 Try.infoOps rfl .i64 .i64 qs.length (by simp only at h40; omega) (by simp only at h40; omega)
  have Hmk := Lib.hid hmk
  clear hq hok hca hpb hmk hmf
  go_enter Try.func23, Try.ntmps23
  go_wp2_with fail
  rw [← hwa]
  clear hwa
  refine Hchk.out.mono ?_
  rintro e w1 ⟨code, rfl, hcode, hc1⟩
  obtain rfl := hcode.2 Hok.out
  have c1' : w1.cell? ⟨w.heap.size, 1, none⟩ = some (.slice av qs.length capv) := (hc1.cell (lt_of_cell c1) (by simp)).trans c1
  have c0' : w1.cell? ⟨w.heap.size, 0, none⟩ = some (.int .i64 inp) := (hc1.cell (lt_of_cell c0) (by simp)).trans c0
  clear c0 c1
  clear hcode
  have hmk' := Hmk.out
  obtain ⟨x1, hx1⟩ : ∃ x, x = (w1.alloc (.cells #[.bool true] 4)).alloc (.cells (madeCells #[.slice none 0 0] qs.length) 90) := ⟨_, rfl⟩
  obtain ⟨x2, hx2⟩ : ∃ x, x = x1.alloc (.cells #[.slice (some ⟨w1.heap.size + 1, 0, none⟩) qs.length qs.length] 40) := ⟨_, rfl⟩
  have hsz1 : x1.heap.size = w1.heap.size + 2 := by rw [hx1]; simp
  have hsz2 : x2.heap.size = w1.heap.size + 3 := by rw [hx2]; simp [hsz1]
  have hcx : Chg [] w x2 := by
    rw [hx2, hx1]
    exact (((Hca.out.trans hc1).alloc _).alloc _).alloc _
  have hgv : x2.heap[w1.heap.size]? = some (.cells #[.bool true] 4 (0, 0)) := by
    rw [hx2, hx1]
    exact (heap_past _ _ _ (by simp; omega)).trans ((heap_past _ _ _ (by simp)).trans (heap_at _ _ _ rfl))
  have hgr : x2.heap[w1.heap.size + 1]? = some (.cells ([] ++ List.replicate (qs.length - 0) (Value.slice none 0 0)).toArray 90 (0, 0)) := by
    rw [hx2, hx1]
    refine (heap_past _ _ _ (by simp)).trans ((heap_at _ _ _ (by simp)).trans ?_)
    congr 2
    apply Array.ext
    · simp [madeCells]
    · intro i h1 h2
      simp [madeCells, Nat.mod_one]
  have hgq : x2.heap[w1.heap.size + 2]? = some (.cells #[.slice (some ⟨w1.heap.size + 1, 0, none⟩) qs.length qs.length] 40 (0, 0)) := by
    rw [hx2]
    exact heap_at _ _ _ hsz1.symm
  have hlw : w.heap.size ≤ w1.heap.size := (Hca.out.trans hc1).size
  have hl0 : w.heap.size < w1.heap.size := lt_of_cell c1'
  have HX := Lib.hid (And.intro hcx (And.intro hgv (And.intro hgr hgq)))
  have c1x : x2.cell? ⟨w.heap.size, 1, none⟩ = some (.slice av qs.length capv) := by
    rw [hx2, hx1]
    exact (((((Chg.refl [] w1).alloc _).alloc _).alloc _).cell (p := ⟨w.heap.size, 1, none⟩) hl0 (by simp)).trans c1'
  clear hcx hgv hgr hgq
  have Hc1 := Lib.hid hc1
  have hl1 : w.heap.size < w1.heap.size + 1 := by omega
  have hl2 : w.heap.size < w1.heap.size + 2 := by omega
  have hl3 : w.heap.size < w1.heap.size + 1 + 1 := by omega
  have hl4 : w.heap.size < w1.heap.size + 3 := by omega
  clear hc1
  go_wp2_with fail
  rw [← hx1, ← hx2]
  have Hx := Lib.hid (And.intro hx1 hx2)
  clear hx1 hx2 c1' c0' hl1 hl2 hl3 hl4 hmk' c1x
  go_loopw [17] (fun jj wr => ∃ (k : Nat) (us : List Value), k ≤ qs.length ∧ jj = .int .i64 (k : Nat) ∧ CompAt w qs (w1.heap.size + 1) k us wr ∧ wr.heap[w1.heap.size]? = some (.cells #[.bool true] 4 (0, 0)) ∧ wr.heap[w1.heap.size + 2]? = some (.cells #[.slice (some ⟨w1.heap.size + 1, 0, none⟩) qs.length qs.length] 40 (0, 0)) ∧ Chg [] wa wr) (fun jj _ => qs.length - (intOf jj).toNat)
  case atStart =>
    refine ⟨0, [], by omega, rfl, ⟨rfl, HX.out.2.2.1, fun j hj => absurd hj (by simp), fun u hu => absurd hu (by simp)⟩, HX.out.2.1, HX.out.2.2.2, ?_⟩
    rw [Hx.out.2, Hx.out.1]
    exact ((Hc1.out.alloc _).alloc _).alloc _
  case round =>
    obtain ⟨k, us, hk, rfl, hat, hgv, hgq, hcw⟩ := hrel
    have Hgv := Lib.hid hgv
    have Hat := Lib.hid hat
    have Hcw := Lib.hid hcw
    by_cases hlt : k < qs.length
    · have hk1 : (k : Int) < qs.length := by omega
      obtain ⟨g, off, rfl, hg, u, q0, hu⟩ := SlR.at (Hq.out.kept (hcw.p (S := fun _ => False)) (fun _ _ h => h)) k hlt []
      rw [Nat.mul_one] at q0
      obtain ⟨au, capu, rfl, hum, huc⟩ := hu.shape
      have lg := lt_of_cell q0
      have qq := cell_of_heap hgq (i := 0) rfl
      have Hgq := Lib.hid hgq
      have hqk := Hok.out.qs k hlt
      have hl20 := hqk.size
      simp only at hl20
      have hpos : 0 < (qs.getD k []).length := by
        rcases h : (qs.getD k []) with _ | ⟨o, r⟩
        · have := hqk.dep
          simp only [h] at this
          cases this
        · simp
      obtain ⟨ops, hops⟩ : ∃ x, x = qs.getD k [] := ⟨_, rfl⟩
      rw [← hops] at q0 hum huc hl20 hpos hu
      have Hops := Lib.hid hops
      have Hu := Lib.hid hu
      clear hat hgv hgq hcw hqk hu hops
      go_wp2_with fail
      refine wp_region_T (fun w' => w'.cell? ⟨w1.heap.size + 1 + 1, 0, none⟩ = some (.slice (some ⟨w1.heap.size + 1, 0, none⟩) qs.length qs.length)) 5 (by kernel_rfl) ?_
      intro wd hwd
      have hcd : Chg [] wr wd := by rw [hwd]; exact (Chg.refl _ _).drew
      have hSW : wd.cell? ⟨w1.heap.size + 1 + 1, 0, none⟩ = some (.slice (some ⟨w1.heap.size + 1, 0, none⟩) qs.length qs.length) := (hcd.cell (lt_of_cell qq) (by simp)).trans qq
      have Hcall := Lib.hid (opsClone_any p wd _ ops (Hu.out.kept (hcd.p (S := fun _ => False)) (fun _ _ h => h)) hpos (by omega))
      have Hcd := Lib.hid hcd
      clear hwd hcd qq q0 lg
      refine anyT_take (i := 0) (v := .slice (some ⟨w1.heap.size + 1, 0, none⟩) qs.length qs.length) rfl (by kernel_rfl) (fun _ _ _ h => h) (Or.inl ⟨by rfl, fun w' hS => by go_simp⟩) hSW ?_
      simp only [Act.put, List.setIfInBounds_toArray, List.set_cons_zero, List.set_cons_succ]
      refine anyT_pure (i := 1) (v := .int .i64 k) rfl (by kernel_rfl) (fun _ _ _ h => h) (Or.inl ⟨by rfl, fun w' hS => by go_simp⟩) hSW ?_
      simp only [Act.put, List.setIfInBounds_toArray, List.set_cons_zero, List.set_cons_succ]
      refine anyT_pure (i := 2) (v := .slice au ops.length capu) rfl (by kernel_rfl) (fun _ _ _ h => h) (Or.inl ⟨by rfl, fun w' hS => by go_simp⟩) hSW ?_
      simp only [Act.put, List.setIfInBounds_toArray, List.set_cons_zero, List.set_cons_succ]
      refine anyT_one (k := 3) (by kernel_rfl) rfl (fun K hK => ?_)
      go_simp
      refine Hcall.out.mono ?_
      rintro e w6 ⟨a', c', rfl, hi6, hc6⟩
      have hc6' := Hcd.out.trans hc6
      have hS6 := (hc6.cell (lt_of_cell hSW) (by simp)).trans hSW
      have hblk := (hc6'.block _ (lt_of_obj Hat.out.blk) (by simp)).trans Hat.out.blk
      have hblk' := hblk
      have ec : ((us ++ List.replicate (qs.length - k) (Value.slice none 0 0)).toArray)[k]? = some (Value.slice none 0 0) := by
        have := Hat.out.len
        simp only [List.getElem?_toArray]
        rw [List.getElem?_append_right (by omega), this, Nat.sub_self, List.getElem?_replicate_of_lt (by omega)]
      have ck := cell_of_heap hblk ec
      have fk := frozen_of_heap (i := k) hblk
      have lk : w1.heap.size + 1 < w6.heap.size := lt_of_obj hblk
      have hst := Hat.out.step (a := a') (c := c') hc6' hlt (Nat.le_trans (Hca.out.trans Hcw.out).size (Nat.le_refl _)) (by rw [← Hops.out]; exact hi6.imp fun b hb => ⟨Nat.le_trans Hcd.out.size hb.1, hb.2⟩)
      rw [← Hops.out] at hst
      have Hst := Lib.hid hst
      have Hgv6 := Lib.hid ((hc6'.block _ (lt_of_obj Hgv.out) (by simp)).trans Hgv.out)
      have Hgq6 := Lib.hid ((hc6'.block _ (lt_of_obj Hgq.out) (by simp)).trans Hgq.out)
      have Hc6 := Lib.hid (Hcw.out.trans hc6')
      clear hst hblk hblk' ec hi6 hc6 hc6'
      refine hK _ _ (fun _ => hS6) ?_
      clear hK K
      refine anyT_one (k := 4) (by kernel_rfl) rfl (fun K hK => ?_)
      go_simp
      refine hK _ _ (fun _ => hS6) ?_
      clear hK K
      refine anyT_one (k := 5) (by kernel_rfl) rfl (fun K hK => ?_)
      go_simp
      refine hK _ _ (fun h => by simp at h) ?_
      clear hK K
      refine anyT_done (by kernel_rfl) ?_
      go_wp2_with fail
      refine ⟨⟨k + 1, us ++ [.slice a' ops.length c'], by omega, by go_num, Hst.out, ?_, ?_, ?_⟩, ?_⟩
      · rw [heap_setCell_ne _ _ _ _ (by simp)]; exact Hgv6.out
      · rw [heap_setCell_ne _ _ _ _ (by simp)]; exact Hgq6.out
      · exact Hc6.out.setCell (Or.inr (by have := (Hc1.out).size; simp only; omega)) _
      · simp only [intOf]; omega
    · obtain rfl : k = qs.length := by omega
      have hk1 : ¬ ((qs.length : Int) < qs.length) := by omega
      have Hgq := Lib.hid hgq
      have hmf : ∀ (fn : Fn) (first cap : Array Value) (w : World), (Instr.makeFunc fn first cap).run Try.prog w = .ok (.func fn first cap) w := fun _ _ _ _ => rfl
      clear hat hgv hcw hgq
      go_wp2_with fail
      go_ret
      have hb := Hat.out.blk
      rw [Nat.sub_self, List.replicate_zero, List.append_nil] at hb
      refine ⟨w1.heap.size, w1.heap.size + 2, _, rfl, ⟨Hgv.out, Hgq.out, ⟨_, _, rfl, Nat.le_refl _, hlm, fun h0 => ⟨w1.heap.size + 1, 0, rfl, ⟨by omega, lt_of_obj hb⟩, fun j hj => ?_⟩⟩, ⟨hlw, lt_of_obj Hgv.out⟩, ⟨by omega, lt_of_obj Hgq.out⟩⟩, Hca.out.trans Hcw.out⟩
      have hlen := Hat.out.len
      have hj' : j < us.length := by omega
      have he := Hat.out.each j hj'
      refine ⟨us[j], ?_, ?_⟩
      · rw [Nat.zero_add, Nat.mul_one]
        exact cell_of_heap hb (by simp [hj'])
      · have : qs[j] = qs.getD j [] := by simp [hj]
        rw [this]
        exact he.imp fun b hb => ⟨hb.1, hb.2.1⟩
end Go.Proofs.Ytdeodcomlakpaaa
