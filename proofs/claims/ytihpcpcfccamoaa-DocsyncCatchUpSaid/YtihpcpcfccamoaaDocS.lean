/- Room.Since. -/
import Derived.Test.YtihpcpcfccamoaaDocQ
namespace Go.Proofs.Ytihpcpcfccamoaa
open Go Go.BigFrame Go.RowKit
set_option linter.unusedVariables false
set_option linter.unusedSimpArgs false
/-- the lists so far: a row of the call's own -/
def LsI (W wr : World) (v : Value) (us : List Value) (L : List (List Edit)) : Prop :=
  wr.ownsRow W.heap.size 42 1 v us.length us ∧ us.length = L.length ∧ ∃ qe : Nat → Prop, (∀ g, qe g → W.heap.size ≤ g ∧ g < wr.heap.size ∧ v.ownBlock ≠ some g) ∧ ∀ i, i < L.length → Eds qe wr (us.getD i undef) (L.getD i [])
theorem LsI.none (W wr : World) : LsI W wr (.slice none 0 0) [] [] := ⟨World.ownsRow_nil _ _ _ _, rfl, fun _ => False, fun _ h => h.elim, fun i hi => by simp at hi⟩
theorem LsI.same {W wr w' : World} {v : Value} {us : List Value} {L : List (List Edit)} (h : LsI W wr v us L) (hc : Chg [] wr w') : LsI W w' v us L := by
  obtain ⟨h1, h0, qe, h2, h3⟩ := h
  exact ⟨ownsRow_kept h1 fun g _ hl => hc.block g hl (by simp), h0, qe, fun g hg => ⟨(h2 g hg).1, Nat.lt_of_lt_of_le (h2 g hg).2.1 hc.size, (h2 g hg).2.2⟩, fun i hi => (h3 i hi).same hc⟩
theorem LsI.step {W wr wB w4 : World} {v v' u : Value} {us : List Value} {L : List (List Edit)} {E : List Edit} (h : LsI W wr v us L) (hW : W.heap.size ≤ wr.heap.size) (hcB : Chg [] wr wB) (hu : Eds (fun g => wr.heap.size ≤ g ∧ g < wB.heap.size) wB u E)
    (hc4 : ChgP (fun k => v.ownBlock = some k) wB w4) (hown : w4.ownsRow W.heap.size 42 1 v' (us.length + 1) (us ++ [u])) (hg : ∀ k, v'.ownBlock = some k → v.ownBlock = some k ∨ wB.heap.size ≤ k) : LsI W w4 v' (us ++ [u]) (L ++ [E]) := by
  obtain ⟨h1, h0, qe, h2, h3⟩ := h
  have hs := hcB.size
  have hs4 := hc4.size
  refine ⟨by rw [List.length_append]; exact hown, by simp [h0], fun g => qe g ∨ (wr.heap.size ≤ g ∧ g < wB.heap.size), ?_, ?_⟩
  · rintro g (hq | hq)
    · obtain ⟨a1, a2, a3⟩ := h2 g hq
      exact ⟨a1, by omega, fun e => (hg g e).elim a3 (fun e => by omega)⟩
    · exact ⟨by omega, by omega, fun e => (hg g e).elim (fun e => by have := (h1.lt g e).2; omega) (fun e => by omega)⟩
  · intro i hi
    rw [List.length_append, List.length_singleton] at hi
    by_cases hl : i < L.length
    · have e1 : (us ++ [u]).getD i undef = us.getD i undef := by rw [List.getD_eq_getElem?_getD, List.getD_eq_getElem?_getD, List.getElem?_append_left (by omega)]
      have e2 : (L ++ [E]).getD i [] = L.getD i [] := by rw [List.getD_eq_getElem?_getD, List.getD_eq_getElem?_getD, List.getElem?_append_left hl]
      rw [e1, e2]
      exact (((h3 i hl).same hcB).kept hc4 fun k hk e => (h2 k hk).2.2 e).wider fun _ h => Or.inl h
    · obtain rfl : i = L.length := by omega
      have e1 : (us ++ [u]).getD L.length undef = u := by rw [← h0]; simp
      have e2 : (L ++ [E]).getD L.length [] = E := by simp
      rw [e1, e2]
      exact (hu.kept hc4 fun k hk e => by have := (h1.lt k e).2; omega).wider fun _ h => Or.inr h
theorem LsI.edss {W wr : World} {v : Value} {us : List Value} {L : List (List Edit)} (h : LsI W wr v us L) : Edss (fun k => W.heap.size ≤ k ∧ k < wr.heap.size) wr v L := by
  obtain ⟨h1, h0, qe, h2, h3⟩ := h
  have h' := h1
  rcases h1.2 with ⟨rfl, e0⟩ | ⟨g, cap, cur, rfl, hb, hh, hc1, hc2, _, _⟩
  · have : L = [] := List.eq_nil_of_length_eq_zero (by omega)
    subst this
    exact SlR.nil _ _ _ _
  · refine ⟨_, cap, by rw [h0], by omega, hc2, fun _ => ⟨g, 0, rfl, ⟨hb, lt_of_obj hh⟩, fun j hj => ?_⟩⟩
    have c0 := h'.cells (g := g) rfl j (us.getD j undef) (by rw [List.getD_eq_getElem?_getD, List.getElem?_eq_getElem (by omega)]; rfl)
    rw [Addr.add_lit] at c0
    have := h3 j hj
    have e : L.getD j [] = L[j] := by rw [List.getD_eq_getElem?_getD, List.getElem?_eq_getElem hj]; rfl
    rw [e] at this
    refine ⟨us.getD j undef, by rw [Nat.mul_one]; exact c0, this.wider fun k hk => ?_⟩
    have := h2 k hk
    omega
theorem Edss.wider2 {p q : Nat → Prop} {w : World} {v : Value} {EE : List (List Edit)} (h : Edss p w v EE) (hp : ∀ g, p g → q g) : Edss q w v EE := SlR.imp h hp fun ad x _ ⟨u, h1, h2⟩ => ⟨u, h1, h2.wider hp⟩
variable {B : Nat} {P q : Nat → Prop} {w w2 : World} {rb db dc pb : Nat} {dcs : Array Value} {cv hv rv : Value} {hvs : List Value} {nm : ByteArray} {cl : List Int} {ver : Int} {text : ByteArray} {hist : List (List Edit)} {rd : List Int}
set_option maxRecDepth 100000 in
set_option maxHeartbeats 4000000 in
theorem since_any (h : RoomAt B P w rb nm cl ver text hist rd) (v0 : Int) (m : Nat) (h0 : 0 ≤ v0) (hv : v0 + (hist.length - m : Nat) = ver) (hm : m ≤ hist.length) (hh : hist.length ≤ 30) (hvb : ver ≤ 100000) (hl : ∀ E ∈ hist, E.length ≤ 50) :
    Calls Try.prog 16 #[.pointer (some ⟨rb, 0, none⟩), .string nm, .int .i64 v0] w fun e w' => ∃ lv, e = .returned (.tuple #[lv, .int .i64 0]) ∧ Edss (fun k => w.heap.size ≤ k ∧ k < w'.heap.size) w' lv (hist.drop m) ∧ Chg [] w w' := by
  obtain ⟨i0, hi, hz0, hz1, hz2⟩ := info_parts Try.infoES
  have Hi0 := Lib.hid hi
  have Hz0 := Lib.hid hz0
  have Hz1 := Lib.hid hz1
  have Hz2 := Lib.hid hz2
  clear hi hz0 hz1 hz2
  obtain ⟨q, db, dc, pb, dcs, cv, hv', rv, hvs, h⟩ := h
  obtain ⟨ah, ch, hhv, hah, hch⟩ := hist_shape h.his
  subst hhv
  have H := Lib.hid h
  have Hl := Lib.hid hl
  have Hah := Lib.hid hah
  have hB : B ≤ w.heap.size := by have := h.pB rb (h.foot _ (Or.inl rfl)); omega
  clear h hl hah
  by_cases hmn : hist.length ≤ m
  · have hme : hist.drop m = [] := List.drop_eq_nil_of_le hmn
    rw [hme]
    have hvv : ver = v0 := by omega
    subst hvv
    clear hv hme
    go_enter Try.func16, Try.ntmps16
    go_wp2_with fail
    refine (find_any H.out).mono ?_
    rintro e w1 ⟨rfl, c1⟩
    have H1 := Lib.hid (H.out.same c1)
    have C1 := Lib.hid c1
    clear c1
    obtain ⟨x0, x1, x2, x3, x4⟩ := H1.out.dcells
    have hq1 : ¬ ver < 0 := by omega
    have hq3 : ver - ver = 0 := by omega
    have hq4 : ¬ ((hist.length : Nat) : Int) < 0 := by omega
    go_wp2_with fail
    go_quiet (fail)
    go_wp2_with fail
    go_quiet (fail)
    go_wp2_with fail
    all_goals
      refine wp_loop_once ?_
      go_wp2_with fail
      go_ret2
      exact ⟨_, rfl, SlR.nil _ _ _ _, C1.out.drewN _⟩
  · obtain ⟨gh, rfl⟩ := Hah.out (by omega)
    have hcm : ¬ ch = m := by omega
    have hcm2 : (m : Int) ≤ ch := by omega
    have hd1 : decide (hist.length < hist.length - m) = false := decide_eq_false (by omega)
    have hd2 : decide (v0 < 0) = false := decide_eq_false (by omega)
    have hd3 : decide (ver < v0) = false := decide_eq_false (by omega)
    go_enter Try.func16, Try.ntmps16
    go_wp2_with fail
    refine (find_any H.out).mono ?_
    rintro e w1 ⟨rfl, c1⟩
    have H1 := Lib.hid (H.out.same c1)
    have C1 := Lib.hid c1
    clear c1
    obtain ⟨x0, x1, x2, x3, x4⟩ := H1.out.dcells
    have hq1 : ¬ v0 < 0 := by omega
    have hq2 : ¬ ver < v0 := by omega
    have hq3 : ver - v0 = ((hist.length - m : Nat) : Int) := by omega
    have hq4 : ¬ ((hist.length : Nat) : Int) < ver - v0 := by omega
    have hq5 : ((hist.length : Nat) : Int) - ((hist.length - m : Nat) : Int) = (m : Int) := by omega
    go_wp2_with fail
    go_quiet (fail)
    go_wp2_with fail
    go_quiet (fail)
    go_wp2_with fail
    have hlen : ((hist.drop m).length) = hist.length - m := List.length_drop
    go_loopw [9, 63] (fun vv jj wr => ∃ (k : Nat) (us : List Value), k ≤ hist.length - m ∧ jj = .int .i64 (k : Nat) ∧ LsI w1 wr vv us ((hist.drop m).take k) ∧ Chg [] w1 wr) (fun _ jj _ => (hist.length - m) - (intOf jj).toNat)
    case atStart => exact ⟨0, [], by omega, rfl, LsI.none _ _, ((Chg.refl [] w1).drewN _).drewN _⟩
    case round =>
      obtain ⟨k, us, hk, rfl, hU, hc⟩ := hrel
      have HU := Lib.hid hU
      have Hc := Lib.hid hc
      obtain ⟨au, cu, hus⟩ := ownsRow_shape hU.1
      subst hus
      have hul : us.length = k := by rw [hU.2.1, List.length_take]; omega
      have Hul := Lib.hid hul
      have hzr := hc.size
      clear hU hc hul
      by_cases hlt : k < hist.length - m
      · have hk1 : (k : Int) < ((hist.length - m : Nat) : Int) := by omega
        have r0 := H1.out.his.cells (g := gh) rfl (m + k) (hvs.getD (m + k) undef) (by rw [List.getD_eq_getElem?_getD, List.getElem?_eq_getElem (by rw [H1.out.hlen]; omega)]; rfl)
        rw [Addr.add_lit, Nat.zero_add] at r0
        have hed := H1.out.heds (m + k) (by omega)
        obtain ⟨E, hE⟩ : ∃ E, hist.getD (m + k) [] = E := ⟨_, rfl⟩
        have hEl : E.length ≤ 50 := Hl.out E (by rw [← hE, List.getD_eq_getElem?_getD, List.getElem?_eq_getElem (by omega)]; simp)
        have htk : (hist.drop m).take (k + 1) = (hist.drop m).take k ++ [E] := by
          rw [List.take_succ_eq_append_getElem (by omega), List.getElem_drop, ← hE, List.getD_eq_getElem?_getD, List.getElem?_eq_getElem (by omega)]
          rfl
        rw [hE] at hed
        obtain ⟨uh, huh⟩ : ∃ uh, hvs.getD (m + k) undef = uh := ⟨_, rfl⟩
        rw [huh] at r0 hed
        have r1 := (Hc.out.cell (lt_of_cell r0) (by simp)).trans r0
        have Hed := Lib.hid (hed.same Hc.out)
        obtain ⟨ax, cx, hux, _, _⟩ := hed.shape
        subst hux
        have Htk := Lib.hid htk
        clear r0 hE htk hed huh
        go_wp2_with fail
        refine (edClone_any q _ _ E Hed.out (by omega)).mono ?_
        rintro e wB ⟨u, rfl, hu, cB⟩
        obtain ⟨ay, cy, hy, _, _⟩ := hu.shape
        subst hy
        have Hu := Lib.hid hu
        have HcB := Lib.hid cB
        have hzB := cB.size
        clear hu cB
        go_wp2_with (at_builtin; refine wpList_append_lies _ (by rfl) _ _ 23 (by rfl) w1.heap.size 42 i0 (.slice none 0 0) 1 24 Try.underlying23 Hi0.out Hz0.out Hz1.out Hz2.out rfl (by decide) (.slice au us.length cu) us.length us (by rfl) ((HU.out.same HcB.out).1.alloc _) ⟨wB.heap.size, 0, none⟩ 1 1 [.slice ay E.length cy] (by rfl) (by rfl) (World.news_of_block (cs := #[.slice ay E.length cy]) (t := 42) (fr := (0, 0)) (heap_alloc_new wB _)) (by simp [Value.oneCell']) (by omega) (by have := Hul.out; unfold maxLen; omega) (by have := Hul.out; omega) (by simp; omega) (wB.heap.size + 1) (by simp) ?_; intro gg cap4 w7 hown7 hgrow7 hat7 hlt7)
        have hc7 : ChgP (fun k => Value.ownBlock (.slice au us.length cu) = some k) wB w7 := ((ChgP.refl _ wB).alloc _).grown hgrow7 (fun k hk => Or.inl hk)
        have hL := LsI.step HU.out hzr HcB.out Hu.out hc7 hown7 (fun k hk => by
          simp only [Value.ownBlock, Option.some.injEq] at hk
          subst hk
          exact hat7.imp id (fun e => by omega))
        have hcf : Chg [] w1 w7 := chgP_new ((Hc.out.trans HcB.out).p) hc7 (fun k hk => (HU.out.1.lt k hk).1)
        exact ⟨⟨k + 1, _, by omega, by go_num, by rw [Htk.out]; exact hL, hcf⟩, by simp [intOf]; omega⟩
      · obtain rfl : k = hist.length - m := by omega
        have hk1 : ¬ (((hist.length - m : Nat) : Int) < ((hist.length - m : Nat) : Int)) := by omega
        have hfin := HU.out.edss
        rw [List.take_of_length_le (by omega)] at hfin
        have Hfin := Lib.hid hfin
        clear hfin
        go_wp2_with fail
        go_ret2
        exact ⟨_, rfl, Hfin.out.wider2 fun k hk => ⟨by have := C1.out.size; omega, hk.2⟩, C1.out.trans Hc.out⟩
end Go.Proofs.Ytihpcpcfccamoaa
