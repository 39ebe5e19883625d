/- Derive's loop: what it keeps. -/
import Derived.Test.YtaciceaipmclgaaFxH
import Derived.Test.YtaciceaipmclgaaFxI
import Derived.Test.YtaciceaipmclgaaRound
namespace Go.Proofs.Ytaciceaipmclgaa
open Go.RowKit Go.Shelf
set_option linter.unusedVariables false
/-- the state: which sets are needed, the proof so far -/
structure BwS (N e M : Nat) (w3 : World) (nd : Nat → Bool) (acc : PS) (v : Value) (W : World) : Prop where
  box : Boxed W (M + 2) 41 v
  row : W.ownsRow (M + 4) 59 3 v acc.length (flatD e acc)
  nbx : Boxed W (M + 1) 61 (.slice (some ⟨M, 0, none⟩) N N)
  nrow : W.rowIs M 4 N (fun j => .bool (nd j))
  sz : M + 4 ≤ W.heap.size
  chg : Chg [] w3 W
def BwI (R : Rules) (e : Nat) (St : PS) (en M : Nat) (w3 : World) (pre : List (Bk en)) (W : World) : Prop :=
  ∃ nd acc v, BwS R.length e M w3 nd acc v W ∧ acc.length ≤ pre.length ∧ (pre = bkU en pre.length → BW R e St en nd (en + 1 - pre.length) acc)
/-- blocks of cells -/
def CellB (W : World) (S : List Nat) : Prop := ∀ k ∈ S, ∃ c t fr, W.heap[k]? = some (.cells c t fr)
theorem BwS.cells {N e M : Nat} {w3 : World} {nd : Nat → Bool} {acc : PS} {v : Value} {W : World} (h : BwS N e M w3 nd acc v W) : CellB W ([M, M + 2] ++ v.ownBlock.toList) := by
  intro k hk
  rw [List.mem_append] at hk
  rcases hk with hk | hk
  · simp only [List.mem_cons, List.not_mem_nil, or_false] at hk
    rcases hk with rfl | rfl
    · obtain ⟨c, hb, _⟩ := h.nrow
      exact ⟨_, _, _, hb⟩
    · exact ⟨_, _, _, h.box⟩
  · rcases h.row.2 with ⟨hv, _⟩ | ⟨g', cap', cur', hv, _, hgb, _⟩
    · rw [hv] at hk; simp [Value.ownBlock] at hk
    · rw [hv] at hk
      obtain rfl : g' = k := by simpa [Value.ownBlock, eq_comm] using hk
      exact ⟨_, _, _, hgb⟩
theorem keepsFrom_of_chg {B : Nat} {S : List Nat} {W W' : World} (hc : Chg S W W') (hS : CellB W S) : KeepsFrom B W W' :=
  ⟨hc.size, fun k o _ hk ho => by
    by_cases hkS : k ∈ S
    · obtain ⟨c, t, fr, hb⟩ := hS k hkS
      rw [hb] at hk; cases hk; cases ho
    · exact (hc.block k (lt_of_obj hk) hkS).trans hk⟩
theorem BwS.low {N e M : Nat} {w3 : World} {nd : Nat → Bool} {acc : PS} {v : Value} {W : World} (h : BwS N e M w3 nd acc v W) : ∀ g ∈ v.ownBlock.toList, M + 4 ≤ g := fun g hg => (ownsRow_lt h.row (by simpa using hg)).1
theorem BwS.keep2 {N e M ga : Nat} {w3 : World} {nd : Nat → Bool} {acc : PS} {v : Value} {W W' : World} (h : BwS N e M w3 nd acc v W) (hg : ga < M) (hc : Chg ([M, M + 2] ++ v.ownBlock.toList) W W') : Keep2 (M + 3) ga W W' := by
  have hn : ∀ k, k < M + 4 → k ≠ M → k ≠ M + 2 → k ∉ [M, M + 2] ++ v.ownBlock.toList := fun k h1 h2 h3 hk => by
    rw [List.mem_append] at hk
    rcases hk with hk | hk
    · simp only [List.mem_cons, List.not_mem_nil, or_false] at hk; omega
    · have := h.low k hk; omega
  have hs := h.sz
  exact ⟨hc.block _ (by omega) (hn _ (by omega) (by omega) (by omega)), hc.block _ (by omega) (hn _ (by omega) (by omega) (by omega))⟩
theorem BwI.own (R : Rules) (e : Nat) (St : PS) (en M : Nat) (w3 : World) (D : Nat) (hD : w3.heap.size ≤ D) : OwnFrom D (BwI R e St en M w3) := by
  rintro pre A A' row ⟨nd, acc, v, hs, h2, h3⟩ hg hr
  have hnc : ∀ {b : Nat} {c : Array Value} {t : TypeId} {fr : Nat × Nat}, A.heap[b]? = some (.cells c t fr) → some b ≠ row := fun hb e => by
    obtain ⟨_, o, ho, hc⟩ := hr _ e.symm
    rw [hb] at ho; cases ho; cases hc
  obtain ⟨c, hb, hcr⟩ := hs.nrow
  refine ⟨nd, acc, v, ⟨hs.box.kept hg (hnc hs.box), hs.row.kept hg ?_, hs.nbx.kept hg (hnc hs.nbx), hs.nrow.of_block (hg.block M hs.nrow.lt (hnc hb)), Nat.le_trans hs.sz hg.size, hs.chg.grown hg (fun k e => Or.inr (by have := (hr k e).1; omega))⟩, h2, h3⟩
  rcases hs.row.2 with ⟨rfl, _⟩ | ⟨g, cap, cur, rfl, _, hgb, _⟩
  · exact .inl rfl
  · refine .inr fun e' => ?_
    obtain ⟨_, o, ho, hc⟩ := hr g (by simpa [Value.ownBlock] using e'.symm)
    rw [hgb] at ho; cases ho; cases hc
/-- a world in which only new blocks have come -/
theorem BwS.kept {N e M : Nat} {w3 : World} {nd : Nat → Bool} {acc : PS} {v : Value} {W W' : World} (h : BwS N e M w3 nd acc v W) (hc : Chg [] W W') : BwS N e M w3 nd acc v W' :=
  ⟨(hc.block _ h.box.lt (by simp)).trans h.box, ownsRow_block h.row fun g hg hl => hc.block g hl (by simp), (hc.block _ h.nbx.lt (by simp)).trans h.nbx, h.nrow.of_block (hc.block M h.nrow.lt (by simp)), Nat.le_trans h.sz hc.size, h.chg.trans hc⟩
/-- one more set is needed -/
theorem BwS.mark {N e M : Nat} {w3 : World} {nd : Nat → Bool} {acc : PS} {v : Value} {W : World} (h : BwS N e M w3 nd acc v W) (hM : w3.heap.size ≤ M) (d : Nat) (nd' : Nat → Bool) (hnd : ∀ j, nd' j = if j = d then true else nd j) : BwS N e M w3 nd' acc v (W.setCell ⟨M, d, none⟩ (.bool true)) := by
  have hc : Chg [M] W (W.setCell ⟨M, d, none⟩ (.bool true)) := (Chg.refl _ _).setCell (Or.inl (by simp)) _
  refine ⟨(hc.block _ h.box.lt (by simp)).trans h.box, ownsRow_block h.row fun g hg hl => hc.block g hl (fun hm => by have := h.low g (by simp [hg]); simp at hm; omega), (hc.block _ h.nbx.lt (by simp)).trans h.nbx, (h.nrow.set d (.bool true)).congr fun j hj => ?_, Nat.le_trans h.sz hc.size, h.chg.setCell (Or.inr hM) _⟩
  rw [hnd]
  by_cases hj : j = d
  · rw [if_pos hj, if_pos hj]
  · rw [if_neg hj, if_neg hj]
/-- one more step in the proof -/
theorem BwS.push {N e M : Nat} {w3 : World} {nd : Nat → Bool} {acc : PS} {v v' : Value} {W w4 : World} {o : Obj} (h : BwS N e M w3 nd acc v W) (hM : w3.heap.size ≤ M) (s : Nat × Nat)
    (hown : w4.ownsRow (M + 4) 59 3 v' (acc.length + 1) (flatD e acc ++ [nv s.1, nv s.2, nv e])) (hgr : (W.alloc o).grownBy w4 v.ownBlock) :
    Boxed w4 (M + 2) 41 v ∧ BwS N e M w3 nd (acc ++ [s]) v' (w4.setCell ⟨M + 2, 0, none⟩ v') ∧ Chg ([M, M + 2] ++ v.ownBlock.toList) W (w4.setCell ⟨M + 2, 0, none⟩ v') := by
  have h1 : Chg v.ownBlock.toList W w4 := ((Chg.refl _ W).alloc o).grown hgr (fun k e => Or.inl (by simp [e]))
  have hlow := h.low
  have hB4 : Boxed w4 (M + 2) 41 v := (h1.block _ h.box.lt (fun hm => by have := hlow _ hm; omega)).trans h.box
  have hN4 : Boxed w4 (M + 1) 61 (.slice (some ⟨M, 0, none⟩) N N) := (h1.block _ h.nbx.lt (fun hm => by have := hlow _ hm; omega)).trans h.nbx
  have hr4 := h.nrow.of_block (h1.block M h.nrow.lt (fun hm => by have := hlow _ hm; omega))
  have h2 : Chg [M + 2] w4 (w4.setCell ⟨M + 2, 0, none⟩ v') := (Chg.refl _ _).setCell (Or.inl (by simp)) _
  refine ⟨hB4, ⟨hB4.set _, ?_, (h2.block _ hN4.lt (by simp)).trans hN4, hr4.of_block (h2.block M hr4.lt (by simp)), ?_, ?_⟩, ?_⟩
  · rw [List.length_append, flatD_append]
    exact ownsRow_block hown fun g' hg' hl => h2.block g' hl (fun hm => by have := (ownsRow_lt hown hg').1; simp at hm; omega)
  · have := h.sz; have := h1.size; have := h2.size; omega
  · exact (h.chg.comp h1 (fun k hk => Or.inr (by have := hlow k hk; omega))).setCell (Or.inr (by show w3.heap.size ≤ M + 2; omega)) _
  · exact ((Chg.refl _ W).comp h1 (fun k hk => Or.inl (by simp at hk ⊢; exact .inr (.inr hk)))).setCell (Or.inl (by simp)) _
/-- behind a round -/
theorem BwI.skip {R : Rules} {e : Nat} {St : PS} {en M : Nat} {w3 : World} {pre : List (Bk en)} {x : Bk en} {nd : Nat → Bool} {acc : PS} {v : Value} {W : World} (hs : BwS R.length e M w3 nd acc v W) (hl : acc.length ≤ pre.length) (hlt : pre.length < en + 1) (hen : en < St.length)
    (hb : pre = bkU en pre.length → BW R e St en nd (en + 1 - pre.length) acc) (hn : nd (St.getD x.1 dPS).1 = false) : BwI R e St en M w3 (pre ++ [x]) W := by
  refine ⟨nd, acc, v, hs, by rw [List.length_append]; omega, fun hp => ?_⟩
  rw [List.length_append, List.length_singleton, bkU_succ] at hp
  obtain ⟨h1, h2⟩ := List.append_inj' hp rfl
  simp only [List.cons.injEq, and_true] at h2
  subst h2
  rw [List.length_append, List.length_singleton]
  have hb' := hb h1
  rw [show en + 1 - pre.length = (en - pre.length) + 1 by omega] at hb'
  have hx : (bkAt en pre.length).1 = en - pre.length := rfl
  rw [hx] at hn
  rw [show en + 1 - (pre.length + 1) = en - pre.length by omega]
  exact hb'.skip (by omega) hn
theorem BwI.take {R : Rules} {e : Nat} {St : PS} {en M : Nat} {w3 : World} {pre : List (Bk en)} {x : Bk en} {nd nd' : Nat → Bool} {acc : PS} {v : Value} {W : World} (hs : BwS R.length e M w3 nd' (acc ++ [St.getD x.1 dPS]) v W) (hl : acc.length ≤ pre.length) (hlt : pre.length < en + 1) (hen : en < St.length) (hok : ValidP R e St)
    (hb : pre = bkU en pre.length → BW R e St en nd (en + 1 - pre.length) acc) (hnd : ∀ d, nd' d = (nd d || (ruleAt R (St.getD x.1 dPS)).2.any fun y => y.toNat == d)) : BwI R e St en M w3 (pre ++ [x]) W := by
  refine ⟨nd', _, v, hs, by rw [List.length_append, List.length_append]; simp; omega, fun hp => ?_⟩
  rw [List.length_append, List.length_singleton, bkU_succ] at hp
  obtain ⟨h1, h2⟩ := List.append_inj' hp rfl
  simp only [List.cons.injEq, and_true] at h2
  subst h2
  rw [List.length_append, List.length_singleton]
  have hb' := hb h1
  rw [show en + 1 - pre.length = (en - pre.length) + 1 by omega] at hb'
  have hx : (bkAt en pre.length).1 = en - pre.length := rfl
  rw [hx] at hnd
  rw [hx, show en + 1 - (pre.length + 1) = en - pre.length by omega]
  exact hb'.take (by omega) hok hnd
/-- the round's variable lies in its box gd, apart from the proof -/
def GBox (e : Nat) (St : PS) (en M : Nat) (x : Bk en) (gd : Nat) (W : World) : Prop :=
  W.heap[gd]? = some (.cells #[.int .i64 ((St.getD x.1 dPS).1 : Int), .int .i64 ((St.getD x.1 dPS).2 : Int), .int .i64 (e : Int)] 59 (0, 0)) ∧ M + 4 ≤ gd ∧ ∃ v, Boxed W (M + 2) 41 v ∧ v.ownBlock ≠ some gd
theorem GBox.own (e : Nat) (St : PS) (en M : Nat) (x : Bk en) (gd D : Nat) : OwnFrom D (fun (_ : Unit) W => GBox e St en M x gd W) := by
  rintro _ A A' row ⟨h1, h2, v, h3, h4⟩ hg hr
  have hnc : ∀ {b : Nat} {c : Array Value} {t : TypeId} {fr : Nat × Nat}, A.heap[b]? = some (.cells c t fr) → some b ≠ row := fun hb e => by
    obtain ⟨_, o, ho, hc⟩ := hr _ e.symm
    rw [hb] at ho; cases ho; cases hc
  exact ⟨(hg.block gd (lt_of_obj h1) (hnc h1)).trans h1, h2, v, h3.kept hg (hnc h3), h4⟩
/-- the loop's start -/
def startW (N st ga oa en caps : Nat) (w3 : World) : World :=
  (((w3.alloc (.cells ((madeCells #[.bool false] N).setIfInBounds st (.bool true)) 4)).alloc (.cells #[.slice (some ⟨w3.heap.size, 0, none⟩) N N] 61)).alloc (.cells #[.slice none 0 0] 41)).alloc (.cells #[.slice (some ⟨ga, oa, none⟩) (en + 1) caps] 41)
theorem BwS.start (N e st ga oa en caps : Nat) (w3 : World) (hst : st < N) :
    BwS N e w3.heap.size w3 (fun j => j == st) [] (.slice none 0 0) (startW N st ga oa en caps w3) ∧ Boxed (startW N st ga oa en caps w3) (w3.heap.size + 3) 41 (.slice (some ⟨ga, oa, none⟩) (en + 1) caps) ∧ (startW N st ga oa en caps w3).heap.size = w3.heap.size + 4 := by
  unfold startW
  have hc : Chg [] w3 ((((w3.alloc (.cells ((madeCells #[.bool false] N).setIfInBounds st (.bool true)) 4)).alloc (.cells #[.slice (some ⟨w3.heap.size, 0, none⟩) N N] 61)).alloc (.cells #[.slice none 0 0] 41)).alloc (.cells #[.slice (some ⟨ga, oa, none⟩) (en + 1) caps] 41)) := ((((Chg.refl [] w3).alloc _).alloc _).alloc _).alloc _
  have h1 : (w3.alloc (.cells ((madeCells #[.bool false] N).setIfInBounds st (.bool true)) 4)).rowIs w3.heap.size 4 N (fun j => .bool (j == st)) := by
    have := World.rowIs_alloc w3 ((madeCells #[.bool false] N).setIfInBounds st (.bool true)) 4 (fun j => .bool (j == st)) (fun i hi => by
      have hi' : i < N := by simpa [madeCells] using hi
      rw [Array.getElem?_setIfInBounds]
      by_cases h : st = i
      · subst h
        rw [if_pos rfl, if_pos (by simpa [madeCells] using hi')]
        simp
      · rw [if_neg h, madeCells_get _ _ rfl N i hi', beq_false_of_ne (fun e => h e.symm)])
    have hsz : ((madeCells #[.bool false] N).setIfInBounds st (.bool true)).size = N := by simp [madeCells]
    rwa [hsz] at this
  have b1 : Boxed ((w3.alloc (.cells ((madeCells #[.bool false] N).setIfInBounds st (.bool true)) 4)).alloc (.cells #[.slice (some ⟨w3.heap.size, 0, none⟩) N N] 61)) (w3.heap.size + 1) 61 (.slice (some ⟨w3.heap.size, 0, none⟩) N N) := by
    have := Boxed.new (w3.alloc (.cells ((madeCells #[.bool false] N).setIfInBounds st (.bool true)) 4)) 61 (.slice (some ⟨w3.heap.size, 0, none⟩) N N); rw [World.size_alloc] at this; exact this
  have b2 : Boxed (((w3.alloc (.cells ((madeCells #[.bool false] N).setIfInBounds st (.bool true)) 4)).alloc (.cells #[.slice (some ⟨w3.heap.size, 0, none⟩) N N] 61)).alloc (.cells #[.slice none 0 0] 41)) (w3.heap.size + 2) 41 (.slice none 0 0) := by
    have := Boxed.new ((w3.alloc (.cells ((madeCells #[.bool false] N).setIfInBounds st (.bool true)) 4)).alloc (.cells #[.slice (some ⟨w3.heap.size, 0, none⟩) N N] 61)) 41 (.slice none 0 0); simp only [World.size_alloc] at this; exact this
  have b3 := Boxed.new (((w3.alloc (.cells ((madeCells #[.bool false] N).setIfInBounds st (.bool true)) 4)).alloc (.cells #[.slice (some ⟨w3.heap.size, 0, none⟩) N N] 61)).alloc (.cells #[.slice none 0 0] 41)) 41 (.slice (some ⟨ga, oa, none⟩) (en + 1) caps)
  simp only [World.size_alloc] at b3
  exact ⟨⟨b2.alloc _, World.ownsRow_nil _ _ _ _, (b1.alloc _).alloc _, ((h1.alloc _).alloc _).alloc _, by simp, hc⟩, b3, by simp⟩
/-- a range over a function whose rounds have a variable in a box -/
theorem wpIn_range_boxed {F : Fence} {n : Nat} {P : Program} {α : Type} {g : Operand} {ps : Array Tmp} {assign body : Code} {Q : Exit → Act → World → Prop} {T : Array Value} {w : World}
    (hro : F.round = none) (h1 : 1 ≤ n) {gf : Nat} {lb : Array Value} (hg : ({ tmps := T, defers := [] } : Act).eval g = .func (.func gf) #[] lb) (hFg : F.fn gf) (eg : ∀ args w, (callFunc gf args).run P w = .ok (.enter gf args) w)
    {encs : α → Array Value} {Kp : World → World → Prop} {S Sp : List α → Prop} {N : Nat} {w0 : World} (hseq : SeqStopsK F (n - 1) P gf lb encs Kp S Sp N w0)
    (hKt : ∀ {A B C : World}, Kp A B → Kp B C → Kp A C) (hKb : ∀ (W : World) (l : Nat) (o o' : Obj), w.heap.size ≤ l → W.heap[l]? = some o → o.isCells = false → o.isWalk = false → Kp W (W.putObj l o')) (hb0 : Below w0.heap.size w0 w) (hps : ∀ x, (encs x).size = ps.size)
    (I : List α → World → Prop) (Ix : Code → List α → World → Prop) (hI : OwnFrom w.heap.size I) (hIx : ∀ c, OwnFrom w.heap.size (Ix c)) (h0 : I [] w) (A : α → Nat → Array Value → Array Value) (G : α → Nat → World → Prop) (hG : ∀ x gd, OwnFrom w.heap.size (fun (_ : Unit) W => G x gd W))
    (hassign : ∀ (l : Nat) (pre : List α) (x : α) (W : World) (K : Act → World → Prop), I pre W → (∀ gd W', KeepsFrom w.heap.size W W' → Kp W W' → I pre W' → G x gd W' → K { tmps := A x gd T, defers := [] } W') →
      assign.wpIn (F.inRound l) (n - 1 - 1) P (Exit.then K (fun _ _ _ => False)) { tmps := (ps.zip (encs x)).foldl (fun t (p, v) => t.setIfInBounds p v) T, defers := [] } W)
    (hbody : ∀ (l : Nat) (pre : List α) (x : α) (gd : Nat) (W : World), I pre W → G x gd W → pre.length < N → body.wpIn (F.inRound l) (n - 1 - 1) P (ownPostG w.heap.size Kp I Ix (pre ++ [x]) W) { tmps := A x gd T, defers := [] } W)
    (hdone : ∀ (D : Nat) (xs : List α) (W : World), w.heap.size ≤ D → S xs → I xs W → W.heap[D]? = some (.deferred (some [])) → Q .normal { tmps := T, defers := [{ target := .collected D, args := #[] }] } W)
    (hstop : ∀ (D : Nat) (c : Code) (pre : List α) (W : World), w.heap.size ≤ D → Sp pre → Ix c pre W → W.heap[D]? = some (.deferred (some [])) → c.wpIn F n P Q { tmps := T, defers := [{ target := .collected D, args := #[] }] } W) :
    (Code.rangeFunc g ps assign body).wpIn F n P Q { tmps := T, defers := [] } w :=
  wpIn_rangeFunc_ownH hro h1 hg hFg eg hseq (fun h k => hKt h k) hKb hb0 hps I Ix hI hIx h0 (fun x a' W => ∃ gd, a' = { tmps := A x gd T, defers := [] } ∧ G x gd W)
    (fun x a' u W W' row hs hgr hr => by obtain ⟨gd, ha, hs⟩ := hs; exact ⟨gd, ha, hG x gd u W W' row hs hgr hr⟩)
    (fun l pre x W K hi hK => hassign l pre x W K hi fun gd W' k1 k2 k3 k4 => hK _ _ k1 k2 k3 ⟨gd, rfl, k4⟩)
    (fun l pre x a' W _ _ hi ha hlt => by obtain ⟨gd, rfl, hs⟩ := ha; exact hbody l pre x gd W hi hs hlt) hdone hstop
end Go.Proofs.Ytaciceaipmclgaa
