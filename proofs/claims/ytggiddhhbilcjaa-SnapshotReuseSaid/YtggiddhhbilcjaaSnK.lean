/- change: what it does to the history, plainly and in memory. -/
import Derived.Test.YtggiddhhbilcjaaSnH
namespace Go.Proofs.Ytggiddhhbilcjaa.Sn
open Go.RowKit Go.ChangeMaps Go.MapKept
set_option linter.unusedVariables false
set_option linter.unusedSimpArgs false
/-! ### plain -/
def cutP (L : Int) (k : QK) (r : RR) : RR := if r.last = fev ∧ k ∈ r.ins then { r with last := L - 1 } else r
def chgP (s : HS) (k : QK) (xs : List Int) : HS :=
  if (s.inp k s.lat).1 = xs then s else { s with vers := upd s.vers k (s.vers k ++ [(s.lat, xs)]), res := fun x => (s.res x).map (cutP s.lat k) }
/-! ### in memory: some results are done -/
def cutB (L : Int) (k : QK) (D : List Nat) (r : Rs) : Rs := if r.blk ∈ D ∧ r.last = fev ∧ k ∈ r.ins then { r with last := L - 1 } else r
theorem cutB_blk (L : Int) (k : QK) (D : List Nat) (r : Rs) : (cutB L k D r).blk = r.blk := by unfold cutB; split <;> rfl
theorem cutB_val (L : Int) (k : QK) (D : List Nat) (r : Rs) : (cutB L k D r).val = r.val := by unfold Rs.val; rw [cutB_blk]
theorem cutB_imm (L : Int) (k : QK) (D : List Nat) (r : Rs) : (cutB L k D r).a = r.a ∧ (cutB L k D r).iv = r.iv ∧ (cutB L k D r).ins = r.ins ∧ (cutB L k D r).first = r.first ∧ (cutB L k D r).xs = r.xs ∧ (cutB L k D r).cap = r.cap := by unfold cutB; split <;> exact ⟨rfl, rfl, rfl, rfl, rfl, rfl⟩
theorem cutB_nil (L : Int) (k : QK) (r : Rs) : cutB L k [] r = r := by unfold cutB; simp
theorem cutB_all {L : Int} {k : QK} {D : List Nat} {r : Rs} (h : r.blk ∈ D) : (cutB L k D r).pl = cutP L k r.pl := by
  unfold cutB cutP Rs.pl
  by_cases hc : r.last = fev ∧ k ∈ r.ins
  · rw [if_pos ⟨h, hc⟩, if_pos hc]
  · rw [if_neg (fun e => hc e.2), if_neg hc]
def gMap {α : Type} (f : α → α) (L : GLg α) : GLg α := L.map fun p => (p.1, p.2.1, p.2.2.map f)
section
variable {α : Type} (f : α → α) (L : GLg α)
theorem gMap_aget (x : QK) : aget (gMap f L) x = (aget L x).map fun p => (p.1, p.2.map f) := by
  unfold gMap
  induction L with
  | nil => rfl
  | cons p L ih =>
    simp only [List.map_cons, aget_cons]
    split
    · rfl
    · exact ih
theorem gMap_V (x : QK) : gV (gMap f L) x = gV L x := by
  unfold gV
  rw [gMap_aget]
  cases aget L x <;> rfl
theorem gMap_L (x : QK) : gL (gMap f L) x = (gL L x).map f := by
  unfold gL
  rw [gMap_aget]
  cases aget L x <;> rfl
theorem gMap_E : gE (gMap f L) = gE L := by unfold gE gMap; simp
end
def Hm.cut (d : Hm) (L : Int) (k : QK) (D : List Nat) : Hm := { d with RL := gMap (cutB L k D) d.RL }
theorem Hm.cut_nil (d : Hm) (L : Int) (k : QK) : d.cut L k [] = d := by
  unfold Hm.cut gMap
  have : ∀ l : List Rs, l.map (cutB L k []) = l := fun l => by
    conv => rhs; rw [← List.map_id l]
    exact List.map_congr_left fun r _ => cutB_nil L k r
  have h2 : d.RL.map (fun p => (p.1, p.2.1, p.2.2.map (cutB L k []))) = d.RL := by
    conv => rhs; rw [← List.map_id d.RL]
    exact List.map_congr_left fun p _ => by rw [this]; rfl
  rw [h2]
theorem encR_cut (L : Int) (k : QK) (D : List Nat) (l : List Rs) : encR (l.map (cutB L k D)) = encR l := by
  unfold encR
  rw [List.map_map]
  exact List.map_congr_left fun r _ => cutB_val L k D r
theorem Hm.cut_M (d : Hm) (L : Int) (k : QK) (D : List Nat) (g : Nat) : (d.cut L k D).M g ↔ d.M g := by
  unfold Hm.M Hm.cut
  simp only [gMap_V, gMap_L]
  constructor
  · rintro (h | h | h | h | h | ⟨x, r, hr, h⟩)
    · exact Or.inl h
    · exact Or.inr (Or.inl h)
    · exact Or.inr (Or.inr (Or.inl h))
    · exact Or.inr (Or.inr (Or.inr (Or.inl h)))
    · exact Or.inr (Or.inr (Or.inr (Or.inr (Or.inl h))))
    · obtain ⟨r', hr', rfl⟩ := List.mem_map.1 hr
      rw [cutB_blk] at h
      exact Or.inr (Or.inr (Or.inr (Or.inr (Or.inr ⟨x, r', hr', h⟩))))
  · rintro (h | h | h | h | h | ⟨x, r, hr, h⟩)
    · exact Or.inl h
    · exact Or.inr (Or.inl h)
    · exact Or.inr (Or.inr (Or.inl h))
    · exact Or.inr (Or.inr (Or.inr (Or.inl h)))
    · exact Or.inr (Or.inr (Or.inr (Or.inr (Or.inl h))))
    · exact Or.inr (Or.inr (Or.inr (Or.inr (Or.inr ⟨x, _, List.mem_map.2 ⟨r, hr, rfl⟩, by rw [cutB_blk]; exact h⟩))))
theorem Hm.cut_I (d : Hm) (L : Int) (k : QK) (D : List Nat) (g : Nat) : (d.cut L k D).I g ↔ d.I g := by
  unfold Hm.I Hm.cut
  simp only [gMap_L]
  constructor
  · rintro (h | ⟨x, r, hr, h⟩)
    · exact Or.inl h
    · obtain ⟨r', hr', rfl⟩ := List.mem_map.1 hr
      rw [(cutB_imm L k D r').1, (cutB_imm L k D r').2.1] at h
      exact Or.inr ⟨x, r', hr', h⟩
  · rintro (h | ⟨x, r, hr, h⟩)
    · exact Or.inl h
    · exact Or.inr ⟨x, _, List.mem_map.2 ⟨r, hr, rfl⟩, by rw [(cutB_imm L k D r).1, (cutB_imm L k D r).2.1]; exact h⟩
/-- the same results by the same blocks -/
theorem HmAt.same_blk {w : World} {d : Hm} {L : Int} {k : QK} {D : List Nat} (h : HmAt w (d.cut L k D)) {x y : QK} {r r' : Rs} (hr : r ∈ gL d.RL x) (hr' : r' ∈ gL d.RL y) (he : r.blk = r'.blk) : r = r' := by
  obtain ⟨i, hi, rfl⟩ := List.getElem_of_mem hr
  obtain ⟨j, hj, rfl⟩ := List.getElem_of_mem hr'
  have h1 : (gL (d.cut L k D).RL x)[i]? = some (cutB L k D (gL d.RL x)[i]) := by unfold Hm.cut; simp only [gMap_L]; simp [hi]
  have h2 : (gL (d.cut L k D).RL y)[j]? = some (cutB L k D (gL d.RL y)[j]) := by unfold Hm.cut; simp only [gMap_L]; simp [hj]
  obtain ⟨rfl, rfl⟩ := h.inj x y i j _ _ h1 h2 (by rw [cutB_blk, cutB_blk]; exact he)
  rfl
theorem gMap_congr {α : Type} {f g : α → α} {L : GLg α} (h : ∀ p ∈ L, ∀ r ∈ p.2.2, f r = g r) : gMap f L = gMap g L := by
  unfold gMap
  exact List.map_congr_left fun p hp => by rw [List.map_congr_left (h p hp)]
theorem mem_gL {α : Type} {L : GLg α} (hd : (L.map (·.1)).Nodup) {p : QK × Value × List α} (hp : p ∈ L) {r : α} (hr : r ∈ p.2.2) : r ∈ gL L p.1 := by
  unfold gL
  rw [aget_of_mem hd (x := p.1) (v := p.2) (by exact hp)]
  exact hr
theorem HmAt.keys {w : World} {d : Hm} (h : HmAt w d) : (d.RL.map (·.1)).Nodup := by
  have := h.R.mp.nodup
  unfold gE at this
  rw [List.map_map] at this
  exact this
/-- a result that need not be cut is done -/
theorem HmAt.cut_skip {w : World} {d : Hm} {L : Int} {k : QK} {D : List Nat} (h : HmAt w (d.cut L k D)) {x : QK} {r : Rs} (hr : r ∈ gL d.RL x) (hn : ¬ ((cutB L k D r).last = fev ∧ k ∈ r.ins)) : HmAt w (d.cut L k (r.blk :: D)) := by
  have hkeys : (d.RL.map (·.1)).Nodup := by
    have := h.keys
    unfold Hm.cut gMap at this
    rw [List.map_map] at this
    exact this
  have e : d.cut L k (r.blk :: D) = d.cut L k D := by
    unfold Hm.cut
    rw [gMap_congr (f := cutB L k (r.blk :: D)) (g := cutB L k D)]
    intro p hp r' hr'
    have hm := mem_gL hkeys hp hr'
    unfold cutB
    by_cases hb : r'.blk = r.blk
    · obtain rfl := h.same_blk hm hr hb
      by_cases hD : r'.blk ∈ D
      · simp [hD]
      · have hc : ¬ (r'.last = fev ∧ k ∈ r'.ins) := fun e => hn (by unfold cutB; rw [if_neg (fun x => hD x.1)]; exact e)
        rw [if_neg (fun e => hc e.2), if_neg (fun e => hc e.2)]
    · simp [hb]
  rw [e]
  exact h
/-- a result is cut -/
theorem HmAt.cut_set {w : World} {d : Hm} {L : Int} {k : QK} {D : List Nat} (h : HmAt w (d.cut L k D)) (hL : L - 1 ≠ fev) {x : QK} {r : Rs} (hr : r ∈ gL d.RL x) (hn : (cutB L k D r).last = fev ∧ k ∈ r.ins) :
    HmAt (w.setCell ⟨r.blk, 1, none⟩ (.int .i64 (L - 1))) (d.cut L k (r.blk :: D)) ∧ ChgP (fun g => g = r.blk) w (w.setCell ⟨r.blk, 1, none⟩ (.int .i64 (L - 1))) := by
  have hc : ChgP (fun g => g = r.blk) w (w.setCell ⟨r.blk, 1, none⟩ (.int .i64 (L - 1))) := (ChgP.refl (fun g => g = r.blk) w).setCell (p := ⟨r.blk, 1, none⟩) (Or.inl rfl) _
  have hrD : r.blk ∉ D := fun hD => by
    have := hn.1
    unfold cutB at this
    by_cases hc : r.last = fev ∧ k ∈ r.ins
    · rw [if_pos ⟨hD, hc⟩] at this
      exact hL this
    · rw [if_neg (fun e => hc e.2)] at this
      exact hc ⟨this, hn.2⟩
  have hr0 : cutB L k D r = r := by unfold cutB; rw [if_neg (fun e => hrD e.1)]
  rw [hr0] at hn
  have hr1 : cutB L k (r.blk :: D) r = { r with last := L - 1 } := by unfold cutB; rw [if_pos ⟨by simp, hn⟩]
  have hmem : ∀ {D' : List Nat} {y : QK} {r' : Rs}, r' ∈ gL d.RL y → cutB L k D' r' ∈ gL (d.cut L k D').RL y := fun {D' y r'} h => by
    unfold Hm.cut
    simp only [gMap_L]
    exact List.mem_map.2 ⟨r', h, rfl⟩
  have hra := h.each x _ (hmem hr)
  rw [hr0] at hra
  have hty : ∀ g t, t ≠ some 93 → tyAt w g = some t → ¬ g = r.blk := fun g t ht hg e => by
    rw [e, tyAt_cells hra.blk] at hg
    cases hg
    exact ht rfl
  have hI : ∀ g, (tyAt w g = some (some 3) ∨ tyAt w g = some (some 43)) → (w.setCell ⟨r.blk, 1, none⟩ (.int .i64 (L - 1))).heap[g]? = w.heap[g]? := by
    rintro g (e | e)
    · exact hc.block g (tyAt_lt e) (hty g _ (by decide) e)
    · exact hc.block g (tyAt_lt e) (hty g _ (by decide) e)
  have hkeys : (d.RL.map (·.1)).Nodup := by
    have := h.keys
    unfold Hm.cut gMap at this
    rw [List.map_map] at this
    exact this
  refine ⟨⟨(hc.block _ (lt_of_obj h.box) (hty _ _ (by decide) (tyAt_cells h.box))).trans h.box, h.V.kept hc (hty _ _ (by simp) (tyAt_map h.V.mp)) fun y g hg => hty g _ (by decide) (tyAt_own (h.V.row y) hg), ?_, fun y e he => ⟨intsKept' (h.vn y e he).1 fun g hg => hI g (Or.inl (tyAt_ints (h.vn y e he).1 hg)), (h.vn y e he).2⟩, fun y r' hr' => ?_, ?_, h.ne⟩, hc⟩
  · have hR := h.R.kept hc (hty _ _ (by simp) (tyAt_map h.R.mp)) fun y g hg => hty g _ (by decide) (tyAt_own (h.R.row y) hg)
    refine ⟨?_, fun y => ?_, fun y z hyz => ?_⟩
    · have := hR.mp
      unfold Hm.cut at this ⊢
      simp only [gMap_E] at this ⊢
      exact this
    · have := hR.row y
      unfold Hm.cut at this ⊢
      simp only [gMap_V, gMap_L, List.length_map, encR_cut] at this ⊢
      exact this
    · have := hR.dj y z hyz
      unfold Hm.cut at this ⊢
      simp only [gMap_V] at this ⊢
      exact this
  · unfold Hm.cut at hr'
    simp only [gMap_L] at hr'
    obtain ⟨r0, hr0m, rfl⟩ := List.mem_map.1 hr'
    by_cases hb : r0.blk = r.blk
    · obtain rfl := h.same_blk hr0m hr hb
      rw [hr1]
      exact ⟨(heap_setCell_same hra.blk _).trans (by simp only; rfl), intsKept' hra.nums fun g hg => hI g (Or.inl (tyAt_ints hra.nums hg)), hra.size, ownsRow_kept hra.ins fun g hg hl => hI g (Or.inr (tyAt_own hra.ins hg))⟩
    · have e : cutB L k (r.blk :: D) r0 = cutB L k D r0 := by unfold cutB; simp [hb]
      rw [e]
      have h0 := h.each y _ (hmem hr0m)
      exact h0.kept (hc.block _ (lt_of_obj h0.blk) (by rw [cutB_blk]; exact hb)) (fun g hg => hI g (Or.inl (tyAt_ints h0.nums hg))) fun g hg => hI g (Or.inr (tyAt_own h0.ins hg))
  · intro y z i j r1 r2 h1 h2 he
    unfold Hm.cut at h1 h2
    simp only [gMap_L, List.getElem?_map, Option.map_eq_some_iff] at h1 h2
    obtain ⟨s1, h1, rfl⟩ := h1
    obtain ⟨s2, h2, rfl⟩ := h2
    rw [cutB_blk, cutB_blk] at he
    refine h.inj y z i j (cutB L k D s1) (cutB L k D s2) ?_ ?_ (by rw [cutB_blk, cutB_blk]; exact he)
    · unfold Hm.cut; simp only [gMap_L, List.getElem?_map, h1]; rfl
    · unfold Hm.cut; simp only [gMap_L, List.getElem?_map, h2]; rfl
end Go.Proofs.Ytggiddhhbilcjaa.Sn
