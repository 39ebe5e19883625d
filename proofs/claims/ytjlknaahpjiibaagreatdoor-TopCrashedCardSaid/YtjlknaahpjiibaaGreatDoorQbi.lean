/- Part of the proof of topCrashedLaw_holds. -/
import Derived.Test.YtjlknaahpjiibaaGreatDoorQbh
namespace Go.Proofs.YtjlknaahpjiibaaGreatDoor.Jv
open List (getElem_toArray getElem_cons_zero getElem_cons_succ setIfInBounds_toArray set_cons_zero set_cons_succ)
open Go.RowKit Go.ChangeMaps Go.MapKept
set_option linter.unusedVariables false
set_option linter.unusedSimpArgs false
theorem fieldN (e : Ev) (W : World) : (Instr.field 59 (.agg #[.int .i64 e.k, .int .i64 e.n, .string e.t, .slice e.na e.nl e.nc, .slice e.ia e.il e.ic]) 1).run Tryz.prog W = .ok (.int .i64 e.n) W := by kernel_rfl
theorem fieldT (e : Ev) (W : World) : (Instr.field 59 (.agg #[.int .i64 e.k, .int .i64 e.n, .string e.t, .slice e.na e.nl e.nc, .slice e.ia e.il e.ic]) 2).run Tryz.prog W = .ok (.string e.t) W := by kernel_rfl
def GD (x y : Nat) (listed : Array Bool) (u : Nat → Value) (_ : World) : Prop := listed.getD x false = true → listed.getD y false = true → u x ≠ u y
theorem GD.other {x y i : Nat} {listed : Array Bool} {u : Nat → Value} {W : World} (h : GD x y listed u W) (hx : i ≠ x) (hy : i ≠ y) (v : Value) (W' : World) : GD x y (listed.setIfInBounds i true) (updV u i v) W' := fun h1 h2 => by
 rw [getD_set_ne false hx] at h1
 rw [getD_set_ne false hy] at h2
 rw [updV_ne u v (Ne.symm hx), updV_ne u v (Ne.symm hy)]
 exact h h1 h2
theorem GD.start (x y m : Nat) (u : Nat → Value) (W : World) : GD x y (Array.replicate m false) u W := fun h1 _ => by
 by_cases hx : x < m <;> simp [Array.getD, hx] at h1
def GA (B f : Nat) (jm : J) (m : Nat) (az : List Nat) (listed : Array Bool) (u : Nat → Value) (W : World) : Prop := listed.getD m false = true → JV (fun b => (B ≤ b ∧ b < W.heap.size) ∧ ∀ a ∈ az, listed.getD a false = true → u a ≠ .pointer (some ⟨b, 0, none⟩)) f W (u m) jm
section
variable {B f m i : Nat} {jm : J} {az : List Nat} {listed : Array Bool} {u : Nat → Value} {W W' : World}
theorem GA.other (h : GA B f jm m az listed u W) (hc : Chg [] W W') (hm : i ≠ m) (ha : i ∉ az) (v : Value) : GA B f jm m az (listed.setIfInBounds i true) (updV u i v) W' := fun h1 => by
 rw [getD_set_ne false hm] at h1
 rw [updV_ne u v (Ne.symm hm)]
 refine ((h h1).chg hc).imp fun b hb => ⟨⟨hb.1.1, Nat.lt_of_lt_of_le hb.1.2 hc.size⟩, fun a hax hl => ?_⟩
 have hia : i ≠ a := fun e => ha (by rw [e]; exact hax)
 rw [getD_set_ne false hia] at hl
 rw [updV_ne u v (Ne.symm hia)]
 exact hb.2 a hax hl
theorem GA.mem {v : Value} (hv : JN W.heap.size f W' v jm) (hB : B ≤ W.heap.size) (hma : m ∉ az) (ha : ∀ a ∈ az, listed.getD a false = true → ∃ g, u a = .pointer (some ⟨g, 0, none⟩) ∧ g < W.heap.size) : GA B f jm m az (listed.setIfInBounds m true) (updV u m v) W' := fun _ => by
 rw [updV_same]
 refine hv.imp fun b hb => ⟨⟨Nat.le_trans hB hb.1, hb.2⟩, fun a hax hl => ?_⟩
 have hia : m ≠ a := fun e => hma (by rw [e]; exact hax)
 rw [getD_set_ne false hia] at hl
 rw [updV_ne u v (Ne.symm hia)]
 obtain ⟨g, hg, hlt⟩ := ha a hax hl
 rw [hg]
 intro e
 cases e
 have := hb.1
 omega
theorem GA.box {o : Obj} (h : GA B f jm m az listed u W) (hm : i ≠ m) : GA B f jm m az (listed.setIfInBounds i true) (updV u i (.pointer (some ⟨W.heap.size, 0, none⟩))) (W.alloc o) := fun h1 => by
 rw [getD_set_ne false hm] at h1
 rw [updV_ne u _ (Ne.symm hm)]
 have hc : Chg [] W (W.alloc o) := (Chg.refl _ _).alloc _
 refine ((h h1).chg hc).imp fun b hb => ⟨⟨hb.1.1, Nat.lt_of_lt_of_le hb.1.2 hc.size⟩, fun a hax hl => ?_⟩
 by_cases hia : a = i
 · subst hia
   rw [updV_same]
   intro e
   cases e
   have := hb.1.2
   omega
 · rw [getD_set_ne false (Ne.symm hia)] at hl
   rw [updV_ne u _ hia]
   exact hb.2 a hax hl
theorem GA.start (n : Nat) : GA B f jm m az (Array.replicate n false) u W := fun h1 => by
 by_cases hx : m < n <;> simp [Array.getD, hx] at h1
end
theorem st5_heap {w : World} {g : Nat} {v0 v1 v2 v3 v4 : Value} {T : TypeId} (h : w.heap[g]? = some (.cells #[v0, v1, v2, v3, v4] T (0, 0))) (e : Ev) : (st5 w g 0 e).heap[g]? = some (.cells #[.int .i64 e.k, .int .i64 e.n, .string e.t, .slice e.na e.nl e.nc, .slice e.ia e.il e.ic] T (0, 0)) := by
 have h0 := heap_setCell_same (i := 0) h (.int .i64 e.k)
 have h1 := heap_setCell_same (i := 0 + 1) h0 (.int .i64 e.n)
 have h2 := heap_setCell_same (i := 0 + 2) h1 (.string e.t)
 have h3 := heap_setCell_same (i := 0 + 3) h2 (.slice e.na e.nl e.nc)
 have h4 := heap_setCell_same (i := 0 + 4) h3 (.slice e.ia e.il e.ic)
 unfold st5
 rw [h4]
 simp
def candI (j : J) (n : Nat) : Int := if n = 1 then 0 else if n = 4 then (lk (lk j ⟨#[112, 97, 114, 97, 109, 115]⟩) ⟨#[105, 100]⟩).num else (lk j ⟨#[105, 100]⟩).num
def candC (j : J) (n : Nat) : Int := if n = 3 then (lk (lk j ⟨#[101, 114, 114, 111, 114]⟩) ⟨#[99, 111, 100, 101]⟩).num else 0
def candT (j : J) (n : Nat) : ByteArray := if n = 0 ∨ n = 1 then (lk j ⟨#[109, 101, 116, 104, 111, 100]⟩).text else if n = 3 then (lk (lk j ⟨#[101, 114, 114, 111, 114]⟩) ⟨#[109, 101, 115, 115, 97, 103, 101]⟩).text else ⟨#[]⟩
def candB (j : J) (n : Nat) : J := if n = 0 ∨ n = 1 then lk j ⟨#[112, 97, 114, 97, 109, 115]⟩ else if n = 2 then lk j ⟨#[114, 101, 115, 117, 108, 116]⟩ else J.zero
def mcs (k i c : Int) (t : ByteArray) (e : Ev) : List Value := [.int .i64 k, .int .i64 i, .int .i64 c, .string t, .int .i64 e.k, .int .i64 e.n, .string e.t, .slice e.na e.nl e.nc, .slice e.ia e.il e.ic]
def CdPost (f : Nat) (j : J) (w : World) (e : Ending) (w' : World) : Prop := ∃ (g : Nat) (es : Nat → Ev), e = .returned (.slice (some ⟨g, 0, none⟩) 5 5) ∧ g < w'.heap.size ∧ w.heap.size ≤ g ∧ (∀ n, n < 5 → (∀ c, c < 9 → w'.cell? ⟨g, n * 9 + c, none⟩ = (mcs (n + 1 : Nat) (candI j n) (candC j n) (candT j n) (es n))[c]?) ∧ JN w.heap.size f w' (es n).val (candB j n)) ∧ Chg [] w w'
set_option maxRecDepth 100000 in
set_option maxHeartbeats 8000000 in
theorem cand_any (p : Nat → Prop) (f : Nat) (w : World) (j : J) (v : Value) (hj : JV p f w v j) (hs : Bd j) : Calls Tryz.prog 85 #[v] w (CdPost f j w) := by
 obtain ⟨ej, rfl⟩ := hj.ev'
 have Hj := Lib.hid (fun W (hc : Chg [] w W) => hj.chg hc)
 unfold Ev.val at *
 obtain ⟨w1, hw1⟩ : ∃ x, x = w.alloc (.cells #[.int .i64 ej.k, .int .i64 ej.n, .string ej.t, .slice ej.na ej.nl ej.nc, .slice ej.ia ej.il ej.ic] 59) := ⟨_, rfl⟩
 obtain ⟨vb, hvb⟩ : ∃ x, x = w.heap.size := ⟨_, rfl⟩
 have hc1 : Chg [] w w1 := by rw [hw1]; exact (Chg.refl _ _).alloc _
 have hm1 : w1.heap[vb]? = some (.cells #[.int .i64 ej.k, .int .i64 ej.n, .string ej.t, .slice ej.na ej.nl ej.nc, .slice ej.ia ej.il ej.ic] 59 (0, 0)) := by rw [hw1, hvb]; exact heap_at _ _ _ rfl
 have Hc1 := Lib.hid hc1
 have Hm1 := Lib.hid hm1
 have Hs := Lib.hid hs
 have Hvb := Lib.hid hvb
 obtain ⟨ji, hji⟩ : ∃ x, x = lk j ⟨#[105, 100]⟩ := ⟨_, rfl⟩
 obtain ⟨jm, hjm⟩ : ∃ x, x = lk j ⟨#[109, 101, 116, 104, 111, 100]⟩ := ⟨_, rfl⟩
 obtain ⟨jp, hjp⟩ : ∃ x, x = lk j ⟨#[112, 97, 114, 97, 109, 115]⟩ := ⟨_, rfl⟩
 obtain ⟨je, hje⟩ : ∃ x, x = lk j ⟨#[101, 114, 114, 111, 114]⟩ := ⟨_, rfl⟩
 obtain ⟨jr, hjr⟩ : ∃ x, x = lk j ⟨#[114, 101, 115, 117, 108, 116]⟩ := ⟨_, rfl⟩
 have Hji := Lib.hid hji
 have Hjm := Lib.hid hjm
 have Hjp := Lib.hid hjp
 have Hje := Lib.hid hje
 have Hjr := Lib.hid hjr
 clear hj hs hc1 hm1 hji hjm hjp hje hjr
 go_enter Tryz.func85, Tryz.ntmps85
 go_upto_region 2 with fail
 rw [← hw1, ← hvb]
 clear hw1 hvb
 refine wp_region_put 17 [some 8, some 9, some 10, some 11, some 12, some 13, some 14, some 15, some 16, some 17, some 18, some 19, some 20, some 21, some 6, some 7, some 4] (fun j v W => match j with
  | 0 => v = .func (.func 137) #[] #[]
  | 1 => v = .agg #[.int .i64 ej.k, .int .i64 ej.n, .string ej.t, .slice ej.na ej.nl ej.nc, .slice ej.ia ej.il ej.ic]
  | 2 => ∃ ev : Ev, v = .agg #[.int .i64 ev.k, .int .i64 ev.n, .string ev.t, .slice ev.na ev.nl ev.nc, .slice ev.ia ev.il ev.ic] ∧ JN w.heap.size f W (.agg #[.int .i64 ev.k, .int .i64 ev.n, .string ev.t, .slice ev.na ev.nl ev.nc, .slice ev.ia ev.il ev.ic]) ji
  | 3 => v = .int .i64 ji.num
  | 4 => v = .func (.func 137) #[] #[]
  | 5 => v = .agg #[.int .i64 ej.k, .int .i64 ej.n, .string ej.t, .slice ej.na ej.nl ej.nc, .slice ej.ia ej.il ej.ic]
  | 6 => ∃ ev : Ev, v = .agg #[.int .i64 ev.k, .int .i64 ev.n, .string ev.t, .slice ev.na ev.nl ev.nc, .slice ev.ia ev.il ev.ic] ∧ JN w.heap.size f W (.agg #[.int .i64 ev.k, .int .i64 ev.n, .string ev.t, .slice ev.na ev.nl ev.nc, .slice ev.ia ev.il ev.ic]) jm
  | 7 => v = .string jm.text
  | 8 => v = .func (.func 137) #[] #[]
  | 9 => v = .agg #[.int .i64 ej.k, .int .i64 ej.n, .string ej.t, .slice ej.na ej.nl ej.nc, .slice ej.ia ej.il ej.ic]
  | 10 => ∃ ev : Ev, v = .agg #[.int .i64 ev.k, .int .i64 ev.n, .string ev.t, .slice ev.na ev.nl ev.nc, .slice ev.ia ev.il ev.ic] ∧ JN w.heap.size f W (.agg #[.int .i64 ev.k, .int .i64 ev.n, .string ev.t, .slice ev.na ev.nl ev.nc, .slice ev.ia ev.il ev.ic]) jp
  | 11 => v = .func (.func 137) #[] #[]
  | 12 => v = .agg #[.int .i64 ej.k, .int .i64 ej.n, .string ej.t, .slice ej.na ej.nl ej.nc, .slice ej.ia ej.il ej.ic]
  | 13 => ∃ ev : Ev, v = .agg #[.int .i64 ev.k, .int .i64 ev.n, .string ev.t, .slice ev.na ev.nl ev.nc, .slice ev.ia ev.il ev.ic] ∧ JN w.heap.size f W (.agg #[.int .i64 ev.k, .int .i64 ev.n, .string ev.t, .slice ev.na ev.nl ev.nc, .slice ev.ia ev.il ev.ic]) je
  | 14 => ∃ g, v = .pointer (some ⟨g, 0, none⟩) ∧ W.heap[g]? = some (.cells #[.int .i64 0, .int .i64 0, .string ⟨#[]⟩, .slice none 0 0, .slice none 0 0] 59 (0, 0)) ∧ w1.heap.size ≤ g
  | 15 => ∃ g, v = .pointer (some ⟨g, 0, none⟩) ∧ W.heap[g]? = some (.cells #[.int .i64 0, .int .i64 0, .string ⟨#[]⟩, .slice none 0 0, .slice none 0 0] 59 (0, 0)) ∧ w1.heap.size ≤ g
  | 16 => v = .int .i64 ji.num
  | _ => True) (fun l u W => GD 14 15 l u W ∧ GA w.heap.size f jp 10 [14, 15] l u W ∧ GA w.heap.size f je 13 [14, 15] l u W) (by kernel_rfl) (by kernel_rfl) (by kernel_rfl) (fun u => ⟨GD.start _ _ _ _ _, GA.start _, GA.start _⟩) ?_ ?_ ?_
 · intro j v W W2 hcw hR
   match j, hR with
   | 0, hR => exact hR
   | 1, hR => exact hR
   | 2, hR => obtain ⟨ev, h1, h2⟩ := hR; exact ⟨ev, h1, JN.same h2 hcw⟩
   | 3, hR => exact hR
   | 4, hR => exact hR
   | 5, hR => exact hR
   | 6, hR => obtain ⟨ev, h1, h2⟩ := hR; exact ⟨ev, h1, JN.same h2 hcw⟩
   | 7, hR => exact hR
   | 8, hR => exact hR
   | 9, hR => exact hR
   | 10, hR => obtain ⟨ev, h1, h2⟩ := hR; exact ⟨ev, h1, JN.same h2 hcw⟩
   | 11, hR => exact hR
   | 12, hR => exact hR
   | 13, hR => obtain ⟨ev, h1, h2⟩ := hR; exact ⟨ev, h1, JN.same h2 hcw⟩
   | 14, hR => obtain ⟨g, h1, h2, h3⟩ := hR; exact ⟨g, h1, (hcw.block g (lt_of_obj h2) (by simp)).trans h2, h3⟩
   | 15, hR => obtain ⟨g, h1, h2, h3⟩ := hR; exact ⟨g, h1, (hcw.block g (lt_of_obj h2) (by simp)).trans h2, h3⟩
   | 16, hR => exact hR
   | (j + 17), hR => exact trivial
 · intro q o ho hn listed u W hun hall hd hc hG K hK
   match q, ho, hn, hun, hd, hK with
   | 0, ho, _, hun, hd, hK =>
     have hbase : w1.heap.size ≤ w1.drew.heap.size := Nat.le_refl _
     have hWj := (((show Chg [] w1 w1.drew from (Chg.refl _ _).drew).trans hc).block vb (lt_of_obj Hm1.out) (by simp)).trans Hm1.out
     obtain ⟨b0, b1, b2, b3, b4⟩ := box_kept vb hWj (Chg.refl [] W)
     clear hWj
     cases ho
     simp only [getElem_toArray, getElem_cons_zero, getElem_cons_succ]
     simp only [putU, Nat.reduceAdd, Act.put, setIfInBounds_toArray, set_cons_zero, set_cons_succ]
     go_simp
     have hk := hK _ _ (Chg.refl [] W) rfl ⟨(hG.1.other (by decide) (by decide) _ _), (hG.2.1.other (Chg.refl [] W) (by decide) (by decide) _), (hG.2.2.other (Chg.refl [] W) (by decide) (by decide) _)⟩
     simp only [putU, Nat.reduceAdd, Act.put, setIfInBounds_toArray, set_cons_zero, set_cons_succ, getElem_toArray, getElem_cons_zero, getElem_cons_succ] at hk
     exact hk
   | 1, ho, _, hun, hd, hK =>
     have hbase : w1.heap.size ≤ w1.drew.heap.size := Nat.le_refl _
     have hWj := (((show Chg [] w1 w1.drew from (Chg.refl _ _).drew).trans hc).block vb (lt_of_obj Hm1.out) (by simp)).trans Hm1.out
     obtain ⟨b0, b1, b2, b3, b4⟩ := box_kept vb hWj (Chg.refl [] W)
     clear hWj
     cases ho
     simp only [getElem_toArray, getElem_cons_zero, getElem_cons_succ]
     simp only [putU, Nat.reduceAdd, Act.put, setIfInBounds_toArray, set_cons_zero, set_cons_succ]
     go_simp
     have hk := hK _ _ (Chg.refl [] W) rfl ⟨(hG.1.other (by decide) (by decide) _ _), (hG.2.1.other (Chg.refl [] W) (by decide) (by decide) _), (hG.2.2.other (Chg.refl [] W) (by decide) (by decide) _)⟩
     simp only [putU, Nat.reduceAdd, Act.put, setIfInBounds_toArray, set_cons_zero, set_cons_succ, getElem_toArray, getElem_cons_zero, getElem_cons_succ] at hk
     exact hk
   | 2, ho, _, hun, hd, hK =>
     have h0 : u 0 = .func (.func 137) #[] #[] := hd 0 (by kernel_rfl) (by decide)
     have h1 : u 1 = .agg #[.int .i64 ej.k, .int .i64 ej.n, .string ej.t, .slice ej.na ej.nl ej.nc, .slice ej.ia ej.il ej.ic] := hd 1 (by kernel_rfl) (by decide)
     have hbase : w1.heap.size ≤ w1.drew.heap.size := Nat.le_refl _
     have hWj := (((show Chg [] w1 w1.drew from (Chg.refl _ _).drew).trans hc).block vb (lt_of_obj Hm1.out) (by simp)).trans Hm1.out
     obtain ⟨b0, b1, b2, b3, b4⟩ := box_kept vb hWj (Chg.refl [] W)
     clear hWj
     cases ho
     simp only [getElem_toArray, getElem_cons_zero, getElem_cons_succ]
     simp only [putU, Nat.reduceAdd, Act.put, setIfInBounds_toArray, set_cons_zero, set_cons_succ, h0, h1]
     go_simp
     refine (member_any _ f W j _ ⟨#[105, 100]⟩ (Hj.out W (Hc1.out.trans ((show Chg [] w1 w1.drew from (Chg.refl _ _).drew).trans hc))) Hs.out).mono ?_
     rintro e X ⟨ev, rfl, hvx, hcx⟩
     unfold Ev.val at hvx ⊢
     rw [← Hji.out] at hvx
     have hbox : ∀ a ∈ [14, 15], listed.getD a false = true → ∃ g, u a = .pointer (some ⟨g, 0, none⟩) ∧ g < W.heap.size := fun a ha hl => by
      have : a = 14 ∨ a = 15 := by simpa using ha
      rcases this with rfl | rfl
      · obtain ⟨g, hg, hh, _⟩ : ∃ g, u 14 = .pointer (some ⟨g, 0, none⟩) ∧ W.heap[g]? = some (.cells #[.int .i64 0, .int .i64 0, .string ⟨#[]⟩, .slice none 0 0, .slice none 0 0] 59 (0, 0)) ∧ w1.heap.size ≤ g := hall 14 (by decide) hl
        exact ⟨g, hg, lt_of_obj hh⟩
      · obtain ⟨g, hg, hh, _⟩ : ∃ g, u 15 = .pointer (some ⟨g, 0, none⟩) ∧ W.heap[g]? = some (.cells #[.int .i64 0, .int .i64 0, .string ⟨#[]⟩, .slice none 0 0, .slice none 0 0] 59 (0, 0)) ∧ w1.heap.size ≤ g := hall 15 (by decide) hl
        exact ⟨g, hg, lt_of_obj hh⟩
     have hk := hK _ _ hcx ⟨ev, rfl, hvx.base (Nat.le_trans Hc1.out.size (Nat.le_trans hbase hc.size))⟩ ⟨(hG.1.other (by decide) (by decide) _ _), (hG.2.1.other hcx (by decide) (by decide) _), (hG.2.2.other hcx (by decide) (by decide) _)⟩
     simp only [putU, Nat.reduceAdd, Act.put, setIfInBounds_toArray, set_cons_zero, set_cons_succ, getElem_toArray, getElem_cons_zero, getElem_cons_succ, h0, h1] at hk
     exact hk
   | 3, ho, _, hun, hd, hK =>
     have h2 : ∃ ev : Ev, u 2 = .agg #[.int .i64 ev.k, .int .i64 ev.n, .string ev.t, .slice ev.na ev.nl ev.nc, .slice ev.ia ev.il ev.ic] ∧ JN w.heap.size f W (.agg #[.int .i64 ev.k, .int .i64 ev.n, .string ev.t, .slice ev.na ev.nl ev.nc, .slice ev.ia ev.il ev.ic]) ji := hd 2 (by kernel_rfl) (by decide)
     obtain ⟨ev2, h2, hv2⟩ := h2
     have hbase : w1.heap.size ≤ w1.drew.heap.size := Nat.le_refl _
     have hWj := (((show Chg [] w1 w1.drew from (Chg.refl _ _).drew).trans hc).block vb (lt_of_obj Hm1.out) (by simp)).trans Hm1.out
     obtain ⟨b0, b1, b2, b3, b4⟩ := box_kept vb hWj (Chg.refl [] W)
     clear hWj
     have hf := fieldN ev2 W
     have Hl := Lib.hid (show JV _ f W ev2.val _ from hv2).lens
     cases ho
     simp only [getElem_toArray, getElem_cons_zero, getElem_cons_succ]
     simp only [putU, Nat.reduceAdd, Act.put, setIfInBounds_toArray, set_cons_zero, set_cons_succ, h2]
     go_simp
     have hk := hK (.int .i64 ev2.n) _ (Chg.refl [] W) (congrArg (Value.int .i64) Hl.out.2.1) ⟨(hG.1.other (by decide) (by decide) _ _), (hG.2.1.other (Chg.refl [] W) (by decide) (by decide) _), (hG.2.2.other (Chg.refl [] W) (by decide) (by decide) _)⟩
     simp only [putU, Nat.reduceAdd, Act.put, setIfInBounds_toArray, set_cons_zero, set_cons_succ, getElem_toArray, getElem_cons_zero, getElem_cons_succ, h2] at hk
     exact hk
   | 4, ho, _, hun, hd, hK =>
     have hbase : w1.heap.size ≤ w1.drew.heap.size := Nat.le_refl _
     have hWj := (((show Chg [] w1 w1.drew from (Chg.refl _ _).drew).trans hc).block vb (lt_of_obj Hm1.out) (by simp)).trans Hm1.out
     obtain ⟨b0, b1, b2, b3, b4⟩ := box_kept vb hWj (Chg.refl [] W)
     clear hWj
     cases ho
     simp only [getElem_toArray, getElem_cons_zero, getElem_cons_succ]
     simp only [putU, Nat.reduceAdd, Act.put, setIfInBounds_toArray, set_cons_zero, set_cons_succ]
     go_simp
     have hk := hK _ _ (Chg.refl [] W) rfl ⟨(hG.1.other (by decide) (by decide) _ _), (hG.2.1.other (Chg.refl [] W) (by decide) (by decide) _), (hG.2.2.other (Chg.refl [] W) (by decide) (by decide) _)⟩
     simp only [putU, Nat.reduceAdd, Act.put, setIfInBounds_toArray, set_cons_zero, set_cons_succ, getElem_toArray, getElem_cons_zero, getElem_cons_succ] at hk
     exact hk
   | 5, ho, _, hun, hd, hK =>
     have hbase : w1.heap.size ≤ w1.drew.heap.size := Nat.le_refl _
     have hWj := (((show Chg [] w1 w1.drew from (Chg.refl _ _).drew).trans hc).block vb (lt_of_obj Hm1.out) (by simp)).trans Hm1.out
     obtain ⟨b0, b1, b2, b3, b4⟩ := box_kept vb hWj (Chg.refl [] W)
     clear hWj
     cases ho
     simp only [getElem_toArray, getElem_cons_zero, getElem_cons_succ]
     simp only [putU, Nat.reduceAdd, Act.put, setIfInBounds_toArray, set_cons_zero, set_cons_succ]
     go_simp
     have hk := hK _ _ (Chg.refl [] W) rfl ⟨(hG.1.other (by decide) (by decide) _ _), (hG.2.1.other (Chg.refl [] W) (by decide) (by decide) _), (hG.2.2.other (Chg.refl [] W) (by decide) (by decide) _)⟩
     simp only [putU, Nat.reduceAdd, Act.put, setIfInBounds_toArray, set_cons_zero, set_cons_succ, getElem_toArray, getElem_cons_zero, getElem_cons_succ] at hk
     exact hk
   | 6, ho, _, hun, hd, hK =>
     have h4 : u 4 = .func (.func 137) #[] #[] := hd 4 (by kernel_rfl) (by decide)
     have h5 : u 5 = .agg #[.int .i64 ej.k, .int .i64 ej.n, .string ej.t, .slice ej.na ej.nl ej.nc, .slice ej.ia ej.il ej.ic] := hd 5 (by kernel_rfl) (by decide)
     have hbase : w1.heap.size ≤ w1.drew.heap.size := Nat.le_refl _
     have hWj := (((show Chg [] w1 w1.drew from (Chg.refl _ _).drew).trans hc).block vb (lt_of_obj Hm1.out) (by simp)).trans Hm1.out
     obtain ⟨b0, b1, b2, b3, b4⟩ := box_kept vb hWj (Chg.refl [] W)
     clear hWj
     cases ho
     simp only [getElem_toArray, getElem_cons_zero, getElem_cons_succ]
     simp only [putU, Nat.reduceAdd, Act.put, setIfInBounds_toArray, set_cons_zero, set_cons_succ, h4, h5]
     go_simp
     refine (member_any _ f W j _ ⟨#[109, 101, 116, 104, 111, 100]⟩ (Hj.out W (Hc1.out.trans ((show Chg [] w1 w1.drew from (Chg.refl _ _).drew).trans hc))) Hs.out).mono ?_
     rintro e X ⟨ev, rfl, hvx, hcx⟩
     unfold Ev.val at hvx ⊢
     rw [← Hjm.out] at hvx
     have hbox : ∀ a ∈ [14, 15], listed.getD a false = true → ∃ g, u a = .pointer (some ⟨g, 0, none⟩) ∧ g < W.heap.size := fun a ha hl => by
      have : a = 14 ∨ a = 15 := by simpa using ha
      rcases this with rfl | rfl
      · obtain ⟨g, hg, hh, _⟩ : ∃ g, u 14 = .pointer (some ⟨g, 0, none⟩) ∧ W.heap[g]? = some (.cells #[.int .i64 0, .int .i64 0, .string ⟨#[]⟩, .slice none 0 0, .slice none 0 0] 59 (0, 0)) ∧ w1.heap.size ≤ g := hall 14 (by decide) hl
        exact ⟨g, hg, lt_of_obj hh⟩
      · obtain ⟨g, hg, hh, _⟩ : ∃ g, u 15 = .pointer (some ⟨g, 0, none⟩) ∧ W.heap[g]? = some (.cells #[.int .i64 0, .int .i64 0, .string ⟨#[]⟩, .slice none 0 0, .slice none 0 0] 59 (0, 0)) ∧ w1.heap.size ≤ g := hall 15 (by decide) hl
        exact ⟨g, hg, lt_of_obj hh⟩
     have hk := hK _ _ hcx ⟨ev, rfl, hvx.base (Nat.le_trans Hc1.out.size (Nat.le_trans hbase hc.size))⟩ ⟨(hG.1.other (by decide) (by decide) _ _), (hG.2.1.other hcx (by decide) (by decide) _), (hG.2.2.other hcx (by decide) (by decide) _)⟩
     simp only [putU, Nat.reduceAdd, Act.put, setIfInBounds_toArray, set_cons_zero, set_cons_succ, getElem_toArray, getElem_cons_zero, getElem_cons_succ, h4, h5] at hk
     exact hk
   | 7, ho, _, hun, hd, hK =>
     have h6 : ∃ ev : Ev, u 6 = .agg #[.int .i64 ev.k, .int .i64 ev.n, .string ev.t, .slice ev.na ev.nl ev.nc, .slice ev.ia ev.il ev.ic] ∧ JN w.heap.size f W (.agg #[.int .i64 ev.k, .int .i64 ev.n, .string ev.t, .slice ev.na ev.nl ev.nc, .slice ev.ia ev.il ev.ic]) jm := hd 6 (by kernel_rfl) (by decide)
     obtain ⟨ev6, h6, hv6⟩ := h6
     have hbase : w1.heap.size ≤ w1.drew.heap.size := Nat.le_refl _
     have hWj := (((show Chg [] w1 w1.drew from (Chg.refl _ _).drew).trans hc).block vb (lt_of_obj Hm1.out) (by simp)).trans Hm1.out
     obtain ⟨b0, b1, b2, b3, b4⟩ := box_kept vb hWj (Chg.refl [] W)
     clear hWj
     have hf := fieldT ev6 W
     have Hl := Lib.hid (show JV _ f W ev6.val _ from hv6).lens
     cases ho
     simp only [getElem_toArray, getElem_cons_zero, getElem_cons_succ]
     simp only [putU, Nat.reduceAdd, Act.put, setIfInBounds_toArray, set_cons_zero, set_cons_succ, h6]
     go_simp
     have hk := hK (.string ev6.t) _ (Chg.refl [] W) (congrArg Value.string Hl.out.2.2.1) ⟨(hG.1.other (by decide) (by decide) _ _), (hG.2.1.other (Chg.refl [] W) (by decide) (by decide) _), (hG.2.2.other (Chg.refl [] W) (by decide) (by decide) _)⟩
     simp only [putU, Nat.reduceAdd, Act.put, setIfInBounds_toArray, set_cons_zero, set_cons_succ, getElem_toArray, getElem_cons_zero, getElem_cons_succ, h6] at hk
     exact hk
   | 8, ho, _, hun, hd, hK =>
     have hbase : w1.heap.size ≤ w1.drew.heap.size := Nat.le_refl _
     have hWj := (((show Chg [] w1 w1.drew from (Chg.refl _ _).drew).trans hc).block vb (lt_of_obj Hm1.out) (by simp)).trans Hm1.out
     obtain ⟨b0, b1, b2, b3, b4⟩ := box_kept vb hWj (Chg.refl [] W)
     clear hWj
     cases ho
     simp only [getElem_toArray, getElem_cons_zero, getElem_cons_succ]
     simp only [putU, Nat.reduceAdd, Act.put, setIfInBounds_toArray, set_cons_zero, set_cons_succ]
     go_simp
     have hk := hK _ _ (Chg.refl [] W) rfl ⟨(hG.1.other (by decide) (by decide) _ _), (hG.2.1.other (Chg.refl [] W) (by decide) (by decide) _), (hG.2.2.other (Chg.refl [] W) (by decide) (by decide) _)⟩
     simp only [putU, Nat.reduceAdd, Act.put, setIfInBounds_toArray, set_cons_zero, set_cons_succ, getElem_toArray, getElem_cons_zero, getElem_cons_succ] at hk
     exact hk
   | 9, ho, _, hun, hd, hK =>
     have hbase : w1.heap.size ≤ w1.drew.heap.size := Nat.le_refl _
     have hWj := (((show Chg [] w1 w1.drew from (Chg.refl _ _).drew).trans hc).block vb (lt_of_obj Hm1.out) (by simp)).trans Hm1.out
     obtain ⟨b0, b1, b2, b3, b4⟩ := box_kept vb hWj (Chg.refl [] W)
     clear hWj
     cases ho
     simp only [getElem_toArray, getElem_cons_zero, getElem_cons_succ]
     simp only [putU, Nat.reduceAdd, Act.put, setIfInBounds_toArray, set_cons_zero, set_cons_succ]
     go_simp
     have hk := hK _ _ (Chg.refl [] W) rfl ⟨(hG.1.other (by decide) (by decide) _ _), (hG.2.1.other (Chg.refl [] W) (by decide) (by decide) _), (hG.2.2.other (Chg.refl [] W) (by decide) (by decide) _)⟩
     simp only [putU, Nat.reduceAdd, Act.put, setIfInBounds_toArray, set_cons_zero, set_cons_succ, getElem_toArray, getElem_cons_zero, getElem_cons_succ] at hk
     exact hk
   | 10, ho, _, hun, hd, hK =>
     have h8 : u 8 = .func (.func 137) #[] #[] := hd 8 (by kernel_rfl) (by decide)
     have h9 : u 9 = .agg #[.int .i64 ej.k, .int .i64 ej.n, .string ej.t, .slice ej.na ej.nl ej.nc, .slice ej.ia ej.il ej.ic] := hd 9 (by kernel_rfl) (by decide)
     have hbase : w1.heap.size ≤ w1.drew.heap.size := Nat.le_refl _
     have hWj := (((show Chg [] w1 w1.drew from (Chg.refl _ _).drew).trans hc).block vb (lt_of_obj Hm1.out) (by simp)).trans Hm1.out
     obtain ⟨b0, b1, b2, b3, b4⟩ := box_kept vb hWj (Chg.refl [] W)
     clear hWj
     cases ho
     simp only [getElem_toArray, getElem_cons_zero, getElem_cons_succ]
     simp only [putU, Nat.reduceAdd, Act.put, setIfInBounds_toArray, set_cons_zero, set_cons_succ, h8, h9]
     go_simp
     refine (member_any _ f W j _ ⟨#[112, 97, 114, 97, 109, 115]⟩ (Hj.out W (Hc1.out.trans ((show Chg [] w1 w1.drew from (Chg.refl _ _).drew).trans hc))) Hs.out).mono ?_
     rintro e X ⟨ev, rfl, hvx, hcx⟩
     unfold Ev.val at hvx ⊢
     rw [← Hjp.out] at hvx
     have hbox : ∀ a ∈ [14, 15], listed.getD a false = true → ∃ g, u a = .pointer (some ⟨g, 0, none⟩) ∧ g < W.heap.size := fun a ha hl => by
      have : a = 14 ∨ a = 15 := by simpa using ha
      rcases this with rfl | rfl
      · obtain ⟨g, hg, hh, _⟩ : ∃ g, u 14 = .pointer (some ⟨g, 0, none⟩) ∧ W.heap[g]? = some (.cells #[.int .i64 0, .int .i64 0, .string ⟨#[]⟩, .slice none 0 0, .slice none 0 0] 59 (0, 0)) ∧ w1.heap.size ≤ g := hall 14 (by decide) hl
        exact ⟨g, hg, lt_of_obj hh⟩
      · obtain ⟨g, hg, hh, _⟩ : ∃ g, u 15 = .pointer (some ⟨g, 0, none⟩) ∧ W.heap[g]? = some (.cells #[.int .i64 0, .int .i64 0, .string ⟨#[]⟩, .slice none 0 0, .slice none 0 0] 59 (0, 0)) ∧ w1.heap.size ≤ g := hall 15 (by decide) hl
        exact ⟨g, hg, lt_of_obj hh⟩
     have hk := hK _ _ hcx ⟨ev, rfl, hvx.base (Nat.le_trans Hc1.out.size (Nat.le_trans hbase hc.size))⟩ ⟨(hG.1.other (by decide) (by decide) _ _), (GA.mem hvx (Nat.le_trans Hc1.out.size (Nat.le_trans hbase hc.size)) (by decide) hbox), (hG.2.2.other hcx (by decide) (by decide) _)⟩
     simp only [putU, Nat.reduceAdd, Act.put, setIfInBounds_toArray, set_cons_zero, set_cons_succ, getElem_toArray, getElem_cons_zero, getElem_cons_succ, h8, h9] at hk
     exact hk
   | 11, ho, _, hun, hd, hK =>
     have hbase : w1.heap.size ≤ w1.drew.heap.size := Nat.le_refl _
     have hWj := (((show Chg [] w1 w1.drew from (Chg.refl _ _).drew).trans hc).block vb (lt_of_obj Hm1.out) (by simp)).trans Hm1.out
     obtain ⟨b0, b1, b2, b3, b4⟩ := box_kept vb hWj (Chg.refl [] W)
     clear hWj
     cases ho
     simp only [getElem_toArray, getElem_cons_zero, getElem_cons_succ]
     simp only [putU, Nat.reduceAdd, Act.put, setIfInBounds_toArray, set_cons_zero, set_cons_succ]
     go_simp
     have hk := hK _ _ (Chg.refl [] W) rfl ⟨(hG.1.other (by decide) (by decide) _ _), (hG.2.1.other (Chg.refl [] W) (by decide) (by decide) _), (hG.2.2.other (Chg.refl [] W) (by decide) (by decide) _)⟩
     simp only [putU, Nat.reduceAdd, Act.put, setIfInBounds_toArray, set_cons_zero, set_cons_succ, getElem_toArray, getElem_cons_zero, getElem_cons_succ] at hk
     exact hk
   | 12, ho, _, hun, hd, hK =>
     have hbase : w1.heap.size ≤ w1.drew.heap.size := Nat.le_refl _
     have hWj := (((show Chg [] w1 w1.drew from (Chg.refl _ _).drew).trans hc).block vb (lt_of_obj Hm1.out) (by simp)).trans Hm1.out
     obtain ⟨b0, b1, b2, b3, b4⟩ := box_kept vb hWj (Chg.refl [] W)
     clear hWj
     cases ho
     simp only [getElem_toArray, getElem_cons_zero, getElem_cons_succ]
     simp only [putU, Nat.reduceAdd, Act.put, setIfInBounds_toArray, set_cons_zero, set_cons_succ]
     go_simp
     have hk := hK _ _ (Chg.refl [] W) rfl ⟨(hG.1.other (by decide) (by decide) _ _), (hG.2.1.other (Chg.refl [] W) (by decide) (by decide) _), (hG.2.2.other (Chg.refl [] W) (by decide) (by decide) _)⟩
     simp only [putU, Nat.reduceAdd, Act.put, setIfInBounds_toArray, set_cons_zero, set_cons_succ, getElem_toArray, getElem_cons_zero, getElem_cons_succ] at hk
     exact hk
   | 13, ho, _, hun, hd, hK =>
     have h11 : u 11 = .func (.func 137) #[] #[] := hd 11 (by kernel_rfl) (by decide)
     have h12 : u 12 = .agg #[.int .i64 ej.k, .int .i64 ej.n, .string ej.t, .slice ej.na ej.nl ej.nc, .slice ej.ia ej.il ej.ic] := hd 12 (by kernel_rfl) (by decide)
     have hbase : w1.heap.size ≤ w1.drew.heap.size := Nat.le_refl _
     have hWj := (((show Chg [] w1 w1.drew from (Chg.refl _ _).drew).trans hc).block vb (lt_of_obj Hm1.out) (by simp)).trans Hm1.out
     obtain ⟨b0, b1, b2, b3, b4⟩ := box_kept vb hWj (Chg.refl [] W)
     clear hWj
     cases ho
     simp only [getElem_toArray, getElem_cons_zero, getElem_cons_succ]
     simp only [putU, Nat.reduceAdd, Act.put, setIfInBounds_toArray, set_cons_zero, set_cons_succ, h11, h12]
     go_simp
     refine (member_any _ f W j _ ⟨#[101, 114, 114, 111, 114]⟩ (Hj.out W (Hc1.out.trans ((show Chg [] w1 w1.drew from (Chg.refl _ _).drew).trans hc))) Hs.out).mono ?_
     rintro e X ⟨ev, rfl, hvx, hcx⟩
     unfold Ev.val at hvx ⊢
     rw [← Hje.out] at hvx
     have hbox : ∀ a ∈ [14, 15], listed.getD a false = true → ∃ g, u a = .pointer (some ⟨g, 0, none⟩) ∧ g < W.heap.size := fun a ha hl => by
      have : a = 14 ∨ a = 15 := by simpa using ha
      rcases this with rfl | rfl
      · obtain ⟨g, hg, hh, _⟩ : ∃ g, u 14 = .pointer (some ⟨g, 0, none⟩) ∧ W.heap[g]? = some (.cells #[.int .i64 0, .int .i64 0, .string ⟨#[]⟩, .slice none 0 0, .slice none 0 0] 59 (0, 0)) ∧ w1.heap.size ≤ g := hall 14 (by decide) hl
        exact ⟨g, hg, lt_of_obj hh⟩
      · obtain ⟨g, hg, hh, _⟩ : ∃ g, u 15 = .pointer (some ⟨g, 0, none⟩) ∧ W.heap[g]? = some (.cells #[.int .i64 0, .int .i64 0, .string ⟨#[]⟩, .slice none 0 0, .slice none 0 0] 59 (0, 0)) ∧ w1.heap.size ≤ g := hall 15 (by decide) hl
        exact ⟨g, hg, lt_of_obj hh⟩
     have hk := hK _ _ hcx ⟨ev, rfl, hvx.base (Nat.le_trans Hc1.out.size (Nat.le_trans hbase hc.size))⟩ ⟨(hG.1.other (by decide) (by decide) _ _), (hG.2.1.other hcx (by decide) (by decide) _), (GA.mem hvx (Nat.le_trans Hc1.out.size (Nat.le_trans hbase hc.size)) (by decide) hbox)⟩
     simp only [putU, Nat.reduceAdd, Act.put, setIfInBounds_toArray, set_cons_zero, set_cons_succ, getElem_toArray, getElem_cons_zero, getElem_cons_succ, h11, h12] at hk
     exact hk
   | 14, ho, _, hun, hd, hK =>
     have hbase : w1.heap.size ≤ w1.drew.heap.size := Nat.le_refl _
     have hWj := (((show Chg [] w1 w1.drew from (Chg.refl _ _).drew).trans hc).block vb (lt_of_obj Hm1.out) (by simp)).trans Hm1.out
     obtain ⟨b0, b1, b2, b3, b4⟩ := box_kept vb hWj (Chg.refl [] W)
     clear hWj
     cases ho
     simp only [getElem_toArray, getElem_cons_zero, getElem_cons_succ]
     simp only [putU, Nat.reduceAdd, Act.put, setIfInBounds_toArray, set_cons_zero, set_cons_succ]
     go_simp
     have hcw : Chg [] W (W.alloc (.cells #[.int .i64 0, .int .i64 0, .string ⟨#[]⟩, .slice none 0 0, .slice none 0 0] 59)) := (Chg.refl _ _).alloc _
     have hk := hK _ _ hcw ⟨W.heap.size, rfl, heap_at _ _ _ rfl, Nat.le_trans hbase hc.size⟩ ⟨(fun _ h2 => by rw [getD_set_ne false (by decide)] at h2; obtain ⟨g, hg, hh, _⟩ : ∃ g, u 15 = .pointer (some ⟨g, 0, none⟩) ∧ W.heap[g]? = some (.cells #[.int .i64 0, .int .i64 0, .string ⟨#[]⟩, .slice none 0 0, .slice none 0 0] 59 (0, 0)) ∧ w1.heap.size ≤ g := hall 15 (by decide) h2; rw [updV_same, updV_ne u _ (by decide), hg]; intro e; cases e; exact absurd (lt_of_obj hh) (Nat.lt_irrefl _)), (GA.box hG.2.1 (by decide)), (GA.box hG.2.2 (by decide))⟩
     simp only [putU, Nat.reduceAdd, Act.put, setIfInBounds_toArray, set_cons_zero, set_cons_succ, getElem_toArray, getElem_cons_zero, getElem_cons_succ] at hk
     exact hk
   | 15, ho, _, hun, hd, hK =>
     have hbase : w1.heap.size ≤ w1.drew.heap.size := Nat.le_refl _
     have hWj := (((show Chg [] w1 w1.drew from (Chg.refl _ _).drew).trans hc).block vb (lt_of_obj Hm1.out) (by simp)).trans Hm1.out
     obtain ⟨b0, b1, b2, b3, b4⟩ := box_kept vb hWj (Chg.refl [] W)
     clear hWj
     cases ho
     simp only [getElem_toArray, getElem_cons_zero, getElem_cons_succ]
     simp only [putU, Nat.reduceAdd, Act.put, setIfInBounds_toArray, set_cons_zero, set_cons_succ]
     go_simp
     have hcw : Chg [] W (W.alloc (.cells #[.int .i64 0, .int .i64 0, .string ⟨#[]⟩, .slice none 0 0, .slice none 0 0] 59)) := (Chg.refl _ _).alloc _
     have hk := hK _ _ hcw ⟨W.heap.size, rfl, heap_at _ _ _ rfl, Nat.le_trans hbase hc.size⟩ ⟨(fun h2 _ => by rw [getD_set_ne false (by decide)] at h2; obtain ⟨g, hg, hh, _⟩ : ∃ g, u 14 = .pointer (some ⟨g, 0, none⟩) ∧ W.heap[g]? = some (.cells #[.int .i64 0, .int .i64 0, .string ⟨#[]⟩, .slice none 0 0, .slice none 0 0] 59 (0, 0)) ∧ w1.heap.size ≤ g := hall 14 (by decide) h2; rw [updV_same, updV_ne u _ (by decide), hg]; intro e; cases e; exact absurd (lt_of_obj hh) (Nat.lt_irrefl _)), (GA.box hG.2.1 (by decide)), (GA.box hG.2.2 (by decide))⟩
     simp only [putU, Nat.reduceAdd, Act.put, setIfInBounds_toArray, set_cons_zero, set_cons_succ, getElem_toArray, getElem_cons_zero, getElem_cons_succ] at hk
     exact hk
   | 16, ho, _, hun, hd, hK =>
     have h3 : u 3 = .int .i64 ji.num := hd 3 (by kernel_rfl) (by decide)
     have hbase : w1.heap.size ≤ w1.drew.heap.size := Nat.le_refl _
     have hWj := (((show Chg [] w1 w1.drew from (Chg.refl _ _).drew).trans hc).block vb (lt_of_obj Hm1.out) (by simp)).trans Hm1.out
     obtain ⟨b0, b1, b2, b3, b4⟩ := box_kept vb hWj (Chg.refl [] W)
     clear hWj
     cases ho
     simp only [getElem_toArray, getElem_cons_zero, getElem_cons_succ]
     simp only [putU, Nat.reduceAdd, Act.put, setIfInBounds_toArray, set_cons_zero, set_cons_succ, h3]
     go_simp
     have hk := hK _ _ (Chg.refl [] W) rfl ⟨(hG.1.other (by decide) (by decide) _ _), (hG.2.1.other (Chg.refl [] W) (by decide) (by decide) _), (hG.2.2.other (Chg.refl [] W) (by decide) (by decide) _)⟩
     simp only [putU, Nat.reduceAdd, Act.put, setIfInBounds_toArray, set_cons_zero, set_cons_succ, getElem_toArray, getElem_cons_zero, getElem_cons_succ, h3] at hk
     exact hk
   | (q + 17), _, hn, _, _, _ => exact absurd hn (by omega)
 · intro u W hc hR hG
   have h16 : u 16 = .int .i64 ji.num := hR 16 (by decide)
   have h7 : u 7 = .string jm.text := hR 7 (by decide)
   have h10 : ∃ ev : Ev, u 10 = .agg #[.int .i64 ev.k, .int .i64 ev.n, .string ev.t, .slice ev.na ev.nl ev.nc, .slice ev.ia ev.il ev.ic] ∧ JN w.heap.size f W (.agg #[.int .i64 ev.k, .int .i64 ev.n, .string ev.t, .slice ev.na ev.nl ev.nc, .slice ev.ia ev.il ev.ic]) jp := hR 10 (by decide)
   obtain ⟨ep, h10, hvp⟩ := h10
   have h13 : ∃ ev : Ev, u 13 = .agg #[.int .i64 ev.k, .int .i64 ev.n, .string ev.t, .slice ev.na ev.nl ev.nc, .slice ev.ia ev.il ev.ic] ∧ JN w.heap.size f W (.agg #[.int .i64 ev.k, .int .i64 ev.n, .string ev.t, .slice ev.na ev.nl ev.nc, .slice ev.ia ev.il ev.ic]) je := hR 13 (by decide)
   obtain ⟨ee, h13, hve⟩ := h13
   have h14 : ∃ g, u 14 = .pointer (some ⟨g, 0, none⟩) ∧ W.heap[g]? = some (.cells #[.int .i64 0, .int .i64 0, .string ⟨#[]⟩, .slice none 0 0, .slice none 0 0] 59 (0, 0)) ∧ w1.heap.size ≤ g := hR 14 (by decide)
   obtain ⟨gp, h14, hgp, hgpl⟩ := h14
   have h15 : ∃ g, u 15 = .pointer (some ⟨g, 0, none⟩) ∧ W.heap[g]? = some (.cells #[.int .i64 0, .int .i64 0, .string ⟨#[]⟩, .slice none 0 0, .slice none 0 0] 59 (0, 0)) ∧ w1.heap.size ≤ g := hR 15 (by decide)
   obtain ⟨ge, h15, hge, hgel⟩ := h15
   have hne : gp ≠ ge := fun e => hG.1 (by rfl) (by rfl) (by rw [h14, h15, e])
   have hap : ∀ b, (∀ a ∈ [14, 15], (lastN 17 20).getD a false = true → u a ≠ .pointer (some ⟨b, 0, none⟩)) → b ≠ gp ∧ b ≠ ge := fun b hb => ⟨fun e => hb 14 (by simp) (by rfl) (by rw [h14, e]), fun e => hb 15 (by simp) (by rfl) (by rw [h15, e])⟩
   have hvp2 := (hG.2.1 (by rfl)).imp (q := fun b => (w.heap.size ≤ b ∧ b < W.heap.size) ∧ b ≠ gp ∧ b ≠ ge) fun b hb => ⟨hb.1, hap b hb.2⟩
   have hve2 := (hG.2.2 (by rfl)).imp (q := fun b => (w.heap.size ≤ b ∧ b < W.heap.size) ∧ b ≠ gp ∧ b ≠ ge) fun b hb => ⟨hb.1, hap b hb.2⟩
   rw [h10] at hvp2
   rw [h13] at hve2
   have hdW := (show Chg [] w1 w1.drew from (Chg.refl _ _).drew).trans hc
   obtain ⟨q0, q1, q2, q3, q4⟩ := box_kept gp hgp (Chg.refl [] W)
   have qf := fun i => frozen_of_heap (i := i) hgp
   have ql := lt_of_cell q0
   obtain ⟨W2, hW2⟩ : ∃ x, x = (((((W.setCell ⟨gp, 0, none⟩ (.int .i64 ep.k)).setCell ⟨gp, 1, none⟩ (.int .i64 ep.n)).setCell ⟨gp, 2, none⟩ (.string ep.t)).setCell ⟨gp, 3, none⟩ (.slice ep.na ep.nl ep.nc)).setCell ⟨gp, 4, none⟩ (.slice ep.ia ep.il ep.ic)) := ⟨_, rfl⟩
   have hcs2 : Chg [gp] W W2 := by rw [hW2]; exact st5_chg W gp 0 ep
   have hgp2 : W2.heap[gp]? = some (.cells #[.int .i64 ep.k, .int .i64 ep.n, .string ep.t, .slice ep.na ep.nl ep.nc, .slice ep.ia ep.il ep.ic] 59 (0, 0)) := by rw [hW2]; exact st5_heap hgp ep
   have hge2 := (hcs2.block ge (lt_of_obj hge) (by simp; exact Ne.symm hne)).trans hge
   obtain ⟨s0, s1, s2, s3, s4⟩ := box_kept ge hge2 (Chg.refl [] W2)
   have sf := fun i => frozen_of_heap (i := i) hge2
   have sl := lt_of_cell s0
   obtain ⟨W3, hW3⟩ : ∃ x, x = (((((W2.setCell ⟨ge, 0, none⟩ (.int .i64 ee.k)).setCell ⟨ge, 1, none⟩ (.int .i64 ee.n)).setCell ⟨ge, 2, none⟩ (.string ee.t)).setCell ⟨ge, 3, none⟩ (.slice ee.na ee.nl ee.nc)).setCell ⟨ge, 4, none⟩ (.slice ee.ia ee.il ee.ic)) := ⟨_, rfl⟩
   have hcs3 : Chg [ge] W2 W3 := by rw [hW3]; exact st5_chg W2 ge 0 ee
   have hge3 : W3.heap[ge]? = some (.cells #[.int .i64 ee.k, .int .i64 ee.n, .string ee.t, .slice ee.na ee.nl ee.nc, .slice ee.ia ee.il ee.ic] 59 (0, 0)) := by rw [hW3]; exact st5_heap hge2 ee
   have hgp3 := (hcs3.block gp (lt_of_obj hgp2) (by simp; exact hne)).trans hgp2
   have hc13 : Chg [] w1 W3 := (hdW.comp hcs2 fun x hx => Or.inr (by have := List.mem_singleton.1 hx; omega)).comp hcs3 fun x hx => Or.inr (by have := List.mem_singleton.1 hx; omega)
   have hsz3 : W.heap.size ≤ W3.heap.size := Nat.le_trans hcs2.size hcs3.size
   have Hvp3 : Hid (JN w.heap.size f W3 (.agg #[.int .i64 ep.k, .int .i64 ep.n, .string ep.t, .slice ep.na ep.nl ep.nc, .slice ep.ia ep.il ep.ic]) jp) := Lib.hid (((hvp2.kept hcs2.toP fun b hb hm => hb.2.1 (List.mem_singleton.1 hm)).kept hcs3.toP fun b hb hm => hb.2.2 (List.mem_singleton.1 hm)).imp fun b hb => ⟨hb.1.1, Nat.lt_of_lt_of_le hb.1.2 hsz3⟩)
   have Hve3 : Hid (JN w.heap.size f W3 (.agg #[.int .i64 ee.k, .int .i64 ee.n, .string ee.t, .slice ee.na ee.nl ee.nc, .slice ee.ia ee.il ee.ic]) je) := Lib.hid (((hve2.kept hcs2.toP fun b hb hm => hb.2.1 (List.mem_singleton.1 hm)).kept hcs3.toP fun b hb hm => hb.2.2 (List.mem_singleton.1 hm)).imp fun b hb => ⟨hb.1.1, Nat.lt_of_lt_of_le hb.1.2 hsz3⟩)
   have hm3 := (hc13.block vb (lt_of_obj Hm1.out) (by simp)).trans Hm1.out
   have H3 := Lib.hid (And.intro hc13 (And.intro hm3 (And.intro hgp3 hge3)))
   simp only [putU, Nat.reduceAdd, Act.put, setIfInBounds_toArray, set_cons_zero, set_cons_succ, h16, h7, h10, h13, h14, h15]
   clear hvp hve hgpl hgel hne hap hvp2 hve2 hdW hcs2 hgp2 hge2 hcs3 hge3 hgp3 hc13 hsz3 hm3 hG hR hc
   refine anyU_one (k := 17) (by kernel_rfl) rfl (fun K hK => ?_)
   go_simp
   refine hK _ _ (fun _ => trivial) trivial ?_
   clear hK K
   refine anyU_one (k := 18) (by kernel_rfl) rfl (fun K hK => ?_)
   go_simp
   rw [← hW2]
   clear hW2 q0 q1 q2 q3 q4 qf ql hgp
   refine hK _ _ (fun _ => trivial) trivial ?_
   clear hK K
   refine anyU_one (k := 19) (by kernel_rfl) rfl (fun K hK => ?_)
   go_simp
   rw [← hW3]
   clear hW3 s0 s1 s2 s3 s4 sf sl hge
   refine hK _ _ (fun _ => trivial) trivial ?_
   clear hK K
   refine anyU_done (by kernel_rfl) ?_
   go_upto_region 3 with fail
   obtain ⟨jc, hjc⟩ : ∃ x, x = lk je ⟨#[99, 111, 100, 101]⟩ := ⟨_, rfl⟩
   obtain ⟨js, hjs⟩ : ∃ x, x = lk je ⟨#[109, 101, 115, 115, 97, 103, 101]⟩ := ⟨_, rfl⟩
   obtain ⟨jd, hjd⟩ : ∃ x, x = lk jp ⟨#[105, 100]⟩ := ⟨_, rfl⟩
   have Hjc := Lib.hid hjc
   have Hjs := Lib.hid hjs
   have Hjd := Lib.hid hjd
   clear hjc hjs hjd
   refine wp_region_put 29 [some 22, some 23, some 24, some 25, some 26, some 27, some 28, some 29, some 30, some 31, some 32, some 33, some 34, some 35, some 36, some 37, some 38, some 39, some 40, some 41, some 42, some 43, some 44, some 45, some 46, some 47, some 48, some 49, some 2] (fun j v W => match j with
    | 0 => v = .int .i64 ji.num
    | 1 => v = .string jm.text
    | 2 => v = .agg #[.int .i64 ep.k, .int .i64 ep.n, .string ep.t, .slice ep.na ep.nl ep.nc, .slice ep.ia ep.il ep.ic]
    | 3 => v = .agg #[.int .i64 1, .int .i64 ji.num, .int .i64 0, .string jm.text, .int .i64 ep.k, .int .i64 ep.n, .string ep.t, .slice ep.na ep.nl ep.nc, .slice ep.ia ep.il ep.ic]
    | 4 => v = .string jm.text
    | 5 => v = .agg #[.int .i64 ep.k, .int .i64 ep.n, .string ep.t, .slice ep.na ep.nl ep.nc, .slice ep.ia ep.il ep.ic]
    | 6 => v = .agg #[.int .i64 2, .int .i64 0, .int .i64 0, .string jm.text, .int .i64 ep.k, .int .i64 ep.n, .string ep.t, .slice ep.na ep.nl ep.nc, .slice ep.ia ep.il ep.ic]
    | 7 => v = .int .i64 ji.num
    | 8 => v = .func (.func 137) #[] #[]
    | 9 => v = .agg #[.int .i64 ej.k, .int .i64 ej.n, .string ej.t, .slice ej.na ej.nl ej.nc, .slice ej.ia ej.il ej.ic]
    | 10 => ∃ ev : Ev, v = .agg #[.int .i64 ev.k, .int .i64 ev.n, .string ev.t, .slice ev.na ev.nl ev.nc, .slice ev.ia ev.il ev.ic] ∧ JN w.heap.size f W (.agg #[.int .i64 ev.k, .int .i64 ev.n, .string ev.t, .slice ev.na ev.nl ev.nc, .slice ev.ia ev.il ev.ic]) jr
    | 11 => ∃ ev : Ev, v = .agg #[.int .i64 3, .int .i64 ji.num, .int .i64 0, .string ⟨#[]⟩, .int .i64 ev.k, .int .i64 ev.n, .string ev.t, .slice ev.na ev.nl ev.nc, .slice ev.ia ev.il ev.ic] ∧ JN w.heap.size f W (.agg #[.int .i64 ev.k, .int .i64 ev.n, .string ev.t, .slice ev.na ev.nl ev.nc, .slice ev.ia ev.il ev.ic]) jr
    | 12 => v = .int .i64 ji.num
    | 13 => v = .func (.func 137) #[] #[]
    | 14 => v = .agg #[.int .i64 ee.k, .int .i64 ee.n, .string ee.t, .slice ee.na ee.nl ee.nc, .slice ee.ia ee.il ee.ic]
    | 15 => ∃ ev : Ev, v = .agg #[.int .i64 ev.k, .int .i64 ev.n, .string ev.t, .slice ev.na ev.nl ev.nc, .slice ev.ia ev.il ev.ic] ∧ JN w.heap.size f W (.agg #[.int .i64 ev.k, .int .i64 ev.n, .string ev.t, .slice ev.na ev.nl ev.nc, .slice ev.ia ev.il ev.ic]) jc
    | 16 => v = .int .i64 jc.num
    | 17 => v = .func (.func 137) #[] #[]
    | 18 => v = .agg #[.int .i64 ee.k, .int .i64 ee.n, .string ee.t, .slice ee.na ee.nl ee.nc, .slice ee.ia ee.il ee.ic]
    | 19 => ∃ ev : Ev, v = .agg #[.int .i64 ev.k, .int .i64 ev.n, .string ev.t, .slice ev.na ev.nl ev.nc, .slice ev.ia ev.il ev.ic] ∧ JN w.heap.size f W (.agg #[.int .i64 ev.k, .int .i64 ev.n, .string ev.t, .slice ev.na ev.nl ev.nc, .slice ev.ia ev.il ev.ic]) js
    | 20 => v = .string js.text
    | 21 => v = .agg #[.int .i64 4, .int .i64 ji.num, .int .i64 jc.num, .string js.text, .int .i64 0, .int .i64 0, .string ⟨#[]⟩, .slice none 0 0, .slice none 0 0]
    | 22 => v = .func (.func 137) #[] #[]
    | 23 => v = .agg #[.int .i64 ep.k, .int .i64 ep.n, .string ep.t, .slice ep.na ep.nl ep.nc, .slice ep.ia ep.il ep.ic]
    | 24 => ∃ ev : Ev, v = .agg #[.int .i64 ev.k, .int .i64 ev.n, .string ev.t, .slice ev.na ev.nl ev.nc, .slice ev.ia ev.il ev.ic] ∧ JN w.heap.size f W (.agg #[.int .i64 ev.k, .int .i64 ev.n, .string ev.t, .slice ev.na ev.nl ev.nc, .slice ev.ia ev.il ev.ic]) jd
    | 25 => v = .int .i64 jd.num
    | 26 => v = .agg #[.int .i64 5, .int .i64 jd.num, .int .i64 0, .string ⟨#[]⟩, .int .i64 0, .int .i64 0, .string ⟨#[]⟩, .slice none 0 0, .slice none 0 0]
    | 27 => ∃ g, ∃ ev : Ev, v = .slice (some ⟨g, 0, none⟩) 5 5 ∧ W.heap[g]? = some (.cells #[.int .i64 1, .int .i64 ji.num, .int .i64 0, .string jm.text, .int .i64 ep.k, .int .i64 ep.n, .string ep.t, .slice ep.na ep.nl ep.nc, .slice ep.ia ep.il ep.ic, .int .i64 2, .int .i64 0, .int .i64 0, .string jm.text, .int .i64 ep.k, .int .i64 ep.n, .string ep.t, .slice ep.na ep.nl ep.nc, .slice ep.ia ep.il ep.ic, .int .i64 3, .int .i64 ji.num, .int .i64 0, .string ⟨#[]⟩, .int .i64 ev.k, .int .i64 ev.n, .string ev.t, .slice ev.na ev.nl ev.nc, .slice ev.ia ev.il ev.ic, .int .i64 4, .int .i64 ji.num, .int .i64 jc.num, .string js.text, .int .i64 0, .int .i64 0, .string ⟨#[]⟩, .slice none 0 0, .slice none 0 0, .int .i64 5, .int .i64 jd.num, .int .i64 0, .string ⟨#[]⟩, .int .i64 0, .int .i64 0, .string ⟨#[]⟩, .slice none 0 0, .slice none 0 0] 61 (0, 0)) ∧ w.heap.size ≤ g ∧ JN w.heap.size f W (.agg #[.int .i64 ev.k, .int .i64 ev.n, .string ev.t, .slice ev.na ev.nl ev.nc, .slice ev.ia ev.il ev.ic]) jr
    | 28 => ∃ g, ∃ ev : Ev, v = .slice (some ⟨g, 0, none⟩) 5 5 ∧ W.heap[g]? = some (.cells #[.int .i64 1, .int .i64 ji.num, .int .i64 0, .string jm.text, .int .i64 ep.k, .int .i64 ep.n, .string ep.t, .slice ep.na ep.nl ep.nc, .slice ep.ia ep.il ep.ic, .int .i64 2, .int .i64 0, .int .i64 0, .string jm.text, .int .i64 ep.k, .int .i64 ep.n, .string ep.t, .slice ep.na ep.nl ep.nc, .slice ep.ia ep.il ep.ic, .int .i64 3, .int .i64 ji.num, .int .i64 0, .string ⟨#[]⟩, .int .i64 ev.k, .int .i64 ev.n, .string ev.t, .slice ev.na ev.nl ev.nc, .slice ev.ia ev.il ev.ic, .int .i64 4, .int .i64 ji.num, .int .i64 jc.num, .string js.text, .int .i64 0, .int .i64 0, .string ⟨#[]⟩, .slice none 0 0, .slice none 0 0, .int .i64 5, .int .i64 jd.num, .int .i64 0, .string ⟨#[]⟩, .int .i64 0, .int .i64 0, .string ⟨#[]⟩, .slice none 0 0, .slice none 0 0] 61 (0, 0)) ∧ w.heap.size ≤ g ∧ JN w.heap.size f W (.agg #[.int .i64 ev.k, .int .i64 ev.n, .string ev.t, .slice ev.na ev.nl ev.nc, .slice ev.ia ev.il ev.ic]) jr
    | _ => True) (fun _ _ _ => True) (by kernel_rfl) (by kernel_rfl) (by kernel_rfl) (fun _ => trivial) ?_ ?_ ?_
   · intro j v W W2 hcw hR
     match j, hR with
     | 0, hR => exact hR
     | 1, hR => exact hR
     | 2, hR => exact hR
     | 3, hR => exact hR
     | 4, hR => exact hR
     | 5, hR => exact hR
     | 6, hR => exact hR
     | 7, hR => exact hR
     | 8, hR => exact hR
     | 9, hR => exact hR
     | 10, hR => obtain ⟨ev, h1, h2⟩ := hR; exact ⟨ev, h1, JN.same h2 hcw⟩
     | 11, hR => obtain ⟨ev, h1, h2⟩ := hR; exact ⟨ev, h1, JN.same h2 hcw⟩
     | 12, hR => exact hR
     | 13, hR => exact hR
     | 14, hR => exact hR
     | 15, hR => obtain ⟨ev, h1, h2⟩ := hR; exact ⟨ev, h1, JN.same h2 hcw⟩
     | 16, hR => exact hR
     | 17, hR => exact hR
     | 18, hR => exact hR
     | 19, hR => obtain ⟨ev, h1, h2⟩ := hR; exact ⟨ev, h1, JN.same h2 hcw⟩
     | 20, hR => exact hR
     | 21, hR => exact hR
     | 22, hR => exact hR
     | 23, hR => exact hR
     | 24, hR => obtain ⟨ev, h1, h2⟩ := hR; exact ⟨ev, h1, JN.same h2 hcw⟩
     | 25, hR => exact hR
     | 26, hR => exact hR
     | 27, hR => obtain ⟨g, ev, h1, h2, h3, h4⟩ := hR; exact ⟨g, ev, h1, (hcw.block g (lt_of_obj h2) (by simp)).trans h2, h3, JN.same h4 hcw⟩
     | 28, hR => obtain ⟨g, ev, h1, h2, h3, h4⟩ := hR; exact ⟨g, ev, h1, (hcw.block g (lt_of_obj h2) (by simp)).trans h2, h3, JN.same h4 hcw⟩
     | (j + 29), hR => exact trivial
   · intro q o ho hn listed u W hun hall hd hc hG K hK
     match q, ho, hn, hun, hd, hK with
     | 0, ho, _, hun, hd, hK =>
       have hbase : w1.heap.size ≤ W3.drew.heap.size := H3.out.1.size
       have hWj := (((show Chg [] W3 W3.drew from (Chg.refl _ _).drew).trans hc).block vb (lt_of_obj H3.out.2.1) (by simp)).trans H3.out.2.1
       have hWp := (((show Chg [] W3 W3.drew from (Chg.refl _ _).drew).trans hc).block gp (lt_of_obj H3.out.2.2.1) (by simp)).trans H3.out.2.2.1
       have hWe := (((show Chg [] W3 W3.drew from (Chg.refl _ _).drew).trans hc).block ge (lt_of_obj H3.out.2.2.2) (by simp)).trans H3.out.2.2.2
       obtain ⟨b0, b1, b2, b3, b4⟩ := box_kept vb hWj (Chg.refl [] W)
       obtain ⟨p0, p1, p2, p3, p4⟩ := box_kept gp hWp (Chg.refl [] W)
       obtain ⟨e0, e1, e2, e3, e4⟩ := box_kept ge hWe (Chg.refl [] W)
       clear hWj hWp hWe
       cases ho
       simp only [getElem_toArray, getElem_cons_zero, getElem_cons_succ]
       simp only [putU, Nat.reduceAdd, Act.put, setIfInBounds_toArray, set_cons_zero, set_cons_succ]
       go_simp
       have hk := hK _ _ (Chg.refl [] W) rfl trivial
       simp only [putU, Nat.reduceAdd, Act.put, setIfInBounds_toArray, set_cons_zero, set_cons_succ, getElem_toArray, getElem_cons_zero, getElem_cons_succ] at hk
       exact hk
     | 1, ho, _, hun, hd, hK =>
       have hbase : w1.heap.size ≤ W3.drew.heap.size := H3.out.1.size
       have hWj := (((show Chg [] W3 W3.drew from (Chg.refl _ _).drew).trans hc).block vb (lt_of_obj H3.out.2.1) (by simp)).trans H3.out.2.1
       have hWp := (((show Chg [] W3 W3.drew from (Chg.refl _ _).drew).trans hc).block gp (lt_of_obj H3.out.2.2.1) (by simp)).trans H3.out.2.2.1
       have hWe := (((show Chg [] W3 W3.drew from (Chg.refl _ _).drew).trans hc).block ge (lt_of_obj H3.out.2.2.2) (by simp)).trans H3.out.2.2.2
       obtain ⟨b0, b1, b2, b3, b4⟩ := box_kept vb hWj (Chg.refl [] W)
       obtain ⟨p0, p1, p2, p3, p4⟩ := box_kept gp hWp (Chg.refl [] W)
       obtain ⟨e0, e1, e2, e3, e4⟩ := box_kept ge hWe (Chg.refl [] W)
       clear hWj hWp hWe
       cases ho
       simp only [getElem_toArray, getElem_cons_zero, getElem_cons_succ]
       simp only [putU, Nat.reduceAdd, Act.put, setIfInBounds_toArray, set_cons_zero, set_cons_succ]
       go_simp
       have hk := hK _ _ (Chg.refl [] W) rfl trivial
       simp only [putU, Nat.reduceAdd, Act.put, setIfInBounds_toArray, set_cons_zero, set_cons_succ, getElem_toArray, getElem_cons_zero, getElem_cons_succ] at hk
       exact hk
     | 2, ho, _, hun, hd, hK =>
       have hbase : w1.heap.size ≤ W3.drew.heap.size := H3.out.1.size
       have hWj := (((show Chg [] W3 W3.drew from (Chg.refl _ _).drew).trans hc).block vb (lt_of_obj H3.out.2.1) (by simp)).trans H3.out.2.1
       have hWp := (((show Chg [] W3 W3.drew from (Chg.refl _ _).drew).trans hc).block gp (lt_of_obj H3.out.2.2.1) (by simp)).trans H3.out.2.2.1
       have hWe := (((show Chg [] W3 W3.drew from (Chg.refl _ _).drew).trans hc).block ge (lt_of_obj H3.out.2.2.2) (by simp)).trans H3.out.2.2.2
       obtain ⟨b0, b1, b2, b3, b4⟩ := box_kept vb hWj (Chg.refl [] W)
       obtain ⟨p0, p1, p2, p3, p4⟩ := box_kept gp hWp (Chg.refl [] W)
       obtain ⟨e0, e1, e2, e3, e4⟩ := box_kept ge hWe (Chg.refl [] W)
       clear hWj hWp hWe
       cases ho
       simp only [getElem_toArray, getElem_cons_zero, getElem_cons_succ]
       simp only [putU, Nat.reduceAdd, Act.put, setIfInBounds_toArray, set_cons_zero, set_cons_succ]
       go_simp
       have hk := hK _ _ (Chg.refl [] W) rfl trivial
       simp only [putU, Nat.reduceAdd, Act.put, setIfInBounds_toArray, set_cons_zero, set_cons_succ, getElem_toArray, getElem_cons_zero, getElem_cons_succ] at hk
       exact hk
     | 3, ho, _, hun, hd, hK =>
       have h0 : u 0 = .int .i64 ji.num := hd 0 (by kernel_rfl) (by decide)
       have h1 : u 1 = .string jm.text := hd 1 (by kernel_rfl) (by decide)
       have h2 : u 2 = .agg #[.int .i64 ep.k, .int .i64 ep.n, .string ep.t, .slice ep.na ep.nl ep.nc, .slice ep.ia ep.il ep.ic] := hd 2 (by kernel_rfl) (by decide)
       have hbase : w1.heap.size ≤ W3.drew.heap.size := H3.out.1.size
       cases ho
       simp only [getElem_toArray, getElem_cons_zero, getElem_cons_succ]
       simp only [putU, Nat.reduceAdd, Act.put, setIfInBounds_toArray, set_cons_zero, set_cons_succ, h0, h1, h2]
       go_simp
       have hk := hK _ _ (Chg.refl [] W) rfl trivial
       simp only [putU, Nat.reduceAdd, Act.put, setIfInBounds_toArray, set_cons_zero, set_cons_succ, getElem_toArray, getElem_cons_zero, getElem_cons_succ, h0, h1, h2] at hk
       exact hk
     | 4, ho, _, hun, hd, hK =>
       have hbase : w1.heap.size ≤ W3.drew.heap.size := H3.out.1.size
       have hWj := (((show Chg [] W3 W3.drew from (Chg.refl _ _).drew).trans hc).block vb (lt_of_obj H3.out.2.1) (by simp)).trans H3.out.2.1
       have hWp := (((show Chg [] W3 W3.drew from (Chg.refl _ _).drew).trans hc).block gp (lt_of_obj H3.out.2.2.1) (by simp)).trans H3.out.2.2.1
       have hWe := (((show Chg [] W3 W3.drew from (Chg.refl _ _).drew).trans hc).block ge (lt_of_obj H3.out.2.2.2) (by simp)).trans H3.out.2.2.2
       obtain ⟨b0, b1, b2, b3, b4⟩ := box_kept vb hWj (Chg.refl [] W)
       obtain ⟨p0, p1, p2, p3, p4⟩ := box_kept gp hWp (Chg.refl [] W)
       obtain ⟨e0, e1, e2, e3, e4⟩ := box_kept ge hWe (Chg.refl [] W)
       clear hWj hWp hWe
       cases ho
       simp only [getElem_toArray, getElem_cons_zero, getElem_cons_succ]
       simp only [putU, Nat.reduceAdd, Act.put, setIfInBounds_toArray, set_cons_zero, set_cons_succ]
       go_simp
       have hk := hK _ _ (Chg.refl [] W) rfl trivial
       simp only [putU, Nat.reduceAdd, Act.put, setIfInBounds_toArray, set_cons_zero, set_cons_succ, getElem_toArray, getElem_cons_zero, getElem_cons_succ] at hk
       exact hk
     | 5, ho, _, hun, hd, hK =>
       have hbase : w1.heap.size ≤ W3.drew.heap.size := H3.out.1.size
       have hWj := (((show Chg [] W3 W3.drew from (Chg.refl _ _).drew).trans hc).block vb (lt_of_obj H3.out.2.1) (by simp)).trans H3.out.2.1
       have hWp := (((show Chg [] W3 W3.drew from (Chg.refl _ _).drew).trans hc).block gp (lt_of_obj H3.out.2.2.1) (by simp)).trans H3.out.2.2.1
       have hWe := (((show Chg [] W3 W3.drew from (Chg.refl _ _).drew).trans hc).block ge (lt_of_obj H3.out.2.2.2) (by simp)).trans H3.out.2.2.2
       obtain ⟨b0, b1, b2, b3, b4⟩ := box_kept vb hWj (Chg.refl [] W)
       obtain ⟨p0, p1, p2, p3, p4⟩ := box_kept gp hWp (Chg.refl [] W)
       obtain ⟨e0, e1, e2, e3, e4⟩ := box_kept ge hWe (Chg.refl [] W)
       clear hWj hWp hWe
       cases ho
       simp only [getElem_toArray, getElem_cons_zero, getElem_cons_succ]
       simp only [putU, Nat.reduceAdd, Act.put, setIfInBounds_toArray, set_cons_zero, set_cons_succ]
       go_simp
       have hk := hK _ _ (Chg.refl [] W) rfl trivial
       simp only [putU, Nat.reduceAdd, Act.put, setIfInBounds_toArray, set_cons_zero, set_cons_succ, getElem_toArray, getElem_cons_zero, getElem_cons_succ] at hk
       exact hk
     | 6, ho, _, hun, hd, hK =>
       have h4 : u 4 = .string jm.text := hd 4 (by kernel_rfl) (by decide)
       have h5 : u 5 = .agg #[.int .i64 ep.k, .int .i64 ep.n, .string ep.t, .slice ep.na ep.nl ep.nc, .slice ep.ia ep.il ep.ic] := hd 5 (by kernel_rfl) (by decide)
       have hbase : w1.heap.size ≤ W3.drew.heap.size := H3.out.1.size
       cases ho
       simp only [getElem_toArray, getElem_cons_zero, getElem_cons_succ]
       simp only [putU, Nat.reduceAdd, Act.put, setIfInBounds_toArray, set_cons_zero, set_cons_succ, h4, h5]
       go_simp
       have hk := hK _ _ (Chg.refl [] W) rfl trivial
       simp only [putU, Nat.reduceAdd, Act.put, setIfInBounds_toArray, set_cons_zero, set_cons_succ, getElem_toArray, getElem_cons_zero, getElem_cons_succ, h4, h5] at hk
       exact hk
     | 7, ho, _, hun, hd, hK =>
       have hbase : w1.heap.size ≤ W3.drew.heap.size := H3.out.1.size
       have hWj := (((show Chg [] W3 W3.drew from (Chg.refl _ _).drew).trans hc).block vb (lt_of_obj H3.out.2.1) (by simp)).trans H3.out.2.1
       have hWp := (((show Chg [] W3 W3.drew from (Chg.refl _ _).drew).trans hc).block gp (lt_of_obj H3.out.2.2.1) (by simp)).trans H3.out.2.2.1
       have hWe := (((show Chg [] W3 W3.drew from (Chg.refl _ _).drew).trans hc).block ge (lt_of_obj H3.out.2.2.2) (by simp)).trans H3.out.2.2.2
       obtain ⟨b0, b1, b2, b3, b4⟩ := box_kept vb hWj (Chg.refl [] W)
       obtain ⟨p0, p1, p2, p3, p4⟩ := box_kept gp hWp (Chg.refl [] W)
       obtain ⟨e0, e1, e2, e3, e4⟩ := box_kept ge hWe (Chg.refl [] W)
       clear hWj hWp hWe
       cases ho
       simp only [getElem_toArray, getElem_cons_zero, getElem_cons_succ]
       simp only [putU, Nat.reduceAdd, Act.put, setIfInBounds_toArray, set_cons_zero, set_cons_succ]
       go_simp
       have hk := hK _ _ (Chg.refl [] W) rfl trivial
       simp only [putU, Nat.reduceAdd, Act.put, setIfInBounds_toArray, set_cons_zero, set_cons_succ, getElem_toArray, getElem_cons_zero, getElem_cons_succ] at hk
       exact hk
     | 8, ho, _, hun, hd, hK =>
       have hbase : w1.heap.size ≤ W3.drew.heap.size := H3.out.1.size
       have hWj := (((show Chg [] W3 W3.drew from (Chg.refl _ _).drew).trans hc).block vb (lt_of_obj H3.out.2.1) (by simp)).trans H3.out.2.1
       have hWp := (((show Chg [] W3 W3.drew from (Chg.refl _ _).drew).trans hc).block gp (lt_of_obj H3.out.2.2.1) (by simp)).trans H3.out.2.2.1
       have hWe := (((show Chg [] W3 W3.drew from (Chg.refl _ _).drew).trans hc).block ge (lt_of_obj H3.out.2.2.2) (by simp)).trans H3.out.2.2.2
       obtain ⟨b0, b1, b2, b3, b4⟩ := box_kept vb hWj (Chg.refl [] W)
       obtain ⟨p0, p1, p2, p3, p4⟩ := box_kept gp hWp (Chg.refl [] W)
       obtain ⟨e0, e1, e2, e3, e4⟩ := box_kept ge hWe (Chg.refl [] W)
       clear hWj hWp hWe
       cases ho
       simp only [getElem_toArray, getElem_cons_zero, getElem_cons_succ]
       simp only [putU, Nat.reduceAdd, Act.put, setIfInBounds_toArray, set_cons_zero, set_cons_succ]
       go_simp
       have hk := hK _ _ (Chg.refl [] W) rfl trivial
       simp only [putU, Nat.reduceAdd, Act.put, setIfInBounds_toArray, set_cons_zero, set_cons_succ, getElem_toArray, getElem_cons_zero, getElem_cons_succ] at hk
       exact hk
     | 9, ho, _, hun, hd, hK =>
       have hbase : w1.heap.size ≤ W3.drew.heap.size := H3.out.1.size
       have hWj := (((show Chg [] W3 W3.drew from (Chg.refl _ _).drew).trans hc).block vb (lt_of_obj H3.out.2.1) (by simp)).trans H3.out.2.1
       have hWp := (((show Chg [] W3 W3.drew from (Chg.refl _ _).drew).trans hc).block gp (lt_of_obj H3.out.2.2.1) (by simp)).trans H3.out.2.2.1
       have hWe := (((show Chg [] W3 W3.drew from (Chg.refl _ _).drew).trans hc).block ge (lt_of_obj H3.out.2.2.2) (by simp)).trans H3.out.2.2.2
       obtain ⟨b0, b1, b2, b3, b4⟩ := box_kept vb hWj (Chg.refl [] W)
       obtain ⟨p0, p1, p2, p3, p4⟩ := box_kept gp hWp (Chg.refl [] W)
       obtain ⟨e0, e1, e2, e3, e4⟩ := box_kept ge hWe (Chg.refl [] W)
       clear hWj hWp hWe
       cases ho
       simp only [getElem_toArray, getElem_cons_zero, getElem_cons_succ]
       simp only [putU, Nat.reduceAdd, Act.put, setIfInBounds_toArray, set_cons_zero, set_cons_succ]
       go_simp
       have hk := hK _ _ (Chg.refl [] W) rfl trivial
       simp only [putU, Nat.reduceAdd, Act.put, setIfInBounds_toArray, set_cons_zero, set_cons_succ, getElem_toArray, getElem_cons_zero, getElem_cons_succ] at hk
       exact hk
     | 10, ho, _, hun, hd, hK =>
       have h8 : u 8 = .func (.func 137) #[] #[] := hd 8 (by kernel_rfl) (by decide)
       have h9 : u 9 = .agg #[.int .i64 ej.k, .int .i64 ej.n, .string ej.t, .slice ej.na ej.nl ej.nc, .slice ej.ia ej.il ej.ic] := hd 9 (by kernel_rfl) (by decide)
       have hbase : w1.heap.size ≤ W3.drew.heap.size := H3.out.1.size
       have hWj := (((show Chg [] W3 W3.drew from (Chg.refl _ _).drew).trans hc).block vb (lt_of_obj H3.out.2.1) (by simp)).trans H3.out.2.1
       have hWp := (((show Chg [] W3 W3.drew from (Chg.refl _ _).drew).trans hc).block gp (lt_of_obj H3.out.2.2.1) (by simp)).trans H3.out.2.2.1
       have hWe := (((show Chg [] W3 W3.drew from (Chg.refl _ _).drew).trans hc).block ge (lt_of_obj H3.out.2.2.2) (by simp)).trans H3.out.2.2.2
       obtain ⟨b0, b1, b2, b3, b4⟩ := box_kept vb hWj (Chg.refl [] W)
       obtain ⟨p0, p1, p2, p3, p4⟩ := box_kept gp hWp (Chg.refl [] W)
       obtain ⟨e0, e1, e2, e3, e4⟩ := box_kept ge hWe (Chg.refl [] W)
       clear hWj hWp hWe
       cases ho
       simp only [getElem_toArray, getElem_cons_zero, getElem_cons_succ]
       simp only [putU, Nat.reduceAdd, Act.put, setIfInBounds_toArray, set_cons_zero, set_cons_succ, h8, h9]
       go_simp
       refine (member_any _ f W j _ ⟨#[114, 101, 115, 117, 108, 116]⟩ (Hj.out W (Hc1.out.trans (H3.out.1.trans ((show Chg [] W3 W3.drew from (Chg.refl _ _).drew).trans hc)))) Hs.out).mono ?_
       rintro e X ⟨ev, rfl, hvx, hcx⟩
       unfold Ev.val at hvx ⊢
       rw [← Hjr.out] at hvx
       have hk := hK _ _ hcx ⟨ev, rfl, hvx.base (Nat.le_trans Hc1.out.size (Nat.le_trans hbase hc.size))⟩ trivial
       simp only [putU, Nat.reduceAdd, Act.put, setIfInBounds_toArray, set_cons_zero, set_cons_succ, getElem_toArray, getElem_cons_zero, getElem_cons_succ, h8, h9] at hk
       exact hk
     | 11, ho, _, hun, hd, hK =>
       have h7 : u 7 = .int .i64 ji.num := hd 7 (by kernel_rfl) (by decide)
       have h10 : ∃ ev : Ev, u 10 = .agg #[.int .i64 ev.k, .int .i64 ev.n, .string ev.t, .slice ev.na ev.nl ev.nc, .slice ev.ia ev.il ev.ic] ∧ JN w.heap.size f W (.agg #[.int .i64 ev.k, .int .i64 ev.n, .string ev.t, .slice ev.na ev.nl ev.nc, .slice ev.ia ev.il ev.ic]) jr := hd 10 (by kernel_rfl) (by decide)
       obtain ⟨ev10, h10, hv10⟩ := h10
       have hbase : w1.heap.size ≤ W3.drew.heap.size := H3.out.1.size
       cases ho
       simp only [getElem_toArray, getElem_cons_zero, getElem_cons_succ]
       simp only [putU, Nat.reduceAdd, Act.put, setIfInBounds_toArray, set_cons_zero, set_cons_succ, h7, h10]
       go_simp
       have hk := hK _ _ (Chg.refl [] W) ⟨ev10, rfl, hv10⟩ trivial
       simp only [putU, Nat.reduceAdd, Act.put, setIfInBounds_toArray, set_cons_zero, set_cons_succ, getElem_toArray, getElem_cons_zero, getElem_cons_succ, h7, h10] at hk
       exact hk
     | 12, ho, _, hun, hd, hK =>
       have hbase : w1.heap.size ≤ W3.drew.heap.size := H3.out.1.size
       have hWj := (((show Chg [] W3 W3.drew from (Chg.refl _ _).drew).trans hc).block vb (lt_of_obj H3.out.2.1) (by simp)).trans H3.out.2.1
       have hWp := (((show Chg [] W3 W3.drew from (Chg.refl _ _).drew).trans hc).block gp (lt_of_obj H3.out.2.2.1) (by simp)).trans H3.out.2.2.1
       have hWe := (((show Chg [] W3 W3.drew from (Chg.refl _ _).drew).trans hc).block ge (lt_of_obj H3.out.2.2.2) (by simp)).trans H3.out.2.2.2
       obtain ⟨b0, b1, b2, b3, b4⟩ := box_kept vb hWj (Chg.refl [] W)
       obtain ⟨p0, p1, p2, p3, p4⟩ := box_kept gp hWp (Chg.refl [] W)
       obtain ⟨e0, e1, e2, e3, e4⟩ := box_kept ge hWe (Chg.refl [] W)
       clear hWj hWp hWe
       cases ho
       simp only [getElem_toArray, getElem_cons_zero, getElem_cons_succ]
       simp only [putU, Nat.reduceAdd, Act.put, setIfInBounds_toArray, set_cons_zero, set_cons_succ]
       go_simp
       have hk := hK _ _ (Chg.refl [] W) rfl trivial
       simp only [putU, Nat.reduceAdd, Act.put, setIfInBounds_toArray, set_cons_zero, set_cons_succ, getElem_toArray, getElem_cons_zero, getElem_cons_succ] at hk
       exact hk
     | 13, ho, _, hun, hd, hK =>
       have hbase : w1.heap.size ≤ W3.drew.heap.size := H3.out.1.size
       have hWj := (((show Chg [] W3 W3.drew from (Chg.refl _ _).drew).trans hc).block vb (lt_of_obj H3.out.2.1) (by simp)).trans H3.out.2.1
       have hWp := (((show Chg [] W3 W3.drew from (Chg.refl _ _).drew).trans hc).block gp (lt_of_obj H3.out.2.2.1) (by simp)).trans H3.out.2.2.1
       have hWe := (((show Chg [] W3 W3.drew from (Chg.refl _ _).drew).trans hc).block ge (lt_of_obj H3.out.2.2.2) (by simp)).trans H3.out.2.2.2
       obtain ⟨b0, b1, b2, b3, b4⟩ := box_kept vb hWj (Chg.refl [] W)
       obtain ⟨p0, p1, p2, p3, p4⟩ := box_kept gp hWp (Chg.refl [] W)
       obtain ⟨e0, e1, e2, e3, e4⟩ := box_kept ge hWe (Chg.refl [] W)
       clear hWj hWp hWe
       cases ho
       simp only [getElem_toArray, getElem_cons_zero, getElem_cons_succ]
       simp only [putU, Nat.reduceAdd, Act.put, setIfInBounds_toArray, set_cons_zero, set_cons_succ]
       go_simp
       have hk := hK _ _ (Chg.refl [] W) rfl trivial
       simp only [putU, Nat.reduceAdd, Act.put, setIfInBounds_toArray, set_cons_zero, set_cons_succ, getElem_toArray, getElem_cons_zero, getElem_cons_succ] at hk
       exact hk
     | 14, ho, _, hun, hd, hK =>
       have hbase : w1.heap.size ≤ W3.drew.heap.size := H3.out.1.size
       have hWj := (((show Chg [] W3 W3.drew from (Chg.refl _ _).drew).trans hc).block vb (lt_of_obj H3.out.2.1) (by simp)).trans H3.out.2.1
       have hWp := (((show Chg [] W3 W3.drew from (Chg.refl _ _).drew).trans hc).block gp (lt_of_obj H3.out.2.2.1) (by simp)).trans H3.out.2.2.1
       have hWe := (((show Chg [] W3 W3.drew from (Chg.refl _ _).drew).trans hc).block ge (lt_of_obj H3.out.2.2.2) (by simp)).trans H3.out.2.2.2
       obtain ⟨b0, b1, b2, b3, b4⟩ := box_kept vb hWj (Chg.refl [] W)
       obtain ⟨p0, p1, p2, p3, p4⟩ := box_kept gp hWp (Chg.refl [] W)
       obtain ⟨e0, e1, e2, e3, e4⟩ := box_kept ge hWe (Chg.refl [] W)
       clear hWj hWp hWe
       cases ho
       simp only [getElem_toArray, getElem_cons_zero, getElem_cons_succ]
       simp only [putU, Nat.reduceAdd, Act.put, setIfInBounds_toArray, set_cons_zero, set_cons_succ]
       go_simp
       have hk := hK _ _ (Chg.refl [] W) rfl trivial
       simp only [putU, Nat.reduceAdd, Act.put, setIfInBounds_toArray, set_cons_zero, set_cons_succ, getElem_toArray, getElem_cons_zero, getElem_cons_succ] at hk
       exact hk
     | 15, ho, _, hun, hd, hK =>
       have h13 : u 13 = .func (.func 137) #[] #[] := hd 13 (by kernel_rfl) (by decide)
       have h14 : u 14 = .agg #[.int .i64 ee.k, .int .i64 ee.n, .string ee.t, .slice ee.na ee.nl ee.nc, .slice ee.ia ee.il ee.ic] := hd 14 (by kernel_rfl) (by decide)
       have hbase : w1.heap.size ≤ W3.drew.heap.size := H3.out.1.size
       have hWj := (((show Chg [] W3 W3.drew from (Chg.refl _ _).drew).trans hc).block vb (lt_of_obj H3.out.2.1) (by simp)).trans H3.out.2.1
       have hWp := (((show Chg [] W3 W3.drew from (Chg.refl _ _).drew).trans hc).block gp (lt_of_obj H3.out.2.2.1) (by simp)).trans H3.out.2.2.1
       have hWe := (((show Chg [] W3 W3.drew from (Chg.refl _ _).drew).trans hc).block ge (lt_of_obj H3.out.2.2.2) (by simp)).trans H3.out.2.2.2
       obtain ⟨b0, b1, b2, b3, b4⟩ := box_kept vb hWj (Chg.refl [] W)
       obtain ⟨p0, p1, p2, p3, p4⟩ := box_kept gp hWp (Chg.refl [] W)
       obtain ⟨e0, e1, e2, e3, e4⟩ := box_kept ge hWe (Chg.refl [] W)
       clear hWj hWp hWe
       cases ho
       simp only [getElem_toArray, getElem_cons_zero, getElem_cons_succ]
       simp only [putU, Nat.reduceAdd, Act.put, setIfInBounds_toArray, set_cons_zero, set_cons_succ, h13, h14]
       go_simp
       refine (member_any _ f W je _ ⟨#[99, 111, 100, 101]⟩ (JN.same Hve3.out ((show Chg [] W3 W3.drew from (Chg.refl _ _).drew).trans hc)) (Hje.out ▸ Bd.lk Hs.out _)).mono ?_
       rintro e X ⟨ev, rfl, hvx, hcx⟩
       unfold Ev.val at hvx ⊢
       rw [← Hjc.out] at hvx
       have hk := hK _ _ hcx ⟨ev, rfl, hvx.base (Nat.le_trans Hc1.out.size (Nat.le_trans hbase hc.size))⟩ trivial
       simp only [putU, Nat.reduceAdd, Act.put, setIfInBounds_toArray, set_cons_zero, set_cons_succ, getElem_toArray, getElem_cons_zero, getElem_cons_succ, h13, h14] at hk
       exact hk
     | 16, ho, _, hun, hd, hK =>
       have h15 : ∃ ev : Ev, u 15 = .agg #[.int .i64 ev.k, .int .i64 ev.n, .string ev.t, .slice ev.na ev.nl ev.nc, .slice ev.ia ev.il ev.ic] ∧ JN w.heap.size f W (.agg #[.int .i64 ev.k, .int .i64 ev.n, .string ev.t, .slice ev.na ev.nl ev.nc, .slice ev.ia ev.il ev.ic]) jc := hd 15 (by kernel_rfl) (by decide)
       obtain ⟨ev15, h15, hv15⟩ := h15
       have hbase : w1.heap.size ≤ W3.drew.heap.size := H3.out.1.size
       have hWj := (((show Chg [] W3 W3.drew from (Chg.refl _ _).drew).trans hc).block vb (lt_of_obj H3.out.2.1) (by simp)).trans H3.out.2.1
       have hWp := (((show Chg [] W3 W3.drew from (Chg.refl _ _).drew).trans hc).block gp (lt_of_obj H3.out.2.2.1) (by simp)).trans H3.out.2.2.1
       have hWe := (((show Chg [] W3 W3.drew from (Chg.refl _ _).drew).trans hc).block ge (lt_of_obj H3.out.2.2.2) (by simp)).trans H3.out.2.2.2
       obtain ⟨b0, b1, b2, b3, b4⟩ := box_kept vb hWj (Chg.refl [] W)
       obtain ⟨p0, p1, p2, p3, p4⟩ := box_kept gp hWp (Chg.refl [] W)
       obtain ⟨e0, e1, e2, e3, e4⟩ := box_kept ge hWe (Chg.refl [] W)
       clear hWj hWp hWe
       have hf := fieldN ev15 W
       have Hl := Lib.hid (show JV _ f W ev15.val _ from hv15).lens
       cases ho
       simp only [getElem_toArray, getElem_cons_zero, getElem_cons_succ]
       simp only [putU, Nat.reduceAdd, Act.put, setIfInBounds_toArray, set_cons_zero, set_cons_succ, h15]
       go_simp
       have hk := hK (.int .i64 ev15.n) _ (Chg.refl [] W) (congrArg (Value.int .i64) Hl.out.2.1) trivial
       simp only [putU, Nat.reduceAdd, Act.put, setIfInBounds_toArray, set_cons_zero, set_cons_succ, getElem_toArray, getElem_cons_zero, getElem_cons_succ, h15] at hk
       exact hk
     | 17, ho, _, hun, hd, hK =>
       have hbase : w1.heap.size ≤ W3.drew.heap.size := H3.out.1.size
       have hWj := (((show Chg [] W3 W3.drew from (Chg.refl _ _).drew).trans hc).block vb (lt_of_obj H3.out.2.1) (by simp)).trans H3.out.2.1
       have hWp := (((show Chg [] W3 W3.drew from (Chg.refl _ _).drew).trans hc).block gp (lt_of_obj H3.out.2.2.1) (by simp)).trans H3.out.2.2.1
       have hWe := (((show Chg [] W3 W3.drew from (Chg.refl _ _).drew).trans hc).block ge (lt_of_obj H3.out.2.2.2) (by simp)).trans H3.out.2.2.2
       obtain ⟨b0, b1, b2, b3, b4⟩ := box_kept vb hWj (Chg.refl [] W)
       obtain ⟨p0, p1, p2, p3, p4⟩ := box_kept gp hWp (Chg.refl [] W)
       obtain ⟨e0, e1, e2, e3, e4⟩ := box_kept ge hWe (Chg.refl [] W)
       clear hWj hWp hWe
       cases ho
       simp only [getElem_toArray, getElem_cons_zero, getElem_cons_succ]
       simp only [putU, Nat.reduceAdd, Act.put, setIfInBounds_toArray, set_cons_zero, set_cons_succ]
       go_simp
       have hk := hK _ _ (Chg.refl [] W) rfl trivial
       simp only [putU, Nat.reduceAdd, Act.put, setIfInBounds_toArray, set_cons_zero, set_cons_succ, getElem_toArray, getElem_cons_zero, getElem_cons_succ] at hk
       exact hk
     | 18, ho, _, hun, hd, hK =>
       have hbase : w1.heap.size ≤ W3.drew.heap.size := H3.out.1.size
       have hWj := (((show Chg [] W3 W3.drew from (Chg.refl _ _).drew).trans hc).block vb (lt_of_obj H3.out.2.1) (by simp)).trans H3.out.2.1
       have hWp := (((show Chg [] W3 W3.drew from (Chg.refl _ _).drew).trans hc).block gp (lt_of_obj H3.out.2.2.1) (by simp)).trans H3.out.2.2.1
       have hWe := (((show Chg [] W3 W3.drew from (Chg.refl _ _).drew).trans hc).block ge (lt_of_obj H3.out.2.2.2) (by simp)).trans H3.out.2.2.2
       obtain ⟨b0, b1, b2, b3, b4⟩ := box_kept vb hWj (Chg.refl [] W)
       obtain ⟨p0, p1, p2, p3, p4⟩ := box_kept gp hWp (Chg.refl [] W)
       obtain ⟨e0, e1, e2, e3, e4⟩ := box_kept ge hWe (Chg.refl [] W)
       clear hWj hWp hWe
       cases ho
       simp only [getElem_toArray, getElem_cons_zero, getElem_cons_succ]
       simp only [putU, Nat.reduceAdd, Act.put, setIfInBounds_toArray, set_cons_zero, set_cons_succ]
       go_simp
       have hk := hK _ _ (Chg.refl [] W) rfl trivial
       simp only [putU, Nat.reduceAdd, Act.put, setIfInBounds_toArray, set_cons_zero, set_cons_succ, getElem_toArray, getElem_cons_zero, getElem_cons_succ] at hk
       exact hk
     | 19, ho, _, hun, hd, hK =>
       have h17 : u 17 = .func (.func 137) #[] #[] := hd 17 (by kernel_rfl) (by decide)
       have h18 : u 18 = .agg #[.int .i64 ee.k, .int .i64 ee.n, .string ee.t, .slice ee.na ee.nl ee.nc, .slice ee.ia ee.il ee.ic] := hd 18 (by kernel_rfl) (by decide)
       have hbase : w1.heap.size ≤ W3.drew.heap.size := H3.out.1.size
       have hWj := (((show Chg [] W3 W3.drew from (Chg.refl _ _).drew).trans hc).block vb (lt_of_obj H3.out.2.1) (by simp)).trans H3.out.2.1
       have hWp := (((show Chg [] W3 W3.drew from (Chg.refl _ _).drew).trans hc).block gp (lt_of_obj H3.out.2.2.1) (by simp)).trans H3.out.2.2.1
       have hWe := (((show Chg [] W3 W3.drew from (Chg.refl _ _).drew).trans hc).block ge (lt_of_obj H3.out.2.2.2) (by simp)).trans H3.out.2.2.2
       obtain ⟨b0, b1, b2, b3, b4⟩ := box_kept vb hWj (Chg.refl [] W)
       obtain ⟨p0, p1, p2, p3, p4⟩ := box_kept gp hWp (Chg.refl [] W)
       obtain ⟨e0, e1, e2, e3, e4⟩ := box_kept ge hWe (Chg.refl [] W)
       clear hWj hWp hWe
       cases ho
       simp only [getElem_toArray, getElem_cons_zero, getElem_cons_succ]
       simp only [putU, Nat.reduceAdd, Act.put, setIfInBounds_toArray, set_cons_zero, set_cons_succ, h17, h18]
       go_simp
       refine (member_any _ f W je _ ⟨#[109, 101, 115, 115, 97, 103, 101]⟩ (JN.same Hve3.out ((show Chg [] W3 W3.drew from (Chg.refl _ _).drew).trans hc)) (Hje.out ▸ Bd.lk Hs.out _)).mono ?_
       rintro e X ⟨ev, rfl, hvx, hcx⟩
       unfold Ev.val at hvx ⊢
       rw [← Hjs.out] at hvx
       have hk := hK _ _ hcx ⟨ev, rfl, hvx.base (Nat.le_trans Hc1.out.size (Nat.le_trans hbase hc.size))⟩ trivial
       simp only [putU, Nat.reduceAdd, Act.put, setIfInBounds_toArray, set_cons_zero, set_cons_succ, getElem_toArray, getElem_cons_zero, getElem_cons_succ, h17, h18] at hk
       exact hk
     | 20, ho, _, hun, hd, hK =>
       have h19 : ∃ ev : Ev, u 19 = .agg #[.int .i64 ev.k, .int .i64 ev.n, .string ev.t, .slice ev.na ev.nl ev.nc, .slice ev.ia ev.il ev.ic] ∧ JN w.heap.size f W (.agg #[.int .i64 ev.k, .int .i64 ev.n, .string ev.t, .slice ev.na ev.nl ev.nc, .slice ev.ia ev.il ev.ic]) js := hd 19 (by kernel_rfl) (by decide)
       obtain ⟨ev19, h19, hv19⟩ := h19
       have hbase : w1.heap.size ≤ W3.drew.heap.size := H3.out.1.size
       have hWj := (((show Chg [] W3 W3.drew from (Chg.refl _ _).drew).trans hc).block vb (lt_of_obj H3.out.2.1) (by simp)).trans H3.out.2.1
       have hWp := (((show Chg [] W3 W3.drew from (Chg.refl _ _).drew).trans hc).block gp (lt_of_obj H3.out.2.2.1) (by simp)).trans H3.out.2.2.1
       have hWe := (((show Chg [] W3 W3.drew from (Chg.refl _ _).drew).trans hc).block ge (lt_of_obj H3.out.2.2.2) (by simp)).trans H3.out.2.2.2
       obtain ⟨b0, b1, b2, b3, b4⟩ := box_kept vb hWj (Chg.refl [] W)
       obtain ⟨p0, p1, p2, p3, p4⟩ := box_kept gp hWp (Chg.refl [] W)
       obtain ⟨e0, e1, e2, e3, e4⟩ := box_kept ge hWe (Chg.refl [] W)
       clear hWj hWp hWe
       have hf := fieldT ev19 W
       have Hl := Lib.hid (show JV _ f W ev19.val _ from hv19).lens
       cases ho
       simp only [getElem_toArray, getElem_cons_zero, getElem_cons_succ]
       simp only [putU, Nat.reduceAdd, Act.put, setIfInBounds_toArray, set_cons_zero, set_cons_succ, h19]
       go_simp
       have hk := hK (.string ev19.t) _ (Chg.refl [] W) (congrArg Value.string Hl.out.2.2.1) trivial
       simp only [putU, Nat.reduceAdd, Act.put, setIfInBounds_toArray, set_cons_zero, set_cons_succ, getElem_toArray, getElem_cons_zero, getElem_cons_succ, h19] at hk
       exact hk
     | 21, ho, _, hun, hd, hK =>
       have h12 : u 12 = .int .i64 ji.num := hd 12 (by kernel_rfl) (by decide)
       have h16 : u 16 = .int .i64 jc.num := hd 16 (by kernel_rfl) (by decide)
       have h20 : u 20 = .string js.text := hd 20 (by kernel_rfl) (by decide)
       have hbase : w1.heap.size ≤ W3.drew.heap.size := H3.out.1.size
       cases ho
       simp only [getElem_toArray, getElem_cons_zero, getElem_cons_succ]
       simp only [putU, Nat.reduceAdd, Act.put, setIfInBounds_toArray, set_cons_zero, set_cons_succ, h12, h16, h20]
       go_simp
       have hk := hK _ _ (Chg.refl [] W) rfl trivial
       simp only [putU, Nat.reduceAdd, Act.put, setIfInBounds_toArray, set_cons_zero, set_cons_succ, getElem_toArray, getElem_cons_zero, getElem_cons_succ, h12, h16, h20] at hk
       exact hk
     | 22, ho, _, hun, hd, hK =>
       have hbase : w1.heap.size ≤ W3.drew.heap.size := H3.out.1.size
       have hWj := (((show Chg [] W3 W3.drew from (Chg.refl _ _).drew).trans hc).block vb (lt_of_obj H3.out.2.1) (by simp)).trans H3.out.2.1
       have hWp := (((show Chg [] W3 W3.drew from (Chg.refl _ _).drew).trans hc).block gp (lt_of_obj H3.out.2.2.1) (by simp)).trans H3.out.2.2.1
       have hWe := (((show Chg [] W3 W3.drew from (Chg.refl _ _).drew).trans hc).block ge (lt_of_obj H3.out.2.2.2) (by simp)).trans H3.out.2.2.2
       obtain ⟨b0, b1, b2, b3, b4⟩ := box_kept vb hWj (Chg.refl [] W)
       obtain ⟨p0, p1, p2, p3, p4⟩ := box_kept gp hWp (Chg.refl [] W)
       obtain ⟨e0, e1, e2, e3, e4⟩ := box_kept ge hWe (Chg.refl [] W)
       clear hWj hWp hWe
       cases ho
       simp only [getElem_toArray, getElem_cons_zero, getElem_cons_succ]
       simp only [putU, Nat.reduceAdd, Act.put, setIfInBounds_toArray, set_cons_zero, set_cons_succ]
       go_simp
       have hk := hK _ _ (Chg.refl [] W) rfl trivial
       simp only [putU, Nat.reduceAdd, Act.put, setIfInBounds_toArray, set_cons_zero, set_cons_succ, getElem_toArray, getElem_cons_zero, getElem_cons_succ] at hk
       exact hk
     | 23, ho, _, hun, hd, hK =>
       have hbase : w1.heap.size ≤ W3.drew.heap.size := H3.out.1.size
       have hWj := (((show Chg [] W3 W3.drew from (Chg.refl _ _).drew).trans hc).block vb (lt_of_obj H3.out.2.1) (by simp)).trans H3.out.2.1
       have hWp := (((show Chg [] W3 W3.drew from (Chg.refl _ _).drew).trans hc).block gp (lt_of_obj H3.out.2.2.1) (by simp)).trans H3.out.2.2.1
       have hWe := (((show Chg [] W3 W3.drew from (Chg.refl _ _).drew).trans hc).block ge (lt_of_obj H3.out.2.2.2) (by simp)).trans H3.out.2.2.2
       obtain ⟨b0, b1, b2, b3, b4⟩ := box_kept vb hWj (Chg.refl [] W)
       obtain ⟨p0, p1, p2, p3, p4⟩ := box_kept gp hWp (Chg.refl [] W)
       obtain ⟨e0, e1, e2, e3, e4⟩ := box_kept ge hWe (Chg.refl [] W)
       clear hWj hWp hWe
       cases ho
       simp only [getElem_toArray, getElem_cons_zero, getElem_cons_succ]
       simp only [putU, Nat.reduceAdd, Act.put, setIfInBounds_toArray, set_cons_zero, set_cons_succ]
       go_simp
       have hk := hK _ _ (Chg.refl [] W) rfl trivial
       simp only [putU, Nat.reduceAdd, Act.put, setIfInBounds_toArray, set_cons_zero, set_cons_succ, getElem_toArray, getElem_cons_zero, getElem_cons_succ] at hk
       exact hk
     | 24, ho, _, hun, hd, hK =>
       have h22 : u 22 = .func (.func 137) #[] #[] := hd 22 (by kernel_rfl) (by decide)
       have h23 : u 23 = .agg #[.int .i64 ep.k, .int .i64 ep.n, .string ep.t, .slice ep.na ep.nl ep.nc, .slice ep.ia ep.il ep.ic] := hd 23 (by kernel_rfl) (by decide)
       have hbase : w1.heap.size ≤ W3.drew.heap.size := H3.out.1.size
       have hWj := (((show Chg [] W3 W3.drew from (Chg.refl _ _).drew).trans hc).block vb (lt_of_obj H3.out.2.1) (by simp)).trans H3.out.2.1
       have hWp := (((show Chg [] W3 W3.drew from (Chg.refl _ _).drew).trans hc).block gp (lt_of_obj H3.out.2.2.1) (by simp)).trans H3.out.2.2.1
       have hWe := (((show Chg [] W3 W3.drew from (Chg.refl _ _).drew).trans hc).block ge (lt_of_obj H3.out.2.2.2) (by simp)).trans H3.out.2.2.2
       obtain ⟨b0, b1, b2, b3, b4⟩ := box_kept vb hWj (Chg.refl [] W)
       obtain ⟨p0, p1, p2, p3, p4⟩ := box_kept gp hWp (Chg.refl [] W)
       obtain ⟨e0, e1, e2, e3, e4⟩ := box_kept ge hWe (Chg.refl [] W)
       clear hWj hWp hWe
       cases ho
       simp only [getElem_toArray, getElem_cons_zero, getElem_cons_succ]
       simp only [putU, Nat.reduceAdd, Act.put, setIfInBounds_toArray, set_cons_zero, set_cons_succ, h22, h23]
       go_simp
       refine (member_any _ f W jp _ ⟨#[105, 100]⟩ (JN.same Hvp3.out ((show Chg [] W3 W3.drew from (Chg.refl _ _).drew).trans hc)) (Hjp.out ▸ Bd.lk Hs.out _)).mono ?_
       rintro e X ⟨ev, rfl, hvx, hcx⟩
       unfold Ev.val at hvx ⊢
       rw [← Hjd.out] at hvx
       have hk := hK _ _ hcx ⟨ev, rfl, hvx.base (Nat.le_trans Hc1.out.size (Nat.le_trans hbase hc.size))⟩ trivial
       simp only [putU, Nat.reduceAdd, Act.put, setIfInBounds_toArray, set_cons_zero, set_cons_succ, getElem_toArray, getElem_cons_zero, getElem_cons_succ, h22, h23] at hk
       exact hk
     | 25, ho, _, hun, hd, hK =>
       have h24 : ∃ ev : Ev, u 24 = .agg #[.int .i64 ev.k, .int .i64 ev.n, .string ev.t, .slice ev.na ev.nl ev.nc, .slice ev.ia ev.il ev.ic] ∧ JN w.heap.size f W (.agg #[.int .i64 ev.k, .int .i64 ev.n, .string ev.t, .slice ev.na ev.nl ev.nc, .slice ev.ia ev.il ev.ic]) jd := hd 24 (by kernel_rfl) (by decide)
       obtain ⟨ev24, h24, hv24⟩ := h24
       have hbase : w1.heap.size ≤ W3.drew.heap.size := H3.out.1.size
       have hWj := (((show Chg [] W3 W3.drew from (Chg.refl _ _).drew).trans hc).block vb (lt_of_obj H3.out.2.1) (by simp)).trans H3.out.2.1
       have hWp := (((show Chg [] W3 W3.drew from (Chg.refl _ _).drew).trans hc).block gp (lt_of_obj H3.out.2.2.1) (by simp)).trans H3.out.2.2.1
       have hWe := (((show Chg [] W3 W3.drew from (Chg.refl _ _).drew).trans hc).block ge (lt_of_obj H3.out.2.2.2) (by simp)).trans H3.out.2.2.2
       obtain ⟨b0, b1, b2, b3, b4⟩ := box_kept vb hWj (Chg.refl [] W)
       obtain ⟨p0, p1, p2, p3, p4⟩ := box_kept gp hWp (Chg.refl [] W)
       obtain ⟨e0, e1, e2, e3, e4⟩ := box_kept ge hWe (Chg.refl [] W)
       clear hWj hWp hWe
       have hf := fieldN ev24 W
       have Hl := Lib.hid (show JV _ f W ev24.val _ from hv24).lens
       cases ho
       simp only [getElem_toArray, getElem_cons_zero, getElem_cons_succ]
       simp only [putU, Nat.reduceAdd, Act.put, setIfInBounds_toArray, set_cons_zero, set_cons_succ, h24]
       go_simp
       have hk := hK (.int .i64 ev24.n) _ (Chg.refl [] W) (congrArg (Value.int .i64) Hl.out.2.1) trivial
       simp only [putU, Nat.reduceAdd, Act.put, setIfInBounds_toArray, set_cons_zero, set_cons_succ, getElem_toArray, getElem_cons_zero, getElem_cons_succ, h24] at hk
       exact hk
     | 26, ho, _, hun, hd, hK =>
       have h25 : u 25 = .int .i64 jd.num := hd 25 (by kernel_rfl) (by decide)
       have hbase : w1.heap.size ≤ W3.drew.heap.size := H3.out.1.size
       cases ho
       simp only [getElem_toArray, getElem_cons_zero, getElem_cons_succ]
       simp only [putU, Nat.reduceAdd, Act.put, setIfInBounds_toArray, set_cons_zero, set_cons_succ, h25]
       go_simp
       have hk := hK _ _ (Chg.refl [] W) rfl trivial
       simp only [putU, Nat.reduceAdd, Act.put, setIfInBounds_toArray, set_cons_zero, set_cons_succ, getElem_toArray, getElem_cons_zero, getElem_cons_succ, h25] at hk
       exact hk
     | 27, ho, _, hun, hd, hK =>
       have h3 : u 3 = .agg #[.int .i64 1, .int .i64 ji.num, .int .i64 0, .string jm.text, .int .i64 ep.k, .int .i64 ep.n, .string ep.t, .slice ep.na ep.nl ep.nc, .slice ep.ia ep.il ep.ic] := hd 3 (by kernel_rfl) (by decide)
       have h6 : u 6 = .agg #[.int .i64 2, .int .i64 0, .int .i64 0, .string jm.text, .int .i64 ep.k, .int .i64 ep.n, .string ep.t, .slice ep.na ep.nl ep.nc, .slice ep.ia ep.il ep.ic] := hd 6 (by kernel_rfl) (by decide)
       have h11 : ∃ ev : Ev, u 11 = .agg #[.int .i64 3, .int .i64 ji.num, .int .i64 0, .string ⟨#[]⟩, .int .i64 ev.k, .int .i64 ev.n, .string ev.t, .slice ev.na ev.nl ev.nc, .slice ev.ia ev.il ev.ic] ∧ JN w.heap.size f W (.agg #[.int .i64 ev.k, .int .i64 ev.n, .string ev.t, .slice ev.na ev.nl ev.nc, .slice ev.ia ev.il ev.ic]) jr := hd 11 (by kernel_rfl) (by decide)
       obtain ⟨ev11, h11, hv11⟩ := h11
       have h21 : u 21 = .agg #[.int .i64 4, .int .i64 ji.num, .int .i64 jc.num, .string js.text, .int .i64 0, .int .i64 0, .string ⟨#[]⟩, .slice none 0 0, .slice none 0 0] := hd 21 (by kernel_rfl) (by decide)
       have h26 : u 26 = .agg #[.int .i64 5, .int .i64 jd.num, .int .i64 0, .string ⟨#[]⟩, .int .i64 0, .int .i64 0, .string ⟨#[]⟩, .slice none 0 0, .slice none 0 0] := hd 26 (by kernel_rfl) (by decide)
       have hbase : w1.heap.size ≤ W3.drew.heap.size := H3.out.1.size
       cases ho
       simp only [getElem_toArray, getElem_cons_zero, getElem_cons_succ]
       simp only [putU, Nat.reduceAdd, Act.put, setIfInBounds_toArray, set_cons_zero, set_cons_succ, h3, h6, h11, h21, h26]
       go_simp
       have hcw : Chg [] W (W.alloc (.cells #[.int .i64 1, .int .i64 ji.num, .int .i64 0, .string jm.text, .int .i64 ep.k, .int .i64 ep.n, .string ep.t, .slice ep.na ep.nl ep.nc, .slice ep.ia ep.il ep.ic, .int .i64 2, .int .i64 0, .int .i64 0, .string jm.text, .int .i64 ep.k, .int .i64 ep.n, .string ep.t, .slice ep.na ep.nl ep.nc, .slice ep.ia ep.il ep.ic, .int .i64 3, .int .i64 ji.num, .int .i64 0, .string ⟨#[]⟩, .int .i64 ev11.k, .int .i64 ev11.n, .string ev11.t, .slice ev11.na ev11.nl ev11.nc, .slice ev11.ia ev11.il ev11.ic, .int .i64 4, .int .i64 ji.num, .int .i64 jc.num, .string js.text, .int .i64 0, .int .i64 0, .string ⟨#[]⟩, .slice none 0 0, .slice none 0 0, .int .i64 5, .int .i64 jd.num, .int .i64 0, .string ⟨#[]⟩, .int .i64 0, .int .i64 0, .string ⟨#[]⟩, .slice none 0 0, .slice none 0 0] 61)) := (Chg.refl _ _).alloc _
       have hk := hK _ _ hcw ⟨W.heap.size, ev11, rfl, heap_at _ _ _ rfl, Nat.le_trans Hc1.out.size (Nat.le_trans hbase hc.size), JN.same hv11 hcw⟩ trivial
       simp only [putU, Nat.reduceAdd, Act.put, setIfInBounds_toArray, set_cons_zero, set_cons_succ, getElem_toArray, getElem_cons_zero, getElem_cons_succ, h3, h6, h11, h21, h26] at hk
       exact hk
     | 28, ho, _, hun, hd, hK =>
       have h27 : ∃ g, ∃ ev : Ev, u 27 = .slice (some ⟨g, 0, none⟩) 5 5 ∧ W.heap[g]? = some (.cells #[.int .i64 1, .int .i64 ji.num, .int .i64 0, .string jm.text, .int .i64 ep.k, .int .i64 ep.n, .string ep.t, .slice ep.na ep.nl ep.nc, .slice ep.ia ep.il ep.ic, .int .i64 2, .int .i64 0, .int .i64 0, .string jm.text, .int .i64 ep.k, .int .i64 ep.n, .string ep.t, .slice ep.na ep.nl ep.nc, .slice ep.ia ep.il ep.ic, .int .i64 3, .int .i64 ji.num, .int .i64 0, .string ⟨#[]⟩, .int .i64 ev.k, .int .i64 ev.n, .string ev.t, .slice ev.na ev.nl ev.nc, .slice ev.ia ev.il ev.ic, .int .i64 4, .int .i64 ji.num, .int .i64 jc.num, .string js.text, .int .i64 0, .int .i64 0, .string ⟨#[]⟩, .slice none 0 0, .slice none 0 0, .int .i64 5, .int .i64 jd.num, .int .i64 0, .string ⟨#[]⟩, .int .i64 0, .int .i64 0, .string ⟨#[]⟩, .slice none 0 0, .slice none 0 0] 61 (0, 0)) ∧ w.heap.size ≤ g ∧ JN w.heap.size f W (.agg #[.int .i64 ev.k, .int .i64 ev.n, .string ev.t, .slice ev.na ev.nl ev.nc, .slice ev.ia ev.il ev.ic]) jr := hd 27 (by kernel_rfl) (by decide)
       obtain ⟨g27, ev27, h27, hb27, hl27, hv27⟩ := h27
       have hbase : w1.heap.size ≤ W3.drew.heap.size := H3.out.1.size
       cases ho
       simp only [getElem_toArray, getElem_cons_zero, getElem_cons_succ]
       simp only [putU, Nat.reduceAdd, Act.put, setIfInBounds_toArray, set_cons_zero, set_cons_succ, h27]
       go_simp
       have hk := hK _ _ (Chg.refl [] W) ⟨g27, ev27, rfl, hb27, hl27, hv27⟩ trivial
       simp only [putU, Nat.reduceAdd, Act.put, setIfInBounds_toArray, set_cons_zero, set_cons_succ, getElem_toArray, getElem_cons_zero, getElem_cons_succ, h27] at hk
       exact hk
     | (q + 29), _, hn, _, _, _ => exact absurd hn (by omega)
   · intro u W hc hR hG
     have h28 : ∃ g, ∃ ev : Ev, u 28 = .slice (some ⟨g, 0, none⟩) 5 5 ∧ W.heap[g]? = some (.cells #[.int .i64 1, .int .i64 ji.num, .int .i64 0, .string jm.text, .int .i64 ep.k, .int .i64 ep.n, .string ep.t, .slice ep.na ep.nl ep.nc, .slice ep.ia ep.il ep.ic, .int .i64 2, .int .i64 0, .int .i64 0, .string jm.text, .int .i64 ep.k, .int .i64 ep.n, .string ep.t, .slice ep.na ep.nl ep.nc, .slice ep.ia ep.il ep.ic, .int .i64 3, .int .i64 ji.num, .int .i64 0, .string ⟨#[]⟩, .int .i64 ev.k, .int .i64 ev.n, .string ev.t, .slice ev.na ev.nl ev.nc, .slice ev.ia ev.il ev.ic, .int .i64 4, .int .i64 ji.num, .int .i64 jc.num, .string js.text, .int .i64 0, .int .i64 0, .string ⟨#[]⟩, .slice none 0 0, .slice none 0 0, .int .i64 5, .int .i64 jd.num, .int .i64 0, .string ⟨#[]⟩, .int .i64 0, .int .i64 0, .string ⟨#[]⟩, .slice none 0 0, .slice none 0 0] 61 (0, 0)) ∧ w.heap.size ≤ g ∧ JN w.heap.size f W (.agg #[.int .i64 ev.k, .int .i64 ev.n, .string ev.t, .slice ev.na ev.nl ev.nc, .slice ev.ia ev.il ev.ic]) jr := hR 28 (by decide)
     obtain ⟨g, ev, h28, hb, hl, hv⟩ := h28
     have hcW := Hc1.out.trans (H3.out.1.trans ((show Chg [] W3 W3.drew from (Chg.refl _ _).drew).trans hc))
     have hvp := JN.same Hvp3.out ((show Chg [] W3 W3.drew from (Chg.refl _ _).drew).trans hc)
     simp only [putU, Nat.reduceAdd, Act.put, setIfInBounds_toArray, set_cons_zero, set_cons_succ, h28]
     clear hR hG hc
     refine anyU_done (by kernel_rfl) ?_
     have Hend := Lib.hid (And.intro hb (And.intro hl (And.intro hv (And.intro hcW hvp))))
     clear hb hl hv hcW hvp
     go_wp2_with fail
     go_ret
     obtain ⟨hb, hl, hv, hcW, hvp⟩ := Hend.out
     refine ⟨g, fun n => if n = 0 ∨ n = 1 then ep else if n = 2 then ev else ev0, rfl, lt_of_obj hb, hl, fun n hn => ?_, hcW⟩
     have e1 := Hji.out
     have e2 := Hjm.out
     have e3 := Hjp.out
     have e4 := Hje.out
     have e5 := Hjr.out
     have e6 := Hjc.out
     have e7 := Hjs.out
     have e8 := Hjd.out
     have hn5 : n = 0 ∨ n = 1 ∨ n = 2 ∨ n = 3 ∨ n = 4 := by omega
     have h9 : ∀ c, c < 9 → c = 0 ∨ c = 1 ∨ c = 2 ∨ c = 3 ∨ c = 4 ∨ c = 5 ∨ c = 6 ∨ c = 7 ∨ c = 8 := fun c hc => by omega
     rcases hn5 with rfl | rfl | rfl | rfl | rfl
     · refine ⟨fun c hc => ?_, ?_⟩
       · simp only [candI, candC, candT, mcs, ← e1, ← e2, ← e3, ← e4, ← e6, ← e7, ← e8]
         rcases h9 c hc with rfl | rfl | rfl | rfl | rfl | rfl | rfl | rfl | rfl <;> exact cell_of_heap hb rfl
       · simp only [candB, ← e3, ← e5]
         exact hvp
     · refine ⟨fun c hc => ?_, ?_⟩
       · simp only [candI, candC, candT, mcs, ← e1, ← e2, ← e3, ← e4, ← e6, ← e7, ← e8]
         rcases h9 c hc with rfl | rfl | rfl | rfl | rfl | rfl | rfl | rfl | rfl <;> exact cell_of_heap hb rfl
       · simp only [candB, ← e3, ← e5]
         exact hvp
     · refine ⟨fun c hc => ?_, ?_⟩
       · simp only [candI, candC, candT, mcs, ← e1, ← e2, ← e3, ← e4, ← e6, ← e7, ← e8]
         rcases h9 c hc with rfl | rfl | rfl | rfl | rfl | rfl | rfl | rfl | rfl <;> exact cell_of_heap hb rfl
       · simp only [candB, ← e3, ← e5]
         exact hv
     · refine ⟨fun c hc => ?_, ?_⟩
       · simp only [candI, candC, candT, mcs, ← e1, ← e2, ← e3, ← e4, ← e6, ← e7, ← e8]
         rcases h9 c hc with rfl | rfl | rfl | rfl | rfl | rfl | rfl | rfl | rfl <;> exact cell_of_heap hb rfl
       · simp only [candB, ← e3, ← e5]
         exact zeroN _ _ _
     · refine ⟨fun c hc => ?_, ?_⟩
       · simp only [candI, candC, candT, mcs, ← e1, ← e2, ← e3, ← e4, ← e6, ← e7, ← e8]
         rcases h9 c hc with rfl | rfl | rfl | rfl | rfl | rfl | rfl | rfl | rfl <;> exact cell_of_heap hb rfl
       · simp only [candB, ← e3, ← e5]
         exact zeroN _ _ _
end Go.Proofs.YtjlknaahpjiibaaGreatDoor.Jv
