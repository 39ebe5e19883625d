/- JsonrpcExactlyOnce: the count, and the law's memory. -/
import Derived.Test.YtiklgipcgdgkoaaDoorJsO
namespace Go.Proofs.YtiklgipcgdgkoaaDoor.Jv
open Go.RowKit Go.ChangeMaps Go.MapKept
set_option linter.unusedVariables false
set_option linter.unusedSimpArgs false
/-- how many pending jobs have an ID -/
def pc (js : List Jb) (i : Nat) : Nat := js.countP fun j => j.2.1 && decide (j.1 = (i : Int))
theorem pc_pr {js js' : List Jb} (h : prJ js' = prJ js) (i : Nat) : pc js' i = pc js i := by
  have e : ∀ l : List Jb, pc l i = (prJ l).countP fun p => p.2 && decide (p.1 = (i : Int)) := fun l => by
    unfold pc prJ
    rw [List.countP_map]
    rfl
  rw [e, e, h]
theorem pr_len {js js' : List Jb} (h : prJ js' = prJ js) : js'.length = js.length := by
  have := congrArg List.length h
  simpa [prJ] using this
def IdS (js : List Jb) : Prop := ∀ j ∈ js, 0 ≤ j.1 ∧ j.1 < 6
theorem IdS.pr {js js' : List Jb} (h : IdS js) (he : prJ js' = prJ js) : IdS js' := by
  intro j hj
  have h1 : (j.1, j.2.1) ∈ prJ js' := List.mem_map.2 ⟨j, hj, rfl⟩
  rw [he] at h1
  obtain ⟨j', hj', e⟩ := List.mem_map.1 h1
  have := h j' hj'
  simp only [Prod.mk.injEq] at e
  rw [← e.1]
  exact this
theorem IdS.ok {js : List Jb} (h : IdS js) : IdOk js := fun j hj => by have := h j hj; omega
theorem cntQ_snoc (qs : List Qm) (m : Qm) (i : Nat) : cntQ (qs ++ [m]) i = cntQ qs i + if m.i = (i : Int) then 1 else 0 := by
  unfold cntQ
  rw [List.countP_append, List.countP_singleton]
  simp
theorem pc_snoc (js : List Jb) (j : Jb) (i : Nat) : pc (js ++ [j]) i = pc js i + if j.2.1 = true ∧ j.1 = (i : Int) then 1 else 0 := by
  unfold pc
  rw [List.countP_append, List.countP_singleton]
  simp
theorem pc_ans {js : List Jb} {n : Nat} (hn : n < js.length) (hp : (js.getD n jd).2.1 = true) (i : Nat) : pc (ansJ js n) i + (if (js.getD n jd).1 = (i : Int) then 1 else 0) = pc js i := by
  unfold pc ansJ
  rw [getD_ge hn] at hp ⊢
  rw [List.countP_set hn]
  have hpos : (js[n].1 = (i : Int)) → 0 < js.countP fun j => j.2.1 && decide (j.1 = (i : Int)) := fun e => List.countP_pos_iff.2 ⟨js[n], List.getElem_mem hn, by simp [hp, e]⟩
  by_cases he : js[n].1 = (i : Int)
  · have := hpos he
    simp only [hp, he, decide_true, Bool.and_self, if_true, Bool.false_and, Bool.false_eq_true, if_false]
    omega
  · simp [hp, he]
/-- the count -/
structure LI (n : Nat) (A B : List Int) (js : List Jb) (qs : List Qm) : Prop where
  la : A.length = 6
  lb : B.length = 6
  lj : js.length ≤ n
  lq : qs.length ≤ n
  ids : IdS js
  ok : QsOk qs
  eq : ∀ i, i < 6 → A.getD i 0 = B.getD i 0 + (cntQ qs i : Nat) + (pc js i : Nat)
  b0 : ∀ i, i < 6 → 0 ≤ B.getD i 0
  an : ∀ i, i < 6 → A.getD i 0 ≤ n
theorem LI.mono {n m : Nat} {A B : List Int} {js : List Jb} {qs : List Qm} (h : LI n A B js qs) (hm : n ≤ m) : LI m A B js qs := ⟨h.la, h.lb, Nat.le_trans h.lj hm, Nat.le_trans h.lq hm, h.ids, h.ok, h.eq, h.b0, fun i hi => by have := h.an i hi; omega⟩
theorem LI.ask {n : Nat} {A B : List Int} {js js' : List Jb} {qs qs' : List Qm} (h : LI n A B js qs) {d : Nat} (hd : d < 6) (hN : StN js qs (d : Nat) js' qs') : LI (n + 1) (inc1 A d) B js' qs' := by
  have hla := h.la
  have hg := fun i (hi : i < 6) => inc1_get A d i (by omega)
  have han : ∀ i, i < 6 → (inc1 A d).getD i 0 ≤ (n + 1 : Nat) := fun i hi => by have := h.an i hi; rw [hg i hi]; split <;> omega
  rcases hN with ⟨rfl, rfl⟩ | ⟨rfl, m, rfl, hmi, hm⟩
  · refine ⟨by rw [inc1_len]; exact hla, h.lb, by rw [List.length_append]; have := h.lj; simpa using this, by have := h.lq; omega, ?_, h.ok, fun i hi => ?_, h.b0, han⟩
    · intro j hj
      rcases List.mem_append.1 hj with hj | hj
      · exact h.ids j hj
      · rw [List.mem_singleton.1 hj]; simp only; omega
    · rw [hg i hi, pc_snoc, h.eq i hi]
      by_cases he : d = i
      · subst he; simp; omega
      · rw [if_neg he, if_neg (by simp; omega)]; omega
  · refine ⟨by rw [inc1_len]; exact hla, h.lb, by have := h.lj; omega, by rw [List.length_append]; have := h.lq; simpa using this, h.ids, ?_, fun i hi => ?_, h.b0, han⟩
    · intro j hj
      rcases List.mem_append.1 hj with hj | hj
      · exact h.ok j hj
      · rw [List.mem_singleton.1 hj]
        exact ⟨by omega, hm.2⟩
    · rw [hg i hi, cntQ_snoc, h.eq i hi, hmi]
      by_cases he : d = i
      · subst he; simp; omega
      · rw [if_neg he, if_neg (by omega)]; omega
theorem LI.pr {n : Nat} {A B : List Int} {js js' : List Jb} {qs : List Qm} (h : LI n A B js qs) (hN : prJ js' = prJ js) : LI n A B js' qs :=
  ⟨h.la, h.lb, by rw [pr_len hN]; exact h.lj, h.lq, h.ids.pr hN, h.ok, fun i hi => by rw [pc_pr hN]; exact h.eq i hi, h.b0, h.an⟩
theorem LI.ans {n : Nat} {A B : List Int} {js js' : List Jb} {qs qs' : List Qm} {i : Int} (h : LI n A B js qs) (hN : AnN js qs i js' qs') : LI (n + 1) A B js' qs' := by
  rcases hN with ⟨_, rfl, rfl⟩ | ⟨k, m, rfl, hk, hp, rfl, rfl, hmi, hm⟩
  · exact h.mono (by omega)
  · have hid := h.ids _ (List.getElem_mem hk)
    have hg := getD_ge hk
    refine ⟨h.la, h.lb, by unfold ansJ; rw [List.length_set]; have := h.lj; omega, by rw [List.length_append]; have := h.lq; simpa using this, ?_, ?_, fun i hi => ?_, h.b0, fun i hi => by have := h.an i hi; omega⟩
    · intro j hj
      rcases List.mem_or_eq_of_mem_set hj with hj | hj
      · exact h.ids j hj
      · rw [hj, hg]; exact hid
    · intro j hj
      rcases List.mem_append.1 hj with hj | hj
      · exact h.ok j hj
      · rw [List.mem_singleton.1 hj]
        exact ⟨by rw [hmi, hg]; exact hid, hm.2⟩
    · have := pc_ans hk hp i
      rw [h.eq i hi, cntQ_snoc, hmi]
      split at this <;> rename_i he
      · rw [if_pos he]; omega
      · rw [if_neg he]; omega
theorem LI.bnd {n : Nat} {A B : List Int} {js : List Jb} {qs : List Qm} (h : LI n A B js qs) : ∀ i, i < 6 → 0 ≤ B.getD i 0 ∧ B.getD i 0 ≤ n := fun i hi => by
  have := h.eq i hi; have := h.an i hi; have := h.b0 i hi; omega
theorem LI.flush {n : Nat} {A B : List Int} {js : List Jb} {qs : List Qm} (h : LI n A B js qs) : LI n A (incs B qs) js [] := by
  have hg := fun i (hi : i < 6) => incs_get qs B i (by rw [h.lb]; exact hi) fun m hm => (h.ok m hm).1.1
  refine ⟨h.la, by rw [incs_len]; exact h.lb, h.lj, by simp, h.ids, fun m hm => by simp at hm, fun i hi => ?_, fun i hi => ?_, h.an⟩
  · rw [hg i hi, h.eq i hi]
    simp [cntQ]
  · rw [hg i hi]; have := h.b0 i hi; omega
theorem LI.done {n : Nat} {A B : List Int} {js : List Jb} (h : LI n A B js []) (hp : pendF 0 js = []) : A = B := by
  have hz : ∀ (l : List Jb) (k : Nat), pendF k l = [] → ∀ i, pc l i = 0 := by
    intro l
    induction l with
    | nil => intro k _ i; rfl
    | cons j l ih =>
      intro k hk i
      rw [pendF] at hk
      split at hk
      · cases hk
      · rename_i hj
        have := ih (k + 1) hk i
        unfold pc at this ⊢
        rw [List.countP_cons, this]
        simp [hj]
  apply List.ext_getElem (by rw [h.la, h.lb])
  intro i h1 h2
  have h3 := h.eq i (by rw [← h.la]; exact h1)
  rw [hz js 0 hp i] at h3
  simpa [cntQ, h1, h2] using h3
/-! ### the law's memory -/
/-- where the law's blocks lie -/
structure Geo (w0 : World) (base sb bs ba ga gk : Nat) : Prop where
  t : TP w0
  low : Tryd.laysValid_ren.g 3 < w0.heap.size ∧ Tryd.laysValid_ren.g 4 < w0.heap.size ∧ 2 < w0.heap.size
  hsb : w0.heap.size ≤ sb
  hbb : sb < base
  hga : w0.heap.size ≤ ga
  hgk : w0.heap.size ≤ gk
  nk : gk ≠ ga ∧ gk ≠ sb ∧ bs ≠ gk ∧ ba ≠ gk
  na : ga ≠ sb
structure Stt (w0 : World) (base sb bs ba ga gk : Nat) (A B : List Int) (js : List Jb) (qs : List Qm) (w : World) : Prop where
  srv : ∃ ja jn qa qn, Srv w base sb ja js.length jn qa qs.length qn js qs
  bx : Bx w sb bs ba ga
  sa : Six w gk A
  s6 : Six w ga B
  fr : Chg [] w0 w
section
variable {w0 w w' : World} {base sb bs ba ga gk : Nat} {A B : List Int} {js js' : List Jb} {qs qs' : List Qm}
theorem Geo.lowS (h : Geo w0 base sb bs ba ga gk) : Low base sb := ⟨⟨Nat.lt_of_lt_of_le h.low.1 h.hsb, Nat.lt_of_lt_of_le h.low.2.1 h.hsb⟩, Nat.lt_of_lt_of_le h.low.2.2 h.hsb, h.hbb⟩
theorem Stt.tp (h : Stt w0 base sb bs ba ga gk A B js qs w) (hG : Geo w0 base sb bs ba ga gk) : TP w := hG.t.new h.fr
theorem Stt.new (h : Stt w0 base sb bs ba ga gk A B js qs w) (hc : Chg [] w w') : Stt w0 base sb bs ba ga gk A B js qs w' := by
  obtain ⟨ja, jn, qa, qn, hs⟩ := h.srv
  exact ⟨⟨ja, jn, qa, qn, hs.new hc⟩, h.bx.new hc, h.sa.kept (S := fun _ => False) hc.p (fun h => h), h.s6.kept (S := fun _ => False) hc.p (fun h => h), h.fr.trans hc⟩
theorem Stt.post (h : Stt w0 base sb bs ba ga gk A B js qs w) (hG : Geo w0 base sb bs ba ga gk) (hS : SvPost base sb js' qs' w w') : Stt w0 base sb bs ba ga gk A B js' qs' w' := by
  refine ⟨hS.1, h.bx.sf hS.2, h.sa.sf hS.2 hG.nk.2.1, h.s6.sf hS.2 hG.na, (h.fr.p (S := fun _ => False)).comp hS.2 (fun g hg => Or.inr ?_) |> fun h => h.mono (T := fun k => k ∈ ([] : List Nat)) (fun x hx => hx.elim) |> ChgP.toL⟩
  have := hG.hsb; have := hG.hbb
  rcases hg with hg | hg
  · omega
  · have := hg.1; omega
theorem Stt.ask (h : Stt w0 base sb bs ba ga gk A B js qs w) (hG : Geo w0 base sb bs ba ga gk) (d : Nat) (v : Int) : Stt w0 base sb bs ba ga gk (A.set d v) B js qs (w.setCell ⟨gk, d, none⟩ (.int .i64 v)) := by
  have hc : Chg [gk] w (w.setCell ⟨gk, d, none⟩ (.int .i64 v)) := (Chg.refl _ _).setCell (Or.inl (by simp)) _
  obtain ⟨ja, jn, qa, qn, hs⟩ := h.srv
  have hk := hG.nk
  refine ⟨⟨ja, jn, qa, qn, hs.kept hc.toP fun g hg => ?_⟩, h.bx.kept hc.toP ⟨by simpa using hk.2.2.1, by simpa using hk.2.2.2⟩, h.sa.set d v, h.s6.kept hc.toP (by simpa using Ne.symm hk.1), (h.fr.comp hc fun g hg => Or.inr ?_)⟩
  · obtain rfl := List.mem_singleton.1 hg
    exact ⟨hk.2.1, not_jq h.sa.1 (by decide)⟩
  · rw [List.mem_singleton.1 hg]; exact hG.hgk
theorem Stt.clo (h : Stt w0 base sb bs ba ga gk A B js qs w) (hG : Geo w0 base sb bs ba ga gk) {e : Ending} (hP : CloPost base sb ga js qs B w e w') : Stt w0 base sb bs ba ga gk A (incs B qs) js [] w' := by
  obtain ⟨_, ⟨ja, jn, hs⟩, h6, hc⟩ := hP
  have hk := hG.nk
  have hn : ∀ g cs T, w.heap[g]? = some (.cells cs T (0, 0)) → (T ≠ 80 ∧ T ≠ 27) → g ≠ sb → g ≠ ga → w'.heap[g]? = some (.cells cs T (0, 0)) := fun g cs T hb hT h1 h2 =>
    (hc.block g (lt_of_obj hb) fun hs => hs.elim (fun hs => hs.elim h1 fun hs => not_jq hb hT hs.2) h2).trans hb
  refine ⟨⟨ja, jn, none, 0, hs⟩, ⟨hn _ _ _ h.bx.s (by decide) h.bx.ns.1 h.bx.na.1, hn _ _ _ h.bx.a (by decide) h.bx.ns.2.1 h.bx.na.2, h.bx.ns, h.bx.na⟩, ⟨hn _ _ _ h.sa.1 (by decide) hk.2.1 hk.1, h.sa.2⟩, h6, (h.fr.p (S := fun _ => False)).comp hc (fun g hg => Or.inr ?_) |> fun h => h.mono (T := fun k => k ∈ ([] : List Nat)) (fun x hx => hx.elim) |> ChgP.toL⟩
  have := hG.hsb; have := hG.hbb; have := hG.hga
  rcases hg with (hg | hg) | hg
  · omega
  · have := hg.1; omega
  · omega
end
end Go.Proofs.YtiklgipcgdgkoaaDoor.Jv
