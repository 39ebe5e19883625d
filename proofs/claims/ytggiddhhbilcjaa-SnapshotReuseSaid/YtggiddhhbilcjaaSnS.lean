/- Snapshots (plain): Commit keeps what is known; reuse. -/
import Derived.Test.YtggiddhhbilcjaaSnQ
namespace Go.Proofs.Ytggiddhhbilcjaa.Sn
open Go.RowKit
set_option linter.unusedVariables false
set_option linter.unusedSimpArgs false
section
variable {p : Prg} {s : HS} {k : QK} {xs : List Int}
def nxt (s : HS) : HS := { s with lat := s.lat + 1 }
theorem comP_eq (s : HS) (k : QK) (xs : List Int) : comP s k xs = chgP (nxt s) k xs := rfl
theorem comP_lat : (comP s k xs).lat = s.lat + 1 := by rw [comP_eq]; unfold chgP; split <;> rfl
theorem comP_old : (comP s k xs).old = s.old := by rw [comP_eq]; unfold chgP; split <;> rfl
theorem comP_cnt : (comP s k xs).cnt = s.cnt := by rw [comP_eq]; unfold chgP; split <;> rfl
theorem inp_past (h : HInv p s) (x : QK) : s.inp x (s.lat + 1) = s.inp x s.lat := inpL_past (fun e he => ((h.vers x).bd e he).2) (by omega)
theorem comP_inp (h : HInv p s) (x : QK) {v : Int} (hv : v ≤ s.lat) : ((comP s k xs).inp x v).1 = (s.inp x v).1 := by
  rw [comP_eq]
  unfold chgP
  split
  · rfl
  · unfold HS.inp nxt upd
    simp only
    split
    · rename_i e
      subst e
      exact (inpL_snoc (by simp only; omega)).1
    · rfl
theorem comP_inp_ne (h : HInv p s) {x : QK} (hx : x ≠ k) (v : Int) : (comP s k xs).inp x v = s.inp x v := by
  rw [comP_eq]
  unfold chgP
  split
  · rfl
  · unfold HS.inp nxt upd
    simp only
    rw [if_neg hx]
theorem comP_inp_new (h : HInv p s) : ((comP s k xs).inp k (s.lat + 1)).1 = xs := by
  rw [comP_eq]
  unfold chgP
  split
  · rename_i e; exact e
  · unfold HS.inp nxt upd
    simp only
    rw [if_pos trivial, inpL_snoc_ge (by simp) (fun e he => by have := ((h.vers k).bd e he).2; omega)]
theorem comP_vers (x : QK) (e : Int × List Int) (he : e ∈ (comP s k xs).vers x) : e ∈ s.vers x ∨ (x = k ∧ e.1 = s.lat + 1) := by
  rw [comP_eq] at he
  unfold chgP at he
  split at he
  · exact Or.inl he
  · unfold nxt upd at he
    simp only at he
    split at he
    · rename_i e1
      subst e1
      rcases List.mem_append.1 he with he | he
      · exact Or.inl he
      · rw [List.mem_singleton] at he
        exact Or.inr ⟨rfl, by rw [he]⟩
    · exact Or.inl he
theorem Sep.lat {l : List RR} {a b : Int} (h : Sep l a) (hab : a ≤ b) : Sep l b := by
  obtain ⟨vs, h1, h2, h3, h4⟩ := h
  exact ⟨vs, h1, fun v hv => by have := h2 v hv; omega, h3, h4⟩
theorem Sep.cut {l : List RR} {L : Int} {k : QK} (h : Sep l L) : Sep (l.map (cutP (L + 1) k)) (L + 1) := by
  obtain ⟨vs, h1, h2, h3, h4⟩ := h
  refine ⟨vs, h1, fun v hv => by have := h2 v hv; omega, by simpa using h3, fun i hi hi' => ?_⟩
  have hl : i < l.length := by simpa using hi
  have := h4 i hl hi'
  have hv := h2 vs[i] (List.getElem_mem _)
  rw [List.getElem_map]
  unfold cutP
  split
  · exact ⟨this.1, by simp only; omega⟩
  · exact this
theorem comP_inv (hp : PrgOk p) (h : HInv p s) (hf : s.lat + 1 < fev) : HInv p (comP s k xs) := by
  have hl := h.lat
  -- a result that goes on
  have hgo : ∀ (q : Nat) r r', q < p.qs.length → ROk p s q r → r'.xs = r.xs → r'.ins = r.ins → r'.first = r.first → ((r' = r ∧ (r.last = fev → ∀ x ∈ r.ins, ((comP s k xs).inp x (s.lat + 1)).1 = (s.inp x s.lat).1)) ∨ (r'.last = s.lat ∧ r.last = fev)) → ROk p (comP s k xs) q r' := by
    intro q r r' hq hr e1 e2 e3 hc
    have hrl := hr.last
    have hrf := hr.first
    refine ROk.move hp hq hr e1 e2 ?_ (by rw [e3, comP_lat]; omega) fun v h0 h1 h2 h3 => ?_
    · rcases hc with ⟨rfl, _⟩ | ⟨e, _⟩
      · exact hrl.imp id fun h => by rw [comP_lat]; omega
      · rw [e, comP_lat]; exact Or.inr (by omega)
    · rw [comP_lat] at h1
      rw [e3] at h2
      by_cases hv : v ≤ s.lat
      · refine ⟨v, ⟨h0, hv, h2, ?_⟩, fun x hx => comP_inp h x hv⟩
        rcases hc with ⟨rfl, _⟩ | ⟨e, e'⟩
        · exact h3
        · rw [e']; omega
      · obtain rfl : v = s.lat + 1 := by omega
        rcases hc with ⟨rfl, hx⟩ | ⟨e, _⟩
        · have hlast : r'.last = fev := hrl.resolve_right (by omega)
          exact ⟨s.lat, ⟨hl.1, Int.le_refl _, hrf.2, by omega⟩, hx hlast⟩
        · omega
  have hvers : ∀ x, VOk ((comP s k xs).vers x) (s.lat + 1) := by
    intro x
    refine ⟨?_, fun e he => ?_⟩
    · rw [comP_eq]
      unfold chgP
      split
      · exact (h.vers x).inc
      · unfold nxt upd
        simp only
        split
        · rename_i e1
          subst e1
          refine List.pairwise_append.2 ⟨(h.vers _).inc, by simp, fun a ha b hb => ?_⟩
          rw [List.mem_singleton] at hb
          subst hb
          have := ((h.vers _).bd a ha).2
          simp only; omega
        · exact (h.vers x).inc
    · rcases comP_vers x e he with he | ⟨_, he⟩
      · have := (h.vers x).bd e he
        exact ⟨this.1, by omega⟩
      · omega
  refine ⟨by rw [comP_lat]; exact hvers, by rw [comP_lat]; omega, fun x => ?_, fun x r hr => ?_⟩
  · rw [comP_lat, comP_eq]
    unfold chgP
    split
    · exact (h.sep x).lat (by omega)
    · exact (h.sep x).cut
  · by_cases hc : ((nxt s).inp k (nxt s).lat).1 = xs
    · have he : (comP s k xs).res x = s.res x := by rw [comP_eq]; unfold chgP; rw [if_pos hc]; rfl
      rw [he] at hr
      obtain ⟨q, a, b, c⟩ := h.res x r hr
      refine ⟨q, a, b, hgo q r r a c rfl rfl rfl (Or.inl ⟨rfl, fun _ y hy => ?_⟩)⟩
      have : ∀ y, (comP s k xs).inp y (s.lat + 1) = s.inp y (s.lat + 1) := fun y => by rw [comP_eq]; unfold chgP; rw [if_pos hc]; rfl
      rw [this, inp_past h]
    · have he : (comP s k xs).res x = (s.res x).map (cutP (s.lat + 1) k) := by rw [comP_eq]; unfold chgP; rw [if_neg hc]; rfl
      rw [he] at hr
      obtain ⟨r0, hr0, rfl⟩ := List.mem_map.1 hr
      obtain ⟨q, a, b, c⟩ := h.res x r0 hr0
      refine ⟨q, a, b, ?_⟩
      by_cases hcut : r0.last = fev ∧ k ∈ r0.ins
      · refine hgo q r0 _ a c ?_ ?_ ?_ (Or.inr ⟨?_, hcut.1⟩) <;> unfold cutP <;> rw [if_pos hcut]
        simp only; omega
      · have e : cutP (s.lat + 1) k r0 = r0 := by unfold cutP; rw [if_neg hcut]
        rw [e]
        refine hgo q r0 r0 a c rfl rfl rfl (Or.inl ⟨rfl, fun hl y hy => ?_⟩)
        rw [comP_inp_ne h (x := y) (fun (e : y = k) => hcut ⟨hl, e ▸ hy⟩), inp_past h]
theorem comP_ins (h : HInv p s) {v : Int} (hv : v ≤ s.lat) : insS p (comP s k xs) v = insS p s v := by
  unfold insS
  exact List.map_congr_left fun i _ => by rw [comP_inp h _ hv]
theorem comP_ins_new (h : HInv p s) {i : Nat} {n : Int} (hi : (i : Int) < p.inp) : insS p (comP s (0, (i : Int), 0) [n]) (s.lat + 1) = (insS p s s.lat).set i n := by
  unfold insS
  refine List.ext_getElem (by simp) fun j h1 h2 => ?_
  simp only [List.getElem_map, List.getElem_range, List.getElem_set]
  by_cases e : i = j
  · subst e
    rw [if_pos rfl, comP_inp_new h]
    rfl
  · rw [if_neg e, comP_inp_ne h (fun e' => e (by have := congrArg (fun k : QK => k.2.1) e'; simp only at this; omega)), inp_past h]
end
/-- the value of a get -/
theorem get_val {p : Prg} (hp : PrgOk p) {s : HS} (h : HInv p s) {rev : Int} (h0 : 0 ≤ rev) (h1 : rev ≤ s.lat) {q : Nat} (hq : q < p.qs.length) :
    (RQ p.qs rev p.qs.length s (1, (q : Int), 0)).1.xs = [val p (insS p s rev) q] ∧ Stp p rev s (RQ p.qs rev p.qs.length s (1, (q : Int), 0)).2 := by
  have hg := good_RQ hp rev p.qs.length s q hq hq h h0 h1
  have hr := hg.rok
  have := (hr.val rev h0 (by rw [hg.stp.lat]; exact h1) hg.bd.1 hg.bd.2).1
  rw [insS_of_vers hg.stp.vers] at this
  exact ⟨this, hg.stp⟩
theorem inpL_none {rev rev' : Int} : ∀ {l : List (Int × List Int)} {x : List Int} {f : Int}, (∀ e ∈ l, (rev < e.1 ↔ rev' < e.1)) → (inpL rev' l x f).1 = (inpL rev l x f).1 := by
  intro l
  induction l with
  | nil => intro x f _; rfl
  | cons e l ih =>
    intro x f h
    have := h e (by simp)
    unfold inpL
    by_cases hlt : rev < e.1
    · rw [if_pos hlt, if_pos (this.1 hlt)]
    · rw [if_neg hlt, if_neg (fun h' => hlt (this.2 h'))]
      exact ih fun e' h' => h e' (by simp [h'])
theorem inpL_ends {rev : Int} : ∀ {l : List (Int × List Int)} {x : List Int} {f : Int}, ((inpL rev l x f).2.1 = f ∨ ∃ e ∈ l, (inpL rev l x f).2.1 = e.1) ∧ ((inpL rev l x f).2.2 = fev ∨ ∃ e ∈ l, rev < e.1 ∧ (inpL rev l x f).2.2 = e.1 - 1) := by
  intro l
  induction l with
  | nil => intro x f; exact ⟨Or.inl rfl, Or.inl rfl⟩
  | cons e l ih =>
    intro x f
    unfold inpL
    split
    · rename_i h
      exact ⟨Or.inl rfl, Or.inr ⟨e, by simp, h, rfl⟩⟩
    · obtain ⟨a, b⟩ := ih (x := e.2) (f := e.1)
      exact ⟨Or.inr (a.elim (fun a => ⟨e, by simp, a⟩) fun ⟨e', x, y⟩ => ⟨e', by simp [x], y⟩), b.imp id fun ⟨e', x, y⟩ => ⟨e', by simp [x], y⟩⟩
/-- what is known of a history that was made by commits -/
structure HRel (p : Prg) (s : HS) (rows : List (List Int)) (tg : Nat → Nat) : Prop where
  inv : HInv p s
  lat : s.lat + 1 = rows.length
  row : ∀ v : Nat, v < rows.length → rows.getD v [] = insS p s v
  ver : ∀ (i : Nat) e, e ∈ s.vers (0, (i : Int), 0) → ∃ j : Nat, e.1 = j + 1 ∧ tg j = i
theorem HRel.start (p : Prg) (tg : Nat → Nat) : HRel p HS.empty [List.replicate p.inp.toNat 0] tg := by
  refine ⟨⟨fun k => ⟨List.Pairwise.nil, by simp [HS.empty]⟩, ⟨Int.le_refl _, by unfold fev; decide⟩, fun k => ⟨[], List.nodup_nil, by simp, rfl, fun i h => by simp [HS.empty] at h⟩, fun k r hr => by simp [HS.empty] at hr⟩, rfl, fun v hv => ?_, fun i e he => by simp [HS.empty] at he⟩
  obtain rfl : v = 0 := by simp at hv; omega
  unfold insS HS.inp HS.empty inpL
  refine List.ext_getElem (by simp) fun j h1 h2 => ?_
  simp
theorem HRel.commit {p : Prg} (hp : PrgOk p) {s : HS} {rows : List (List Int)} {tg : Nat → Nat} (h : HRel p s rows tg) {i : Nat} {n : Int} (hi : (i : Int) < p.inp) (ht : tg (rows.length - 1) = i) (hf : s.lat + 1 < fev) : HRel p (comP s (0, (i : Int), 0) [n]) (rows ++ [(rows.getD (rows.length - 1) []).set i n]) tg := by
  have hl := h.lat
  have h0 := h.inv.lat
  refine ⟨comP_inv hp h.inv hf, by rw [comP_lat]; simp; omega, fun v hv => ?_, fun j e he => ?_⟩
  · by_cases hlt : v < rows.length
    · rw [comP_ins h.inv (by omega), ← h.row v hlt, List.getD_eq_getElem?_getD, List.getD_eq_getElem?_getD, List.getElem?_append_left hlt, ← List.getD_eq_getElem?_getD]
    · have e : v = rows.length := by simp at hv; omega
      subst e
      rw [show ((rows.length : Nat) : Int) = s.lat + 1 by omega, comP_ins_new h.inv hi, h.row _ (by omega), show ((rows.length - 1 : Nat) : Int) = s.lat by omega, List.getD_eq_getElem?_getD, List.getElem?_append_right (by omega)]
      simp
  · rcases comP_vers _ e he with he | ⟨hk, he⟩
    · exact h.ver j e he
    · have : (j : Int) = i := congrArg (fun k : QK => k.2.1) hk
      exact ⟨rows.length - 1, by omega, by omega⟩
/-- what an evaluation leaves of it -/
theorem HRel.stp {p : Prg} {s s' : HS} {rev : Int} {rows : List (List Int)} {tg : Nat → Nat} (h : HRel p s rows tg) (k : Stp p rev s s') : HRel p s' rows tg :=
  ⟨k.inv, by rw [k.lat]; exact h.lat, fun v hv => by rw [insS_of_vers k.vers]; exact h.row v hv, fun i e he => h.ver i e (by rw [← k.vers]; exact he)⟩
theorem not_tr {p : Prg} (hp : PrgOk p) {ins : List Int} {i : Nat} {P : Nat → Prop} (hP : ∀ x, P x → x < p.qs.length ∧ ∀ k ∈ reads p ins x, k ≠ (0, (i : Int), 0) ∧ (k.1 = 1 → P k.2.1.toNat)) {q : Nat} {k : QK} (ht : TR p ins q k) (hq : P q) : k ≠ (0, (i : Int), 0) := by
  induction ht with
  | base hm => exact ((hP _ hq).2 _ hm).1
  | step hm _ ih => exact ih (by have := ((hP _ hq).2 _ hm).2 rfl; simpa using this)
/-- nothing is evaluated the second time -/
theorem reuse {p : Prg} (hp : PrgOk p) {s : HS} {rows : List (List Int)} {tg : Nat → Nat} (h : HRel p s rows tg) (hres : ∀ k, s.res k = []) {q : Nat} (hq : q < p.qs.length) {a b : Nat} (ha : a < rows.length) (hb : b < rows.length)
    (hno : ∀ j : Nat, min a b ≤ j → j < max a b → ¬ TR p (insS p s (min a b : Nat)) q (0, (tg j : Int), 0)) :
    (RQ p.qs b p.qs.length (RQ p.qs a p.qs.length s (1, (q : Int), 0)).2 (1, (q : Int), 0)).2 = (RQ p.qs a p.qs.length s (1, (q : Int), 0)).2 ∧
    (RQ p.qs b p.qs.length (RQ p.qs a p.qs.length s (1, (q : Int), 0)).2 (1, (q : Int), 0)).1.xs = (RQ p.qs a p.qs.length s (1, (q : Int), 0)).1.xs := by
  have hl := h.lat
  have hl2 := h.inv.lat
  have hg := good_RQ hp a p.qs.length s q hq hq h.inv (by omega) (by omega)
  have hv1 := (get_val hp h.inv (rev := a) (by omega) (by omega) hq).1
  obtain ⟨r, s1, hr⟩ : ∃ r s1, RQ p.qs a p.qs.length s (1, (q : Int), 0) = (r, s1) := ⟨_, _, rfl⟩
  rw [hr] at hg hv1 ⊢
  simp only at hv1 ⊢
  have hmx : MX p s1 a := hg.stp.mx fun q' r' hr' => by rw [hres] at hr'; simp at hr'
  have hS := hg.stp
  have hmem := hg.mem
  have hbd := hg.bd
  simp only at hS hmem hbd
  have hinp : ∀ k v, s1.inp k v = s.inp k v := fun k v => hS.inp k v
  have hins : ∀ v, insS p s1 v = insS p s v := fun v => insS_of_vers hS.vers v
  obtain ⟨m1, m2, m3⟩ := hmx q r hmem
  -- inputs that are read have not been set in between
  have hset : ∀ (i : Nat), TR p (insS p s (min a b : Nat)) q (0, (i : Int), 0) → ∀ e ∈ s.vers (0, (i : Int), 0), ¬ ((min a b : Nat) < e.1 ∧ e.1 ≤ (max a b : Nat)) := by
    intro i hi e he hb
    obtain ⟨j, hj, hij⟩ := h.ver i e he
    exact hno j (by omega) (by omega) (by rw [hij]; exact hi)
  have hag : ∀ v : Nat, min a b ≤ v → v ≤ max a b → ∀ i : Nat, TR p (insS p s (min a b : Nat)) q (0, (i : Int), 0) → red ((insS p s (min a b : Nat)).getD i 0) = red ((insS p s v).getD i 0) := by
    intro v hv1 hv2 i hi
    have hn := (tr_zero hp hq hi rfl).2.2.1
    simp only at hn
    rw [insS_get hn, insS_get hn]
    have : (s.inp (0, (i : Int), 0) (min a b : Nat)).1 = (s.inp (0, (i : Int), 0) v).1 := by
      refine (inpL_none fun e he => ?_).symm
      have := hset i hi e he
      omega
    rw [this]
  have htr : ∀ k, TR p (insS p s a) q k → TR p (insS p s (min a b : Nat)) q k := fun k hk => ((val_same hp _ q (Nat.lt_succ_self q) hq (hag a (by omega) (by omega))).2.2 k).2 hk
  have hread : ∀ k ∈ r.ins, ∃ i : Nat, k = (0, (i : Int), 0) ∧ TR p (insS p s (min a b : Nat)) q (0, (i : Int), 0) := by
    intro k hk
    have ht := m3 k hk
    rw [hins] at ht
    have ht := htr k ht
    have hik := (hg.rok).ink k hk
    obtain ⟨k1, k2, k3⟩ := k
    obtain ⟨x1, x2, x3, x4⟩ := hik
    simp only at x1 x2 x3 x4
    subst x1 x4
    obtain ⟨i, rfl⟩ := Int.eq_ofNat_of_zero_le x2
    exact ⟨i, rfl, ht⟩
  have hfit : fits b r = true := by
    unfold fits
    refine decide_eq_true ⟨?_, ?_⟩
    · rcases m1 with e | ⟨k, hk, e⟩
      · omega
      · obtain ⟨i, rfl, hi⟩ := hread k hk
        rw [hinp] at e
        unfold HS.inp at e
        rcases (inpL_ends (rev := a) (l := s.vers (0, (i : Int), 0)) (x := []) (f := 0)).1 with e' | ⟨e', he', e''⟩
        · omega
        · have := hset i hi e' he'
          omega
    · rcases m2 with e | ⟨k, hk, e⟩
      · omega
      · obtain ⟨i, rfl, hi⟩ := hread k hk
        rw [hinp] at e
        unfold HS.inp at e
        rcases (inpL_ends (rev := a) (l := s.vers (0, (i : Int), 0)) (x := []) (f := 0)).2 with e' | ⟨e', he', h1, e''⟩
        · omega
        · have := hset i hi e' he'
          omega
  obtain ⟨N, hN⟩ : ∃ N, p.qs.length = N + 1 := ⟨p.qs.length - 1, by omega⟩
  have hv2 := (get_val hp hS.inv (rev := b) (by omega) (by rw [hS.lat]; omega) hq).1
  have hsame : (RQ p.qs b p.qs.length s1 (1, (q : Int), 0)).2 = s1 := by
    rw [hN]
    show (resP p.qs (RQ p.qs b N) b s1 (1, (q : Int), 0)).2 = s1
    unfold resP
    cases hf : (s1.res (1, (q : Int), 0)).find? (fits b) with
    | some r' => rfl
    | none =>
      rw [List.find?_eq_none] at hf
      exact absurd hfit (hf r hmem)
  refine ⟨hsame, ?_⟩
  rw [hv2, hv1, hins]
  have v1 := (val_same hp _ q (Nat.lt_succ_self q) hq (hag a (by omega) (by omega))).1
  have v2 := (val_same hp _ q (Nat.lt_succ_self q) hq (hag b (by omega) (by omega))).1
  rw [← v1, ← v2]
end Go.Proofs.Ytggiddhhbilcjaa.Sn
