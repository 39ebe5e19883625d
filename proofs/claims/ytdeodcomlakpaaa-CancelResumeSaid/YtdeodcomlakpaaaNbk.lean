/- An interrupted evaluation and its resumption (plain). -/
import Derived.Test.YtdeodcomlakpaaaNbj
import Derived.Test.YtdeodcomlakpaaaNfb
namespace Go.Proofs.Ytdeodcomlakpaaa
open Go.RowKit
set_option linter.unusedVariables false
set_option linter.unusedSimpArgs false
variable {p : Prg} {ins : List Int} {s : PS}
theorem FF_ver (q : Nat) : (FF p ins s q).1.ver = s.rev := by
  rw [FF_eq]
  unfold finF
  cases aget s.es (qk q) with
  | none => rfl
  | some r =>
    simp only
    split
    · rfl
    · split <;> rfl
/-- a done query is asked again -/
theorem Desc.again {D : List Nat} {t t' : PS} (h : Desc p ins s D t) {q : Nat} (hq : q ∈ D) {r : RV} (hes : ∀ k, aget t'.es k = if qk q = k then some r else aget t.es k) (hr : EqU r (FF p ins s q).1) (h1 : t'.rev = t.rev) (h2 : ∀ d, t'.last d = t.last d) (h3 : ∀ k, t'.inp k = t.inp k) (h4 : t'.cnt = t.cnt) : Desc p ins s D t' := by
  refine ⟨h1.trans h.rev, fun d => (h2 d).trans (h.last d), fun k => (h3 k).trans (h.inp k), fun x hx => ?_, fun x hx => ?_, h4.trans h.cnt, h.closed, h.nd, h.lt⟩
  · by_cases e : qk q = qk x
    · exact ⟨r, by rw [hes, if_pos e], by rw [← qk_inj.1 e]; exact hr⟩
    · obtain ⟨r', a1, a2⟩ := h.done x hx
      exact ⟨r', by rw [hes, if_neg e, a1], a2⟩
  · rw [hes, if_neg (fun e => hx (by rw [← qk_inj.1 e]; exact hq))]
    exact h.rest x hx
theorem fin_rest (t : PS) (k : QK) : (finP t k).rev = t.rev ∧ (∀ d, (finP t k).last d = t.last d) ∧ (∀ k', (finP t k).inp k' = t.inp k') ∧ (finP t k).cnt = t.cnt := ⟨rfl, fun _ => rfl, fun _ => rfl, rfl⟩
theorem Desc.few {D : List Nat} {t : PS} (h : Desc p ins s D t) : D.length ≤ p.qs.length := nodup_below _ h.nd h.lt
theorem step_desc (hp : PrgOk p) (hb : Base p ins s) {R : Bool → PS → Nat → PS → Prop} (hR : UpdD p ins s R) : UpdD p ins s (StepR p ins R) := by
  intro b t q t' D h hqN hD
  by_cases hq : q ∈ D
  · obtain ⟨r0, a1, a2⟩ := hD.done q hq
    have hfr : r0.ver = t.rev := by rw [a2.2.1, FF_ver, hD.rev]
    have hnb : ∀ {t2 : PS}, ¬ Bad R t q t2 := fun hbad => by
      rcases hbad with ⟨hn, _⟩ | ⟨r, _, _, _, hr, hsk, _⟩
      · rw [a1] at hn; cases hn
      · rw [a1] at hr; cases hr; exact hsk (.inl hfr)
    cases h with
    | @skip _ _ r g1 g2 =>
      rw [a1] at g1
      cases g1
      refine ⟨D, ⟨hD.again hq (r := { r0 with ver := t.rev, use := wrap64 (t.clk + 1) }) (fun k => ?_) ?_ rfl (fun _ => rfl) (fun _ => rfl) rfl, fun _ h => h, fun x hx => .inl hx⟩, fun _ => hq⟩
      · rw [fin_get, show (begP t (qk q)).res (qk q) = r0 from res_get a1]; rfl
      · exact ⟨a2.1, by rw [FF_ver]; exact hD.rev, a2.2.2.1, a2.2.2.2.1, a2.2.2.2.2⟩
    | @check _ _ r s2 g1 g2 g3 g4 => rw [a1] at g1; cases g1; exact (g2 (.inl hfr)).elim
    | @half _ _ r l1 l2 s2 g1 g2 g3 g4 g5 => rw [a1] at g1; cases g1; exact (g2 (.inl hfr)).elim
    | redo g1 _ _ => exact (hnb g1).elim
    | stop g1 => exact (hnb g1).elim
    | rhalf g1 _ _ => exact (hnb g1).elim
  · cases h with
    | @skip _ _ r g1 g2 =>
      have g1' := g1
      rw [hD.rest q hq] at g1
      have hsk : SkipAt s r := by unfold SkipAt; rw [← hD.rev, ← hD.last]; exact g2
      have hF : FF p ins s q = ({ r with ver := s.rev }, false) := by
        rw [FF_eq]; unfold finF; rw [g1]; simp only; rw [if_pos hsk]
      refine ⟨q :: D, ⟨hD.put hq hqN (r := { r with ver := t.rev, use := wrap64 (t.clk + 1) }) (fun k => ?_) ?_ rfl (fun _ => rfl) (fun _ => rfl) ?_ (fun y hy => ?_), fun x hx => by simp [hx], fun x hx => ?_⟩, fun _ => by simp⟩
      · rw [fin_get, show (begP t (qk q)).res (qk q) = r from res_get g1']; rfl
      · rw [hF]; exact ⟨rfl, hD.rev, rfl, rfl, rfl⟩
      · rw [hF]; simp; rfl
      · rcases hy with ⟨hy, _⟩ | ⟨r', _, _, hr', hns, _⟩
        · rw [hF] at hy; simp at hy
        · rw [g1] at hr'; cases hr'; exact (hns hsk).elim
      · rcases List.mem_cons.1 hx with rfl | hx
        · exact .inr ⟨x, rfl, .refl _⟩
        · exact .inl hx
    | @check _ _ r s2 g1 g2 g3 g4 =>
      rw [hD.rest q hq] at g1
      have hns : ¬ SkipAt s r := fun h => g2 (by rw [hD.rev, hD.last]; exact h)
      obtain ⟨D1, hB, h1, _⟩ := seq_desc hR hqN g3 D (hD.beg _)
      have hq1 : q ∉ D1 := not_new hp hb hqN hB (fun y hy => qk_mem_lt hb g1 hy) hq
      have hle : ∀ k ∈ r.deps, chgF p ins s k ≤ r.ver := fun k hk => by
        rw [← (hB.desc.chg ((keyIn_form ((hb.deps q r g1).2 k hk)).imp id fun ⟨y, e, _⟩ => ⟨y, e, h1 rfl y (e ▸ hk)⟩)).1]
        exact g4 k hk
      have hF : FF p ins s q = ({ r with ver := s.rev }, false) := by
        rw [FF_eq]; unfold finF; rw [g1]; simp only
        rw [if_neg hns, if_pos]
        rw [List.all_eq_true]
        intro k hk
        rw [decide_eq_true_eq, chgW_eq (keyLt ((hb.deps q r g1).2 k hk))]
        exact hle k hk
      have hr2 : aget s2.es (qk q) = some r := (hB.desc.rest q hq1).trans g1
      have hvis : ∀ y, qk y ∈ r.deps → Vis p ins s q (qk y) := fun y hy => by
        obtain ⟨a, c, e⟩ := List.append_of_mem hy
        exact .inr ⟨r, a, c, g1, hns, e, fun x hx => hle x (by rw [e]; simp [hx])⟩
      refine ⟨q :: D1, ⟨hB.desc.put hq1 hqN (r := { r with ver := s2.rev, use := wrap64 (s2.clk + 1) }) (fun k => ?_) ?_ rfl (fun _ => rfl) (fun _ => rfl) ?_ (fun y hy => ?_), fun x hx => by simp [hB.sub x hx], fun x hx => ?_⟩, fun _ => by simp⟩
      · rw [fin_get, res_get hr2]
      · rw [hF]; exact ⟨rfl, hB.desc.rev, rfl, rfl, rfl⟩
      · rw [hF]; simp; rfl
      · rcases hy with ⟨hy, _⟩ | ⟨r', l1, l2, hr', _, e, _⟩
        · rw [hF] at hy; simp at hy
        · rw [g1] at hr'; cases hr'; exact h1 rfl y (by rw [e]; simp)
      · rcases List.mem_cons.1 hx with rfl | hx
        · exact .inr ⟨x, rfl, .refl _⟩
        · exact (hB.new x hx).imp id fun ⟨y, b1, b2⟩ => ⟨q, rfl, .step (hvis y b1) b2⟩
    | @half _ _ r l1 l2 s2 g1 g2 g3 g4 g5 =>
      rw [hD.rest q hq] at g1
      have hns : ¬ SkipAt s r := fun h => g2 (by rw [hD.rev, hD.last]; exact h)
      obtain ⟨D1, hB, _, h2⟩ := seq_desc hR hqN g4 D (hD.beg _)
      refine ⟨D1, ⟨hB.desc, hB.sub, fun x hx => (hB.new x hx).imp id fun ⟨y, b1, b2⟩ => ⟨q, rfl, .step ?_ b2⟩⟩, fun e => by simp at e⟩
      obtain ⟨a, c, e⟩ := List.append_of_mem b1
      refine .inr ⟨r, a, c ++ l2, g1, hns, by rw [g3, e]; simp, fun x hx => ?_⟩
      have hxd : x ∈ l1.dropLast := by
        rw [e, List.dropLast_append_of_ne_nil (by simp)]
        exact List.mem_append_left _ hx
      have hxm : x ∈ r.deps := by rw [g3]; exact List.mem_append_left _ ((List.dropLast_sublist _).subset hxd)
      rw [← (hB.desc.chg ((keyIn_form ((hb.deps q r g1).2 x hxm)).imp id fun ⟨z, e, _⟩ => ⟨z, e, h2 z (e ▸ hxd)⟩)).1]
      exact g5 x hxd
    | @redo _ _ s2 ks s3 g1 g2 g3 =>
      obtain ⟨D1, hB, hq1, hF, hpre⟩ := bad_desc hp hb hR hqN hD hq g1
      obtain ⟨D2, hB2, h1, _⟩ := seq_desc hR hqN g2 D1 hB.desc
      have hvis : ∀ y, qk y ∈ ks → Vis p ins s q (qk y) := fun y hy => .inl ⟨by rw [hF], (g3 _).1 hy⟩
      have hq2 : q ∉ D2 := not_new hp hb hqN hB2 (fun y hy => vis_lt hp hb hqN (hvis y hy)) hq1
      have hdur : durOf s3 (reads p ins q) = durL (durF p ins s) (reads p ins q) := by
        have hk : ∀ k ∈ reads p ins q, keyDur s3 k = durF p ins s k := fun k hk => (hB2.desc.chg ((keyIn_form (reads_in hp ins q hqN k hk)).imp id fun ⟨y, e, _⟩ => ⟨y, e, h1 rfl y ((g3 _).2 (e ▸ hk))⟩)).2
        unfold durL durOf
        generalize (2 : Int) = d
        generalize reads p ins q = ks' at hk
        induction ks' generalizing d with
        | nil => rfl
        | cons x l ih => simp only [List.foldl_cons]; rw [hk x (by simp)]; exact ih _ fun k h => hk k (by simp [h])
      have hr3 : aget s3.es (qk q) = aget s.es (qk q) := hB2.desc.rest q hq2
      have hnew : newRes s3 (qk q) t.rev [val p ins q] (reads p ins q) (durOf s3 (reads p ins q)) = newRes s (qk q) s.rev [val p ins q] (reads p ins q) (durL (durF p ins s) (reads p ins q)) := by
        unfold newRes
        rw [hr3, hdur, hD.rev]
      have hcnt : wrap64 (s3.cnt + 1) = s3.cnt + 1 := by
        have h0 := hB2.desc.cnt
        have h3 := hB2.desc.few
        have h4 : cntF p ins s D2 ≤ D2.length := List.length_filter_le _ _
        have h5 := hb.cnt
        have h6 := hp.size
        unfold wrap64
        omega
      refine ⟨q :: D2, ⟨hB2.desc.put hq2 hqN (r := { newRes s (qk q) s.rev [val p ins q] (reads p ins q) (durL (durF p ins s) (reads p ins q)) with ver := s3.rev, use := wrap64 (s3.clk + 1) }) (fun k => ?_) ?_ rfl (fun _ => rfl) (fun _ => rfl) ?_ (fun y hy => ?_), fun x hx => by simp [hB2.sub x (hB.sub x hx)], fun x hx => ?_⟩, fun _ => by simp⟩
      · rw [fin_get]
        have e1 : (putP s3 q t.rev [val p ins q] (reads p ins q)).res (qk q) = newRes s3 (qk q) t.rev [val p ins q] (reads p ins q) (durOf s3 (reads p ins q)) := res_get ((aget_ups _ _ _ _).trans (if_pos rfl))
        rw [e1, hnew]
        split
        · rfl
        · rename_i hne
          exact (aget_ups _ _ _ _).trans (if_neg hne)
      · rw [hF]; exact ⟨rfl, hB2.desc.rev, rfl, rfl, rfl⟩
      · rw [hF]; exact hcnt
      · rcases hy with ⟨_, hy⟩ | hy
        · exact h1 rfl y ((g3 _).2 hy)
        · exact hB2.sub y (hpre y hy)
      · rcases List.mem_cons.1 hx with rfl | hx
        · exact .inr ⟨x, rfl, .refl _⟩
        · rcases hB2.new x hx with hx | ⟨y, b1, b2⟩
          · exact (hB.new x hx).imp id fun ⟨y, b1, b2⟩ => ⟨q, rfl, .step b1 b2⟩
          · exact .inr ⟨q, rfl, .step (hvis y b1) b2⟩
    | stop g1 =>
      obtain ⟨D1, hB, _, _, _⟩ := bad_desc hp hb hR hqN hD hq g1
      exact ⟨D1, ⟨hB.desc, hB.sub, fun x hx => (hB.new x hx).imp id fun ⟨y, b1, b2⟩ => ⟨q, rfl, .step b1 b2⟩⟩, fun e => by simp at e⟩
    | @rhalf _ _ s2 ks s3 g1 g2 g3 =>
      obtain ⟨D1, hB, hq1, hF, hpre⟩ := bad_desc hp hb hR hqN hD hq g1
      obtain ⟨D2, hB2, _, _⟩ := seq_desc hR hqN g2 D1 hB.desc
      refine ⟨D2, ⟨hB2.desc, fun x hx => hB2.sub x (hB.sub x hx), fun x hx => ?_⟩, fun e => by simp at e⟩
      rcases hB2.new x hx with hx | ⟨y, b1, b2⟩
      · exact (hB.new x hx).imp id fun ⟨y, b1, b2⟩ => ⟨q, rfl, .step b1 b2⟩
      · exact .inr ⟨q, rfl, .step (.inl ⟨by rw [hF], g3 _ b1⟩) b2⟩
theorem upd_desc (hp : PrgOk p) (hb : Base p ins s) : ∀ n, UpdD p ins s (UpdR p ins n) := by
  intro n
  induction n with
  | zero => intro b t q t' D h; exact h.elim
  | succ n ih => exact step_desc hp hb ih
/-! ### an evaluation that stops has been told to -/
def Told (stp : PS → Bool) (U : PS → QK → Except Int Unit × PS) : Prop := ∀ t k t', U t k = (.error 12, t') → stp t' = true
section
variable {stp : PS → Bool} {U : PS → QK → Except Int Unit × PS}
theorem told_any (hU : Told stp U) (rev : Int) : ∀ (l : List QK) (t t' : PS), anyChg U rev l t = (.error 12, t') → stp t' = true := by
  intro l
  induction l with
  | nil => intro t t' h; simp [anyChg] at h
  | cons k r ih =>
    intro t t' h
    unfold anyChg at h
    unfold chgSince at h
    by_cases h0 : k.1 = 0
    · rw [if_pos h0] at h
      cases hd : decide (rev < (t.inp k).ch) <;> rw [hd] at h <;> simp only at h
      · exact ih _ _ h
      · simp at h
    · rw [if_neg h0] at h
      rcases hu : U t k with ⟨e | u, t1⟩ <;> rw [hu] at h <;> simp only at h
      · simp only [Prod.mk.injEq, Except.error.injEq] at h
        obtain ⟨rfl, rfl⟩ := h
        exact hU _ _ _ hu
      · cases hd : decide (rev < (t1.res k).chg) <;> rw [hd] at h <;> simp only at h
        · exact ih _ _ h
        · simp at h
theorem told_run {idx : Int} (hU : Told stp U) : ∀ (ops : List QO) (xs : List Int) (σ σ' : GS), runL (gmap (getP U)) idx ops xs σ = (.error 12, σ') → stp σ'.1 = true := by
  have hG : ∀ (σ σ' : GS) (k : QK), gmap (getP U) σ k = (.error 12, σ') → stp σ'.1 = true := fun σ σ' k h => by
    unfold gmap getP at h
    by_cases h0 : k.1 = 0
    · rw [if_pos h0] at h; simp at h
    · rw [if_neg h0] at h
      rcases hu : U σ.1 k with ⟨e | u, t1⟩ <;> rw [hu] at h <;> simp only at h
      · simp only [Prod.mk.injEq, Except.error.injEq] at h
        obtain ⟨rfl, rfl⟩ := h
        exact hU _ _ _ hu
      · simp at h
  intro ops
  induction ops with
  | nil => intro xs σ σ' h; simp [runL] at h
  | cons o r ih =>
    intro xs σ σ' h
    unfold runL at h
    rcases hs : step1 (gmap (getP U)) idx o xs σ with ⟨e | ys, σ1⟩ <;> rw [hs] at h <;> simp only at h
    · simp only [Prod.mk.injEq, Except.error.injEq] at h
      obtain ⟨rfl, rfl⟩ := h
      unfold step1 at hs
      simp only at hs
      split at hs
      · rename_i k hk
        rcases hg : gmap (getP U) σ k with ⟨e | v, σ2⟩ <;> rw [hg] at hs <;> simp only [Except.map, Prod.mk.injEq] at hs
        · obtain ⟨h1, rfl⟩ := hs
          simp only [Except.error.injEq] at h1
          subst h1
          exact hG _ _ _ hg
        · simp at hs
      · split at hs <;> simp at hs
    · exact ih _ _ _ h
theorem told_upd (qs : List (List QO)) (hU : Told stp U) : Told stp (updP U (compQ qs) stp) := by
  have hrec : ∀ (t : PS) k t', thenFin k (recompP U (compQ qs) stp t k) = (.error 12, t') → stp t' = true := fun t k t' h => by
    unfold recompP at h
    by_cases hs : stp t = true
    · rw [if_pos hs] at h
      simp only [thenFin, Prod.mk.injEq] at h
      rw [← h.2]; exact hs
    · rw [if_neg hs] at h
      unfold compQ runR at h
      rcases hr : runL (gmap (getP U)) k.2.1 (qs.getD k.2.1.toNat []) [] (t, [], 2) with ⟨e | ys, σ1⟩ <;> rw [hr] at h <;> simp only [thenFin] at h
      · simp only [Prod.mk.injEq, Except.error.injEq] at h
        obtain ⟨rfl, rfl⟩ := h
        exact told_run hU _ _ _ _ hr
      · simp at h
  intro t k t' h
  unfold updP at h
  split at h
  · simp at h
  · simp only at h
    split at h
    · exact hrec _ _ _ h
    · rename_i r hr
      rcases hv : validP U { t with act := ups t.act k 1 } r with ⟨e | b, t1⟩ <;> rw [hv] at h
      · simp only [Prod.mk.injEq, Except.error.injEq] at h
        obtain ⟨rfl, rfl⟩ := h
        unfold validP at hv
        split at hv
        · simp at hv
        · rcases ha : anyChg U r.ver r.deps { t with act := ups t.act k 1 } with ⟨e | b, t2⟩ <;> rw [ha] at hv <;> simp only [Prod.mk.injEq, Except.error.injEq] at hv
          · obtain ⟨rfl, rfl⟩ := hv
            exact told_any hU _ _ _ _ ha
          · simp at hv
      · cases b
        · exact hrec _ _ _ h
        · simp at h
end
theorem told_UQ (qs : List (List QO)) (stp : PS → Bool) : ∀ n, Told stp (UQ qs stp n) := by
  intro n
  induction n with
  | zero => intro t k t' h; simp [UQ] at h
  | succ n ih => exact told_upd qs ih
/-! ### attempts -/
/-- t: s behind evaluations of q, whole or not -/
structure Att (p : Prg) (ins : List Int) (H : Hist) (s : PS) (q : Nat) (D : List Nat) (t : PS) : Prop where
  desc : Desc p ins s D t
  inv : Inv p H t
  act : t.act = []
  sub : ∀ x ∈ D, Rch p ins s q x
theorem Base.of {H : Hist} (h : Inv p H s) (hc : 0 ≤ s.cnt ∧ s.cnt ≤ 1000000000) : Base p ins s :=
  ⟨fun q r hr => ⟨qN h hr, (h.w.es _ r hr).2.2.1⟩, hc⟩
theorem Att.start {H : Hist} (h : Inv p H s) (ha : s.act = []) (q : Nat) : Att p ins H s q [] s :=
  ⟨⟨rfl, fun _ => rfl, fun _ => rfl, by simp, fun _ _ => rfl, by simp [cntF], by simp, List.nodup_nil, by simp⟩, h, ha, by simp⟩
theorem Att.fork {H : Hist} {s2 : PS} (h : Inv p H s) (hs : SameR s s2) (q : Nat) : Att p ins H s q [] s2 :=
  ⟨⟨hs.rev, hs.last, hs.inp, by simp, fun x _ => hs.es _, by simp [cntF, hs.cnt], by simp, List.nodup_nil, by simp⟩, h.fewer hs.rev hs.last hs.inp (fun q r hr => by rw [← hs.es]; exact hr) (hs.invW h.w), hs.act, by simp⟩
/-- one attempt -/
theorem Att.go (hp : PrgOk p) {H : Hist} {q : Nat} (hq : q < p.qs.length) (hins : insH p H s.rev = ins) (hb : Base p ins s) {D : List Nat} {t : PS} (h : Att p ins H s q D t) (stp : PS → Bool) :
    ∃ x t' D', upQ p stp t (qk q) = (x, t') ∧ Att p ins H s q D' t'.idle ∧ ((x = .ok () ∧ q ∈ D') ∨ (x = .error 12 ∧ stp t' = true)) ∧ ∀ x ∈ D, x ∈ D' := by
  obtain ⟨x, t', hu, _, hI', hx⟩ := untilI hp h.inv h.act stp hq
  have hu' : UQ p.qs stp p.qs.length t (qk q) = (x, t') := hu
  have hbig := (big_UQ (H := H) (ins := ins) (stp := stp) hp p.qs.length) t q hq hq h.inv (by rw [h.desc.rev]; exact hins) (idl_none h.act _)
  have hnew : ∀ {D' : List Nat}, Brings p ins s D (fun y => y = q) D' t' → ∀ x ∈ D', Rch p ins s q x := fun hB x hx => by
    rcases hB.new x hx with hx | ⟨y, rfl, b2⟩
    · exact h.sub x hx
    · exact b2
  rcases hx with ⟨rfl, _⟩ | ⟨rfl, _⟩
  · obtain ⟨D', hB, hin⟩ := upd_desc hp hb _ _ _ _ _ D (hbig.1 t' hu') hq h.desc
    exact ⟨_, t', D', hu, ⟨hB.desc.idle, hI', rfl, hnew hB⟩, .inl ⟨rfl, hin rfl⟩, hB.sub⟩
  · obtain ⟨D', hB, hin⟩ := upd_desc hp hb _ _ _ _ _ D (hbig.2 12 t' hu') hq h.desc
    exact ⟨_, t', D', hu, ⟨hB.desc.idle, hI', rfl, hnew hB⟩, .inr ⟨rfl, told_UQ p.qs stp _ t (qk q) t' hu'⟩, hB.sub⟩
theorem Att.all {H : Hist} {q : Nat} {D : List Nat} {t : PS} (h : Att p ins H s q D t) (hq : q ∈ D) : ∀ x, Rch p ins s q x → x ∈ D := by
  have : ∀ y x, Rch p ins s y x → y ∈ D → x ∈ D := by
    intro y x hr
    induction hr with
    | refl q => exact id
    | step hv _ ih => intro hy; exact ih (h.desc.closed _ hy _ hv)
  exact fun x hx => this q x hx hq
theorem nodup_len : ∀ {D D' : List Nat}, D.Nodup → (∀ x ∈ D, x ∈ D') → D.length ≤ D'.length := by
  intro D
  induction D with
  | nil => intro D' _ _; simp
  | cons a r ih =>
    intro D' hn hs
    obtain ⟨h1, h2⟩ := List.nodup_cons.1 hn
    obtain ⟨x, y, rfl⟩ := List.append_of_mem (hs a (by simp))
    have := ih (D' := x ++ y) h2 fun z hz => by
      have hz' := hs z (by simp [hz])
      simp only [List.mem_append, List.mem_cons] at hz' ⊢
      rcases hz' with h | rfl | h
      · exact .inl h
      · exact (h1 hz).elim
      · exact .inr h
    simp only [List.length_append, List.length_cons] at this ⊢
    omega
theorem cnt_le {D D' : List Nat} (hn : D.Nodup) (hs : ∀ x ∈ D, x ∈ D') : cntF p ins s D ≤ cntF p ins s D' := by
  unfold cntF
  refine nodup_len (List.Pairwise.filter _ hn) fun x hx => ?_
  rw [List.mem_filter] at hx ⊢
  exact ⟨hs x hx.1, hx.2⟩
/-- the ends: as many computations -/
theorem Att.same {H H' : Hist} {q : Nat} {D D' : List Nat} {t t' : PS} (h : Att p ins H s q D t) (h' : Att p ins H' s q D' t') (hq : q ∈ D) (hq' : q ∈ D') : t.cnt = t'.cnt := by
  have h1 := cnt_le (p := p) (ins := ins) (s := s) h.desc.nd fun x hx => h'.all hq' x (h.sub x hx)
  have h2 := cnt_le (p := p) (ins := ins) (s := s) h'.desc.nd fun x hx => h.all hq x (h'.sub x hx)
  rw [h.desc.cnt, h'.desc.cnt]
  omega
theorem Att.le {H H' : Hist} {q : Nat} {D D' : List Nat} {t t' : PS} (h : Att p ins H s q D t) (h' : Att p ins H' s q D' t') (hq' : q ∈ D') : t.cnt ≤ t'.cnt := by
  have h1 := cnt_le (p := p) (ins := ins) (s := s) h.desc.nd fun x hx => h'.all hq' x (h.sub x hx)
  rw [h.desc.cnt, h'.desc.cnt]
  omega
theorem Att.bd (hp : PrgOk p) {H : Hist} {q : Nat} {D : List Nat} {t : PS} (h : Att p ins H s q D t) : s.cnt ≤ t.cnt ∧ t.cnt ≤ s.cnt + 40 := by
  have h1 : cntF p ins s D ≤ D.length := List.length_filter_le _ _
  have h2 := h.desc.few
  have h3 := hp.size
  rw [h.desc.cnt]
  omega
end Go.Proofs.Ytdeodcomlakpaaa
