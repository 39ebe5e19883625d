/- From-scratch consistency (plain): the keys that a query reads through others, the inputs' history, what holds of every cached result. -/
import Derived.Test.YtggiddhhbilcjaaGh
/- From-scratch consistency (plain): the keys that a query reads through others, the inputs' history, what holds of every cached result. -/
namespace Go.Proofs.Ytggiddhhbilcjaa
set_option linter.unusedVariables false
set_option linter.unusedSimpArgs false
/-- the keys that query q reads, directly or through queries -/
inductive TR (p : Prg) (ins : List Int) : Nat → QK → Prop
  | base {q : Nat} {k : QK} : k ∈ reads p ins q → TR p ins q k
  | step {q q' : Nat} {k : QK} : (1, (q' : Int), 0) ∈ reads p ins q → TR p ins q' k → TR p ins q k
theorem TR.trans {p : Prg} {ins : List Int} {q q' : Nat} {k : QK} (h : TR p ins q (1, (q' : Int), 0)) (k' : TR p ins q' k) : TR p ins q k := by
  generalize hx : ((1, (q' : Int), 0) : QK) = x at h
  induction h with
  | base hm => subst hx; exact TR.step hm k'
  | step hm _ ih => exact TR.step hm (ih hx)
theorem TR.key {p : Prg} (hp : PrgOk p) {ins : List Int} {q : Nat} {k : QK} (h : TR p ins q k) : q < p.qs.length → KeyIn p.inp q k := by
  induction h with
  | base hm => intro hq; exact reads_in hp ins _ hq _ hm
  | step hm _ ih =>
    intro hq
    rcases reads_in hp ins _ hq _ hm with ⟨h, _⟩ | ⟨_, _, h2, _⟩
    · exact absurd h (by simp)
    · simp only at h2
      rcases ih (by omega) with h | ⟨a1, a2, a3, a4⟩
      · exact Or.inl h
      · exact Or.inr ⟨a1, a2, by omega, a4⟩
theorem sub_lt {p : Prg} (hp : PrgOk p) {ins : List Int} {q q' : Nat} (hq : q < p.qs.length) (h : (1, (q' : Int), 0) ∈ reads p ins q) : q' < q := by
  rcases reads_in hp ins _ hq _ h with ⟨h, _⟩ | ⟨_, _, h2, _⟩
  · exact absurd h (by simp)
  · simp only at h2; omega
theorem TR.lt {p : Prg} (hp : PrgOk p) {ins : List Int} {q q' : Nat} (hq : q < p.qs.length) (h : TR p ins q (1, (q' : Int), 0)) : q' < q := by
  rcases h.key hp hq with ⟨h, _⟩ | ⟨_, _, h2, _⟩
  · exact absurd h (by simp)
  · simp only at h2; omega
/-- inputs that agree where a query reads -/
theorem val_same {p : Prg} (hp : PrgOk p) {ins ins' : List Int} : ∀ n (q : Nat), q < n → q < p.qs.length → (∀ i : Nat, TR p ins q (0, (i : Int), 0) → red (ins.getD i 0) = red (ins'.getD i 0)) →
    val p ins q = val p ins' q ∧ reads p ins q = reads p ins' q ∧ ∀ k, TR p ins q k ↔ TR p ins' q k := by
  intro n
  induction n with
  | zero => intro q hq; omega
  | succ n ih =>
    intro q hq hqn h
    have hsub : ∀ q' : Nat, (1, (q' : Int), 0) ∈ reads p ins q → val p ins q' = val p ins' q' ∧ reads p ins q' = reads p ins' q' ∧ ∀ k, TR p ins q' k ↔ TR p ins' q' k := fun q' hm => by
      have := sub_lt hp hqn hm
      exact ih q' (by omega) (by omega) fun i hi => h i (TR.step hm hi)
    have hsame : ∀ k ∈ reads p ins q, kvalOf ins (val p ins) k = kvalOf ins' (val p ins') k := by
      intro k hk
      unfold kvalOf
      obtain ⟨a, b, c⟩ := k
      rcases reads_in hp ins q hqn _ hk with ⟨h0, h1, h2, h3⟩ | ⟨h0, h1, h2, h3⟩
      · simp only at h0 h1 h2 h3
        subst h0 h3
        obtain ⟨i, rfl⟩ := Int.eq_ofNat_of_zero_le h1
        rw [if_pos rfl, if_pos rfl]
        exact h i (TR.base hk)
      · simp only at h0 h1 h2 h3
        subst h0 h3
        obtain ⟨i, rfl⟩ := Int.eq_ofNat_of_zero_le h1
        rw [if_neg (by simp), if_neg (by simp)]
        exact (hsub i hk).1
    obtain ⟨_, _, _, h4⟩ := runL_GR (ins := ins) (ins' := ins') (f := val p ins) (g := val p ins') (ks := []) (val_small p ins) (hp.qs q hqn).each (xs := []) (by simp)
    have hrun := h4 (by rw [← reads_eq]; exact hsame)
    have hR : runR (GR ins' (val p ins')) q (p.qs.getD q []) [] = runR (GR ins (val p ins)) q (p.qs.getD q []) [] := by
      unfold runR
      rw [hrun]
    rw [runR_GR hp ins q hqn, runR_GR hp ins' q hqn] at hR
    simp only [Prod.mk.injEq, Except.ok.injEq] at hR
    have hrd : reads p ins q = reads p ins' q := hR.2.symm
    refine ⟨hR.1.symm, hrd, fun k => ⟨fun ht => ?_, fun ht => ?_⟩⟩
    · cases ht with
      | base hm => exact TR.base (hrd ▸ hm)
      | step hm hk => exact TR.step (hrd ▸ hm) (((hsub _ hm).2.2 k).1 hk)
    · cases ht with
      | base hm => exact TR.base (hrd ▸ hm)
      | step hm hk =>
        have hm' : _ ∈ reads p ins q := hrd ▸ hm
        exact TR.step hm' (((hsub _ hm').2.2 k).2 hk)
/-! ### history -/
abbrev Hist := Int → QK → IV
def insH (p : Prg) (H : Hist) (v : Int) : List Int := (List.range p.inp.toNat).map fun (i : Nat) => (H v (0, (i : Int), 0)).xs.getD 0 0
theorem insH_get {p : Prg} {H : Hist} {v : Int} {i : Nat} (hi : (i : Int) < p.inp) : (insH p H v).getD i 0 = (H v (0, (i : Int), 0)).xs.getD 0 0 := by
  have h : i < p.inp.toNat := by omega
  unfold insH
  rw [List.getD_eq_getElem?_getD, List.getElem?_map, List.getElem?_range h]
  rfl
structure HistI (H : Hist) (s : PS) : Prop where
  now : ∀ k, H s.rev k = s.inp k
  const : ∀ d v k, 0 ≤ d → d ≤ 2 → s.last d ≤ v → v ≤ s.rev → d ≤ (H v k).du → ∀ v', v ≤ v' → v' ≤ s.rev → H v' k = H v k
  ch : ∀ k v, (s.inp k).ch ≤ v → v ≤ s.rev → H v k = s.inp k
  last : ∀ d, s.last d ≤ s.rev
structure ResI (p : Prg) (H : Hist) (s : PS) (q : Nat) (r : RV) : Prop where
  ver : r.ver ≤ s.rev
  chg : r.chg ≤ r.ver
  xs : r.xs = [val p (insH p H r.ver) q]
  deps : r.deps = reads p (insH p H r.ver) q
  low : ∀ k, k.1 = 0 → TR p (insH p H r.ver) q k → r.dur ≤ (H r.ver k).du
  sub : s.last r.dur ≤ r.ver → ∀ (q' : Nat) r', TR p (insH p H r.ver) q (1, (q' : Int), 0) → aget s.es (1, (q' : Int), 0) = some r' → r.dur ≤ r'.dur
  dep : ∀ (q' : Nat) r', (1, (q' : Int), 0) ∈ r.deps → aget s.es (1, (q' : Int), 0) = some r' → r'.chg ≤ r.ver → r.dur ≤ r'.dur ∧ r'.xs = [val p (insH p H r.ver) q']
structure Inv (p : Prg) (H : Hist) (s : PS) : Prop where
  w : InvW p s
  hist : HistI H s
  res : ∀ (q : Nat) r, aget s.es (1, (q : Int), 0) = some r → ResI p H s q r
section
variable {p : Prg} {H : Hist} {s s' : PS}
/-- what has not changed since v -/
theorem HistI.unch (hp : PrgOk p) (h : HistI H s) {d v : Int} {q : Nat} (hq : q < p.qs.length) (hd0 : 0 ≤ d) (hd2 : d ≤ 2) (hl : s.last d ≤ v) (hv : v ≤ s.rev) (hlow : ∀ k, k.1 = 0 → TR p (insH p H v) q k → d ≤ (H v k).du) {v' : Int} (h1 : v ≤ v') (h2 : v' ≤ s.rev) :
    val p (insH p H v) q = val p (insH p H v') q ∧ reads p (insH p H v) q = reads p (insH p H v') q ∧ (∀ k, TR p (insH p H v) q k ↔ TR p (insH p H v') q k) ∧ ∀ k, k.1 = 0 → TR p (insH p H v) q k → H v' k = H v k := by
  have hk : ∀ k, k.1 = 0 → TR p (insH p H v) q k → H v' k = H v k := fun k h0 ht => h.const d v k hd0 hd2 hl hv (hlow k h0 ht) v' h1 h2
  obtain ⟨a, b, c⟩ := val_same hp (ins := insH p H v) (ins' := insH p H v') (q + 1) q (by omega) hq fun i hi => by
    have hin := hi.key hp hq
    have hlt : (i : Int) < p.inp := by
      rcases hin with ⟨_, _, h, _⟩ | ⟨h, _⟩
      · exact h
      · exact absurd h (by simp)
    rw [insH_get hlt, insH_get hlt, hk _ rfl hi]
  exact ⟨a, b, c, hk⟩
theorem qryN {q : Nat} {r : RV} (hi : InvW p s) (hr : aget s.es (1, (q : Int), 0) = some r) : q < p.qs.length := by
  have := (hi.es _ r hr).1.2.2.1
  simp only at this
  omega
theorem key_inj {q q' : Nat} : ((1, (q : Int), 0) : QK) = (1, (q' : Int), 0) ↔ q = q' := by
  simp only [Prod.mk.injEq, true_and, and_true]
  omega
/-- a result is put that is up to date -/
theorem Inv.put (hp : PrgOk p) (h : Inv p H s) {q : Nat} (hq : q < p.qs.length) {r : RV} (hes : s'.es = ups s.es (1, (q : Int), 0) r) (hrev : s'.rev = s.rev) (hlast : ∀ d, s'.last d = s.last d) (hinp : ∀ k, s'.inp k = s.inp k) (hw : InvW p s')
    (hver : r.ver = s.rev) (hchg0 : r.chg ≤ s.rev) (hd0 : 0 ≤ r.dur) (hd2 : r.dur ≤ 2) (hxs : r.xs = [val p (insH p H s.rev) q]) (hdeps : r.deps = reads p (insH p H s.rev) q)
    (hin : ∀ k ∈ r.deps, k.1 = 0 → r.dur ≤ (s.inp k).du) (hqs : ∀ q' : Nat, (1, (q' : Int), 0) ∈ r.deps → ∃ r', aget s.es (1, (q' : Int), 0) = some r' ∧ r'.ver = s.rev ∧ r.dur ≤ r'.dur)
    (hd : (∃ old, aget s.es (1, (q : Int), 0) = some old ∧ old.dur ≤ r.dur) ∨ ∀ d, 0 ≤ d → d ≤ 2 → (∀ k ∈ r.deps, k.1 = 0 → d ≤ (s.inp k).du) → (∀ (q' : Nat) r', (1, (q' : Int), 0) ∈ r.deps → aget s.es (1, (q' : Int), 0) = some r' → d ≤ r'.dur) → d ≤ r.dur)
    (hchg : r.chg = s.rev ∨ ∃ old, aget s.es (1, (q : Int), 0) = some old ∧ r.chg = old.chg ∧ old.dur ≤ r.dur ∧ old.xs = r.xs) : Inv p H s' := by
  have hget : ∀ q' : Nat, aget s'.es (1, (q' : Int), 0) = if q = q' then some r else aget s.es (1, (q' : Int), 0) := fun q' => by
    rw [hes, aget_ups]
    by_cases e : q = q'
    · rw [if_pos (by rw [e]), if_pos e]
    · rw [if_neg (fun h => e (key_inj.1 h)), if_neg e]
  have hH : HistI H s' := ⟨fun k => by rw [hrev, hinp]; exact h.hist.now k, fun d v k a b c e f v' g i => h.hist.const d v k a b (by rw [← hlast]; exact c) (by rw [← hrev]; exact e) f v' g (by rw [← hrev]; exact i), fun k v a b => by rw [hinp]; exact h.hist.ch k v (by rw [← hinp]; exact a) (by rw [← hrev]; exact b), fun d => by rw [hlast, hrev]; exact h.hist.last d⟩
  -- the bound that another result sets
  have hbound : ∀ (q2 : Nat) r2, aget s.es (1, (q2 : Int), 0) = some r2 → s.last r2.dur ≤ r2.ver → TR p (insH p H r2.ver) q2 (1, (q : Int), 0) → r2.dur ≤ r.dur := by
    intro q2 r2 hr2 hl ht
    have hR := h.res q2 r2 hr2
    have hq2 := qryN h.w hr2
    obtain ⟨hb0, hb2⟩ := (h.w.es _ r2 hr2).2.1
    rcases hd with ⟨old, ho, hle⟩ | hglb
    · exact Int.le_trans (hR.sub hl q old ht ho) hle
    · have hu := h.hist.unch hp hq hb0 hb2 hl hR.ver (fun k h0 hk => hR.low k h0 (ht.trans hk)) hR.ver (Int.le_refl _)
      refine hglb r2.dur hb0 hb2 (fun k hk h0 => ?_) (fun q' r' hk hr' => ?_)
      · rw [hdeps, ← hu.2.1] at hk
        rw [← h.hist.now k, hu.2.2.2 k h0 (TR.base hk)]
        exact hR.low k h0 (ht.trans (TR.base hk))
      · rw [hdeps, ← hu.2.1] at hk
        exact hR.sub hl q' r' (ht.trans (TR.base hk)) hr'
  refine ⟨hw, hH, fun q2 r2 hr2 => ?_⟩
  rw [hget] at hr2
  by_cases e : q = q2
  · subst e
    rw [if_pos rfl] at hr2
    cases hr2
    refine ⟨by rw [hver, hrev]; exact Int.le_refl _, by rw [hver]; exact hchg0, by rw [hver]; exact hxs, by rw [hver]; exact hdeps, fun k h0 ht => ?_, fun _ q' r' ht hr' => ?_, fun q' r' hm hr' _ => ?_⟩
    · rw [hver] at ht ⊢
      cases ht with
      | base hm => rw [h.hist.now]; exact hin k (hdeps ▸ hm) h0
      | step hm hk =>
        obtain ⟨r', h1, h2, h3⟩ := hqs _ (hdeps ▸ hm)
        have := (h.res _ r' h1).low k h0 (by rw [h2]; exact hk)
        rw [h2] at this
        exact Int.le_trans h3 this
    · rw [hver] at ht
      have hlt := ht.lt hp hq
      rw [hget, if_neg (by omega)] at hr'
      cases ht with
      | base hm =>
        obtain ⟨r1, h1, h2, h3⟩ := hqs _ (hdeps ▸ hm)
        rw [h1] at hr'
        cases hr'
        exact h3
      | step hm hk =>
        obtain ⟨r1, h1, h2, h3⟩ := hqs _ (hdeps ▸ hm)
        exact Int.le_trans h3 ((h.res _ r1 h1).sub (by rw [h2]; exact h.hist.last _) q' r' (by rw [h2]; exact hk) hr')
    · have hlt := sub_lt hp hq (hdeps ▸ hm)
      rw [hget, if_neg (by omega)] at hr'
      obtain ⟨r1, h1, h2, h3⟩ := hqs _ hm
      rw [h1] at hr'
      cases hr'
      refine ⟨h3, ?_⟩
      rw [(h.res _ r' h1).xs, h2, hver]
  · rw [if_neg e] at hr2
    have hR := h.res q2 r2 hr2
    refine ⟨by rw [hrev]; exact hR.ver, hR.chg, hR.xs, hR.deps, hR.low, fun hl q' r' ht hr' => ?_, fun q' r' hm hr' hc => ?_⟩
    · rw [hlast] at hl
      rw [hget] at hr'
      by_cases e' : q = q'
      · subst e'
        rw [if_pos rfl] at hr'
        cases hr'
        exact hbound q2 r2 hr2 hl ht
      · rw [if_neg e'] at hr'
        exact hR.sub hl q' r' ht hr'
    · rw [hget] at hr'
      by_cases e' : q = q'
      · subst e'
        rw [if_pos rfl] at hr'
        cases hr'
        rcases hchg with hc' | ⟨old, ho, h1, h2, h3⟩
        · have hv : r2.ver = s.rev := by have := hR.ver; omega
          exact ⟨hbound q2 r2 hr2 (by rw [hv]; exact h.hist.last _) (TR.base (hR.deps ▸ hm)), by rw [hv]; exact hxs⟩
        · obtain ⟨g1, g2⟩ := hR.dep q old hm ho (by omega)
          exact ⟨Int.le_trans g1 h2, h3 ▸ g2⟩
      · rw [if_neg e'] at hr'
        exact hR.dep q' r' hm hr' hc
/-- a result is found up to date, as nothing of its durability has changed -/
theorem Inv.skip (hp : PrgOk p) (h : Inv p H s) {q : Nat} {r0 r : RV} (hr0 : aget s.es (1, (q : Int), 0) = some r0) (hl : s.last r0.dur ≤ r0.ver) (hes : s'.es = ups s.es (1, (q : Int), 0) r) (hrev : s'.rev = s.rev) (hlast : ∀ d, s'.last d = s.last d) (hinp : ∀ k, s'.inp k = s.inp k) (hw : InvW p s')
    (hver : r.ver = s.rev) (hchg : r.chg = r0.chg) (hdur : r.dur = r0.dur) (hxs : r.xs = r0.xs) (hdeps : r.deps = r0.deps) : Inv p H s' := by
  have hq := qryN h.w hr0
  have hR0 := h.res q r0 hr0
  obtain ⟨hb0, hb2⟩ := (h.w.es _ r0 hr0).2.1
  have hu := h.hist.unch hp hq hb0 hb2 hl hR0.ver hR0.low hR0.ver (Int.le_refl _)
  have hget : ∀ q' : Nat, aget s'.es (1, (q' : Int), 0) = if q = q' then some r else aget s.es (1, (q' : Int), 0) := fun q' => by
    rw [hes, aget_ups]
    by_cases e : q = q'
    · rw [if_pos (by rw [e]), if_pos e]
    · rw [if_neg (fun h => e (key_inj.1 h)), if_neg e]
  have hH : HistI H s' := ⟨fun k => by rw [hrev, hinp]; exact h.hist.now k, fun d v k a b c e f v' g i => h.hist.const d v k a b (by rw [← hlast]; exact c) (by rw [← hrev]; exact e) f v' g (by rw [← hrev]; exact i), fun k v a b => by rw [hinp]; exact h.hist.ch k v (by rw [← hinp]; exact a) (by rw [← hrev]; exact b), fun d => by rw [hlast, hrev]; exact h.hist.last d⟩
  refine ⟨hw, hH, fun q2 r2 hr2 => ?_⟩
  rw [hget] at hr2
  by_cases e : q = q2
  · subst e
    rw [if_pos rfl] at hr2
    cases hr2
    refine ⟨by rw [hver, hrev]; exact Int.le_refl _, by rw [hver, hchg]; have := hR0.chg; have := hR0.ver; omega, by rw [hver, hxs, hR0.xs, hu.1], by rw [hver, hdeps, hR0.deps, hu.2.1], fun k h0 ht => ?_, fun _ q' r' ht hr' => ?_, fun q' r' hm hr' hc => ?_⟩
    · rw [hver] at ht ⊢
      have ht' := (hu.2.2.1 k).2 ht
      rw [hdur, hu.2.2.2 k h0 ht']
      exact hR0.low k h0 ht'
    · rw [hver] at ht
      have ht' := (hu.2.2.1 _).2 ht
      have hlt := ht'.lt hp hq
      rw [hget, if_neg (by omega)] at hr'
      rw [hdur]
      exact hR0.sub hl q' r' ht' hr'
    · rw [hdeps] at hm
      have hm' : _ ∈ reads p (insH p H r0.ver) q := hR0.deps ▸ hm
      have hlt := sub_lt hp hq hm'
      rw [hget, if_neg (by omega)] at hr'
      refine ⟨by rw [hdur]; exact hR0.sub hl q' r' (TR.base hm') hr', ?_⟩
      have hR' := h.res q' r' hr'
      have hu' : ∀ v', r0.ver ≤ v' → v' ≤ s.rev → val p (insH p H r0.ver) q' = val p (insH p H v') q' := fun v' a b => (h.hist.unch hp (by omega) hb0 hb2 hl hR0.ver (fun k h0 hk => hR0.low k h0 (TR.step hm' hk)) a b).1
      rw [hver, ← hu' s.rev hR0.ver (Int.le_refl _)]
      by_cases hcc : r'.chg ≤ r0.ver
      · exact (hR0.dep q' r' hm hr' hcc).2
      · rw [hR'.xs, ← hu' r'.ver (by have := hR'.chg; omega) hR'.ver]
  · rw [if_neg e] at hr2
    have hR := h.res q2 r2 hr2
    refine ⟨by rw [hrev]; exact hR.ver, hR.chg, hR.xs, hR.deps, hR.low, fun hl' q' r' ht hr' => ?_, fun q' r' hm hr' hc => ?_⟩
    · rw [hlast] at hl'
      rw [hget] at hr'
      by_cases e' : q = q'
      · subst e'
        rw [if_pos rfl] at hr'
        cases hr'
        rw [hdur]
        exact hR.sub hl' q r0 ht hr0
      · rw [if_neg e'] at hr'
        exact hR.sub hl' q' r' ht hr'
    · rw [hget] at hr'
      by_cases e' : q = q'
      · subst e'
        rw [if_pos rfl] at hr'
        cases hr'
        rw [hdur, hxs]
        exact hR.dep q r0 hm hr0 (by omega)
      · rw [if_neg e'] at hr'
        exact hR.dep q' r' hm hr' hc
end
end Go.Proofs.Ytggiddhhbilcjaa
/- From-scratch consistency (plain): every evaluation keeps it, and brings a result that is up to date. -/
namespace Go.Proofs.Ytggiddhhbilcjaa
open Go.RowKit
set_option linter.unusedVariables false
set_option linter.unusedSimpArgs false
section
variable {p : Prg} {H : Hist} {s s' : PS}
theorem HistI.congr (h : HistI H s) (hrev : s'.rev = s.rev) (hlast : ∀ d, s'.last d = s.last d) (hinp : ∀ k, s'.inp k = s.inp k) : HistI H s' :=
  ⟨fun k => by rw [hrev, hinp]; exact h.now k, fun d v k a b c e f v' g i => h.const d v k a b (by rw [← hlast]; exact c) (by rw [← hrev]; exact e) f v' g (by rw [← hrev]; exact i), fun k v a b => by rw [hinp]; exact h.ch k v (by rw [← hinp]; exact a) (by rw [← hrev]; exact b), fun d => by rw [hlast, hrev]; exact h.last d⟩
/-- the results are the same, or some of them have gone -/
theorem Inv.fewer (h : Inv p H s) (hrev : s'.rev = s.rev) (hlast : ∀ d, s'.last d = s.last d) (hinp : ∀ k, s'.inp k = s.inp k) (hes : ∀ (q : Nat) r, aget s'.es (1, (q : Int), 0) = some r → aget s.es (1, (q : Int), 0) = some r) (hw : InvW p s') : Inv p H s' :=
  ⟨hw, h.hist.congr hrev hlast hinp, fun q r hr => by
    have hR := h.res q r (hes q r hr)
    exact ⟨by rw [hrev]; exact hR.ver, hR.chg, hR.xs, hR.deps, hR.low, fun hl q' r' ht hr' => hR.sub (by rw [← hlast]; exact hl) q' r' ht (hes q' r' hr'), fun q' r' hm hr' hc => hR.dep q' r' hm (hes q' r' hr') hc⟩⟩
theorem Inv.idle (h : Inv p H s) : Inv p H s.idle := h.fewer rfl (fun _ => rfl) (fun _ => rfl) (fun _ _ h => h) h.w.idle
theorem Inv.empty (p : Prg) : Inv p (fun _ _ => IV.zero) PS.empty :=
  ⟨invW_empty p, ⟨fun k => by unfold PS.inp PS.empty aget; rfl, fun _ _ _ _ _ _ _ _ _ _ _ => rfl, fun k v _ _ => by unfold PS.inp PS.empty aget; rfl, fun d => by unfold PS.last PS.empty; simp⟩, fun q r h => by unfold PS.empty at h; cases h⟩
/-! ### a step of an evaluation -/
structure Stp (p : Prg) (H : Hist) (m : Nat) (s s' : PS) : Prop where
  inv : Inv p H s'
  rev : s'.rev = s.rev
  last : ∀ d, s'.last d = s.last d
  inp : ∀ k, s'.inp k = s.inp k
  up : ∀ (q' : Nat) r', aget s.es (1, (q' : Int), 0) = some r' → r'.ver = s.rev → ∃ r'', aget s'.es (1, (q' : Int), 0) = some r'' ∧ r''.ver = s.rev ∧ r''.xs = r'.xs ∧ r''.chg = r'.chg ∧ r''.dur = r'.dur ∧ r''.deps = r'.deps
  above : ∀ k, (∀ q' : Nat, q' < m → k ≠ (1, (q' : Int), 0)) → aget s'.es k = aget s.es k ∧ aget s'.act k = aget s.act k
  here : ∀ q' : Nat, (aget s.es (1, (q' : Int), 0)).isSome → (aget s'.es (1, (q' : Int), 0)).isSome
theorem Stp.refl (h : Inv p H s) (m : Nat) : Stp p H m s s := ⟨h, rfl, fun _ => rfl, fun _ => rfl, fun q' r' h1 h2 => ⟨r', h1, h2, rfl, rfl, rfl, rfl⟩, fun _ _ => ⟨rfl, rfl⟩, fun _ h => h⟩
theorem Stp.trans {m m' : Nat} {s1 s2 : PS} (h : Stp p H m s s1) (k : Stp p H m' s1 s2) (hm : m' ≤ m) : Stp p H m s s2 :=
  ⟨k.inv, k.rev.trans h.rev, fun d => (k.last d).trans (h.last d), fun x => (k.inp x).trans (h.inp x), fun q' r' h1 h2 => by
    obtain ⟨r1, a1, a2, a3, a4, a5, a6⟩ := h.up q' r' h1 h2
    obtain ⟨r2, b1, b2, b3, b4, b5, b6⟩ := k.up q' r1 a1 (a2.trans h.rev.symm)
    exact ⟨r2, b1, b2.trans h.rev, b3.trans a3, b4.trans a4, b5.trans a5, b6.trans a6⟩, fun x hx => by
    obtain ⟨a1, a2⟩ := h.above x hx
    obtain ⟨b1, b2⟩ := k.above x fun q' hq' => hx q' (by omega)
    exact ⟨b1.trans a1, b2.trans a2⟩, fun q' hq' => k.here q' (h.here q' hq')⟩
theorem Stp.mono {m m' : Nat} (h : Stp p H m s s') (hm : m ≤ m') : Stp p H m' s s' :=
  ⟨h.inv, h.rev, h.last, h.inp, h.up, fun x hx => h.above x fun q' hq' => hx q' (by omega), h.here⟩
/-- the keys below m are not under way -/
def Idl (m : Nat) (s : PS) : Prop := ∀ q' : Nat, q' < m → s.busy (1, (q' : Int), 0) = 0
theorem stp_beg (h : Inv p H s) (q : Nat) : Stp p H (q + 1) s (begP s (1, (q : Int), 0)) :=
  ⟨h.fewer rfl (fun _ => rfl) (fun _ => rfl) (fun _ _ h => h) ((kept_beg s _).inv h.w), rfl, fun _ => rfl, fun _ => rfl, fun q' r' h1 h2 => ⟨r', h1, h2, rfl, rfl, rfl, rfl⟩, fun k hk => ⟨rfl, by
    unfold begP
    simp only [aget_ups]
    rw [if_neg (Ne.symm (hk q (by omega)))]⟩, fun _ h => h⟩
theorem begP_busy (s : PS) (k k' : QK) : (begP s k).busy k' = if k = k' then 1 else s.busy k' := by
  unfold PS.busy begP
  simp only [aget_ups]
  split <;> rfl
theorem idl_beg {q : Nat} (h : Idl (q + 1) s) : Idl q (begP s (1, (q : Int), 0)) := fun q' hq' => by
  rw [begP_busy, if_neg (fun e => by have := key_inj.1 e; omega)]
  exact h q' (by omega)
theorem fin_es (s : PS) (k : QK) {r0 : RV} (hr0 : aget s.es k = some r0) : (finP s k).es = ups s.es k { r0 with ver := s.rev, use := wrap64 (s.clk + 1) } := by
  unfold finP PS.res
  rw [hr0]
  rfl
theorem idl_fin {q : Nat} (h : Idl q s) : Idl (q + 1) (finP s (1, (q : Int), 0)) := fun q' hq' => by
  unfold PS.busy finP
  simp only [aget_adel]
  by_cases e : q = q'
  · rw [if_pos (by rw [e])]; rfl
  · rw [if_neg (fun h => e (key_inj.1 h))]
    exact h q' (by omega)
theorem stp_fin_aux {q : Nat} {r0 : RV} (hr0 : aget s.es (1, (q : Int), 0) = some r0) (hinv : Inv p H (finP s (1, (q : Int), 0))) : Stp p H (q + 1) s (finP s (1, (q : Int), 0)) ∧ ∃ r, aget (finP s (1, (q : Int), 0)).es (1, (q : Int), 0) = some r ∧ r.ver = s.rev := by
  have hget : ∀ k : QK, aget (finP s (1, (q : Int), 0)).es k = if (1, (q : Int), 0) = k then some { r0 with ver := s.rev, use := wrap64 (s.clk + 1) } else aget s.es k := fun k => by rw [fin_es s _ hr0, aget_ups]
  refine ⟨⟨hinv, rfl, fun _ => rfl, fun _ => rfl, fun q' r' h1 h2 => ?_, fun k hk => ?_, fun q' hq' => ?_⟩, _, by rw [hget, if_pos rfl], rfl⟩
  · rw [hget]
    by_cases e : q = q'
    · subst e
      rw [hr0] at h1
      cases h1
      rw [if_pos rfl]
      exact ⟨_, rfl, rfl, rfl, rfl, rfl, rfl⟩
    · rw [if_neg (fun h => e (key_inj.1 h))]
      exact ⟨r', h1, h2, rfl, rfl, rfl, rfl⟩
  · have hne := hk q (by omega)
    refine ⟨by rw [hget, if_neg (Ne.symm hne)], ?_⟩
    unfold finP
    simp only [aget_adel]
    rw [if_neg (Ne.symm hne)]
  · rw [hget]
    split
    · rfl
    · exact hq'
/-- the end of update, where nothing of the result's durability has changed -/
theorem stp_fin (hp : PrgOk p) (h : Inv p H s) {q : Nat} {r0 : RV} (hr0 : aget s.es (1, (q : Int), 0) = some r0) (hl : s.last r0.dur ≤ r0.ver) : Stp p H (q + 1) s (finP s (1, (q : Int), 0)) ∧ ∃ r, aget (finP s (1, (q : Int), 0)).es (1, (q : Int), 0) = some r ∧ r.ver = s.rev :=
  stp_fin_aux hr0 (h.skip hp hr0 hl (fin_es s _ hr0) rfl (fun _ => rfl) (fun _ => rfl) ((kept_fin s _ (h.w.es _ r0 hr0).1).inv h.w) rfl rfl rfl rfl rfl)
end
/-! ### runs against the plain evaluator -/
section
variable {ε σ τ : Type} {G : σ → QK → Except ε Int × σ} {G' : τ → QK → Except Empty Int × τ} {inp idx : Int} {R : σ → τ → Prop} {E : ε → σ → Prop}
theorem step1_sim (hG : ∀ s t k, R s t → KeyIn inp idx k → (∃ n s', G s k = (.ok n, s') ∧ (G' t k).1 = .ok n ∧ R s' (G' t k).2) ∨ ∃ e s', G s k = (.error e, s') ∧ E e s') {o : QO} {xs : List Int} {s : σ} {t : τ} (ho : OpOk inp idx o) (hx : ∀ x ∈ xs, small x) (hs : R s t) :
    (∃ zs s', step1 G idx o xs s = (.ok zs, s') ∧ (step1 G' idx o xs t).1 = .ok zs ∧ R s' (step1 G' idx o xs t).2) ∨ ∃ e s', step1 G idx o xs s = (.error e, s') ∧ E e s' := by
  have hn : 0 ≤ (if o.1 = 4 ∨ o.1 = 5 then xs.getLastD 0 else 0) := by
    split
    · exact (small_last hx).1
    · omega
  unfold step1
  simp only
  generalize (if o.1 = 4 ∨ o.1 = 5 then xs.getLastD 0 else 0) = n at hn ⊢
  generalize (if o.1 = 4 ∨ o.1 = 5 then xs.dropLast else xs) = ys
  cases hk : opKey o idx n with
  | none =>
    left
    simp only
    split
    · exact ⟨_, _, rfl, rfl, hs⟩
    · exact ⟨_, _, rfl, rfl, hs⟩
  | some k =>
    simp only
    rcases hG s t k hs (opKey_in ho hn hk) with ⟨v, s', h1, h2, h3⟩ | ⟨e, s', h1, h2⟩
    · left
      rw [h1, h2]
      exact ⟨_, _, rfl, rfl, h3⟩
    · right
      rw [h1]
      exact ⟨_, _, rfl, h2⟩
theorem runL_sim (hsm : GSmall G inp idx) (hG : ∀ s t k, R s t → KeyIn inp idx k → (∃ n s', G s k = (.ok n, s') ∧ (G' t k).1 = .ok n ∧ R s' (G' t k).2) ∨ ∃ e s', G s k = (.error e, s') ∧ E e s') : ∀ {ops : List QO} {xs : List Int} {s : σ} {t : τ}, (∀ o ∈ ops, OpOk inp idx o) → (∀ x ∈ xs, small x) → R s t →
    (∃ zs s', runL G idx ops xs s = (.ok zs, s') ∧ (runL G' idx ops xs t).1 = .ok zs ∧ R s' (runL G' idx ops xs t).2) ∨ ∃ e s', runL G idx ops xs s = (.error e, s') ∧ E e s' := by
  intro ops
  induction ops with
  | nil => intro xs s t _ _ hs; exact Or.inl ⟨xs, s, rfl, rfl, hs⟩
  | cons o r ih =>
    intro xs s t ho hx hs
    rcases step1_sim hG (ho o (by simp)) hx hs with ⟨zs, s', h1, h2, h3⟩ | ⟨e, s', h1, h2⟩
    · have hz := step1_small hsm (ho o (by simp)) hx h1
      rcases hB : step1 G' idx o xs t with ⟨y, t'⟩
      rw [hB] at h2 h3
      simp only at h2 h3
      subst h2
      unfold runL
      rw [h1, hB]
      exact ih (fun o' h' => ho o' (by simp [h'])) hz h3
    · right
      unfold runL
      rw [h1]
      exact ⟨e, s', rfl, h2⟩
end
end Go.Proofs.Ytggiddhhbilcjaa
/- From-scratch consistency (plain): update. -/
namespace Go.Proofs.Ytggiddhhbilcjaa
open Go.RowKit
set_option linter.unusedVariables false
set_option linter.unusedSimpArgs false
/-- update may be relied on below n -/
def Good (p : Prg) (H : Hist) (stp : PS → Bool) (U : PS → QK → Except Int Unit × PS) (n : Nat) : Prop :=
  ∀ s (q : Nat), q < n → q < p.qs.length → Inv p H s → Idl (q + 1) s →
    (∃ s', U s (1, (q : Int), 0) = (.ok (), s') ∧ Stp p H (q + 1) s s' ∧ Idl (q + 1) s' ∧ ∃ r, aget s'.es (1, (q : Int), 0) = some r ∧ r.ver = s.rev) ∨
    (∃ s', U s (1, (q : Int), 0) = (.error 12, s') ∧ Stp p H (q + 1) s s' ∧ ∃ s2, stp s2 = true)
theorem Stp.idl {p : Prg} {H : Hist} {m q : Nat} {s s' : PS} (h : Stp p H m s s') (hi : Idl q s) (hm : Idl m s') : Idl q s' := fun q' hq' => by
  by_cases e : q' < m
  · exact hm q' e
  · have := (h.above (1, (q' : Int), 0) fun x hx he => e (by have := key_inj.1 he; omega)).2
    unfold PS.busy
    rw [this]
    exact hi q' hq'
theorem Idl.mono {m m' : Nat} {s : PS} (h : Idl m s) (hm : m' ≤ m) : Idl m' s := fun q hq => h q (by omega)
theorem res_get {s : PS} {k : QK} {r : RV} (h : aget s.es k = some r) : s.res k = r := by
  unfold PS.res
  rw [h]
  rfl
/-- what a get under way has -/
structure GJ (p : Prg) (H : Hist) (q : Nat) (s : PS) (σ : GS) (ks : List QK) : Prop where
  stp : Stp p H q s σ.1
  idl : Idl q σ.1
  eq : σ.2.1 = ks
  d0 : 0 ≤ σ.2.2
  d2 : σ.2.2 ≤ 2
  din : ∀ k ∈ ks, k.1 = 0 → σ.2.2 ≤ (s.inp k).du
  dq : ∀ q' : Nat, (1, (q' : Int), 0) ∈ ks → ∃ r', aget σ.1.es (1, (q' : Int), 0) = some r' ∧ r'.ver = s.rev ∧ σ.2.2 ≤ r'.dur
  glb : ∀ d, 0 ≤ d → d ≤ 2 → (∀ k ∈ ks, k.1 = 0 → d ≤ (s.inp k).du) → (∀ (q' : Nat) r', (1, (q' : Int), 0) ∈ ks → aget σ.1.es (1, (q' : Int), 0) = some r' → d ≤ r'.dur) → d ≤ σ.2.2
section
variable {p : Prg} {H : Hist} {stp : PS → Bool} {U : PS → QK → Except Int Unit × PS} {n : Nat}
theorem getJ (hp : PrgOk p) (hU : Good p H stp U n) {q : Nat} (hq : q ≤ n) (hqN : q < p.qs.length) {s : PS} (hs : Inv p H s) {σ : GS} {ks : List QK} {k : QK} (h : GJ p H q s σ ks) (hk : KeyIn p.inp q k) :
    (∃ v σ', gmap (getP U) σ k = (.ok v, σ') ∧ (GR (insH p H s.rev) (val p (insH p H s.rev)) ks k).1 = .ok v ∧ GJ p H q s σ' (GR (insH p H s.rev) (val p (insH p H s.rev)) ks k).2) ∨
    ∃ e σ', gmap (getP U) σ k = (.error e, σ') ∧ (e = 12 ∧ Stp p H q s σ'.1 ∧ ∃ s2, stp s2 = true) := by
  obtain ⟨a, b, c⟩ := k
  rcases hk with ⟨h0, h1, h2, h3⟩ | ⟨h0, h1, h2, h3⟩
  · simp only at h0 h1 h2 h3
    subst h0 h3
    obtain ⟨i, rfl⟩ := Int.eq_ofNat_of_zero_le h1
    left
    refine ⟨red ((σ.1.inp (0, (i : Int), 0)).xs.getD 0 0), (σ.1, addK σ.2.1 (0, (i : Int), 0), min σ.2.2 (σ.1.inp (0, (i : Int), 0)).du), ?_, ?_, ?_⟩
    · unfold gmap getP
      rw [if_pos rfl]
    · unfold GR kvalOf
      simp only [if_pos]
      rw [show ((0 : Int), (i : Int), (0 : Int)).2.1.toNat = i from rfl, insH_get h2, hs.hist.now, h.stp.inp]
    · have hdu := hs.w.du (0, (i : Int), 0)
      have hsd := h.stp.inp (0, (i : Int), 0)
      refine ⟨h.stp, h.idl, by show addK σ.2.1 _ = addK ks _; rw [h.eq], ?_, ?_, fun x hx hx0 => ?_, fun q' hm => ?_, fun d hd0 hd2 hin hqs => ?_⟩
      · have := h.d0; simp only; rw [hsd]; omega
      · have := h.d2; simp only; omega
      · simp only
        rcases mem_addK_iff hx with hx | rfl
        · have := h.din x hx hx0; omega
        · rw [hsd]; omega
      · rcases mem_addK_iff hm with hm | hm
        · obtain ⟨r', a1, a2, a3⟩ := h.dq q' hm
          exact ⟨r', a1, a2, by simp only; omega⟩
        · exact absurd (congrArg Prod.fst hm) (by simp)
      · have h1 := h.glb d hd0 hd2 (fun x hx => hin x (sub_addK ks _ x hx)) (fun q' r' hm => hqs q' r' (sub_addK ks _ _ hm))
        have h2 := hin _ (mem_addK ks _) rfl
        simp only
        rw [hsd]
        omega
  · simp only at h0 h1 h2 h3
    subst h0 h3
    obtain ⟨j, rfl⟩ := Int.eq_ofNat_of_zero_le h1
    have hjq : j < q := by omega
    rcases hU σ.1 j (by omega) (by omega) h.stp.inv (h.idl.mono (by omega)) with ⟨s1, hu, hst, hid, r, hr, hrv⟩ | ⟨s1, hu, hst, hf⟩
    · left
      have hrev : r.ver = s.rev := hrv.trans h.stp.rev
      have hRr := hst.inv.res j r hr
      obtain ⟨hb0, hb2⟩ := (hst.inv.w.es _ r hr).2.1
      refine ⟨red (r.xs.getD 0 0), (s1, addK σ.2.1 (1, (j : Int), 0), min σ.2.2 r.dur), ?_, ?_, ?_⟩
      · unfold gmap getP
        rw [if_neg (by simp), hu]
        simp only [res_get hr]
      · unfold GR kvalOf
        simp only
        rw [if_neg (by simp), hRr.xs, hrev]
        show Except.ok (val p (insH p H s.rev) j) = Except.ok (red (val p (insH p H s.rev) j))
        rw [red_id (val_small p _ j)]
      · refine ⟨h.stp.trans hst (by omega), hst.idl h.idl hid, by show addK σ.2.1 _ = addK ks _; rw [h.eq], ?_, ?_, fun x hx hx0 => ?_, fun q' hm => ?_, fun d hd0 hd2 hin hqs => ?_⟩
        · have := h.d0; simp only; omega
        · have := h.d2; simp only; omega
        · rcases mem_addK_iff hx with hx | rfl
          · have := h.din x hx hx0; simp only; omega
          · exact absurd hx0 (by simp)
        · rcases mem_addK_iff hm with hm | hm
          · obtain ⟨r', a1, a2, a3⟩ := h.dq q' hm
            obtain ⟨r1, b1, b2, b3, b4, b5, b6⟩ := hst.up q' r' a1 (a2.trans h.stp.rev.symm)
            exact ⟨r1, b1, b2.trans h.stp.rev, by simp only; rw [b5]; omega⟩
          · obtain rfl := key_inj.1 hm
            exact ⟨r, hr, hrev, by simp only; omega⟩
        · have h1 := h.glb d hd0 hd2 (fun x hx => hin x (sub_addK ks _ x hx)) (fun q' r' hm hr' => by
            obtain ⟨r0, a1, a2, a3⟩ := h.dq q' hm
            rw [a1] at hr'
            cases hr'
            obtain ⟨r1, b1, b2, b3, b4, b5, b6⟩ := hst.up q' r' a1 (a2.trans h.stp.rev.symm)
            rw [← b5]
            exact hqs q' r1 (sub_addK ks _ _ hm) b1)
          have h2 := hqs j r (mem_addK ks _) hr
          simp only
          omega
    · right
      refine ⟨12, (s1, σ.2), ?_, rfl, h.stp.trans hst (by omega), hf⟩
      unfold gmap getP
      rw [if_neg (by simp), hu]
/-- recompute -/
theorem rec_ok (hp : PrgOk p) (hU : Good p H stp U n) {q : Nat} (hq : q ≤ n) (hqN : q < p.qs.length) {s : PS} (hs : Inv p H s) (hi : Idl q s) (hst : ∀ r0, aget s.es (1, (q : Int), 0) = some r0 → r0.ver ≠ s.rev) :
    (∃ s3, recompP U (compQ p.qs) stp s (1, (q : Int), 0) = (.ok (), s3) ∧ Stp p H (q + 1) s s3 ∧ Idl q s3 ∧ ∃ r, aget s3.es (1, (q : Int), 0) = some r ∧ r.ver = s.rev) ∨
    (∃ s3, recompP U (compQ p.qs) stp s (1, (q : Int), 0) = (.error 12, s3) ∧ Stp p H q s s3 ∧ ∃ s2, stp s2 = true) := by
  unfold recompP
  by_cases hstop : stp s = true
  · rw [if_pos hstop]
    exact Or.inr ⟨s, rfl, Stp.refl hs q, s, hstop⟩
  · rw [if_neg hstop]
    have hJ0 : GJ p H q s (s, [], 2) [] := ⟨Stp.refl hs q, hi, rfl, by simp, by simp, by simp, by simp, fun d _ h _ _ => h⟩
    have hsim := runL_sim (G := gmap (getP U)) (G' := GR (insH p H s.rev) (val p (insH p H s.rev))) (inp := p.inp) (idx := q) (R := GJ p H q s) (E := fun e σ' => e = 12 ∧ Stp p H q s σ'.1 ∧ ∃ s2, stp s2 = true) (gmap_small _ _ _) (fun σ ks k h hk => getJ hp hU hq hqN hs h hk) (ops := p.qs.getD q []) (xs := []) (hp.qs q hqN).each (by simp) hJ0
    have hgr := runR_GR hp (insH p H s.rev) q hqN
    rcases hsim with ⟨zs, σ', h1, h2, h3⟩ | ⟨e, σ', h1, rfl, h2, h3⟩
    · left
      have hval : zs.getD 0 0 = val p (insH p H s.rev) q ∧ (runL (GR (insH p H s.rev) (val p (insH p H s.rev))) (q : Int) (p.qs.getD q []) [] []).2 = reads p (insH p H s.rev) q := by
        unfold runR at hgr
        rcases hA : runL (GR (insH p H s.rev) (val p (insH p H s.rev))) (q : Int) (p.qs.getD q []) [] [] with ⟨a, b⟩
        rw [hA] at hgr h2
        simp only at h2
        subst h2
        simp only [Prod.mk.injEq, Except.ok.injEq] at hgr
        exact hgr
      rw [hval.2] at h3
      obtain ⟨s2, deps, dur⟩ := σ'
      have hc : compQ p.qs (1, (q : Int), 0) (getP U) (s, [], 2) = (.ok [val p (insH p H s.rev) q], (s2, deps, dur)) := by
        unfold compQ runR
        simp only [Int.toNat_natCast]
        rw [h1, ← hval.1]
      rw [hc]
      have hdeps : deps = reads p (insH p H s.rev) q := h3.eq
      subst hdeps
      have hS := h3.stp
      simp only at hS
      have hold : aget s2.es (1, (q : Int), 0) = aget s.es (1, (q : Int), 0) := (hS.above _ fun q' hq' e => by have := key_inj.1 e; omega).1
      have hw3 : InvW p { s2 with es := ups s2.es (1, (q : Int), 0) (newRes s2 (1, (q : Int), 0) s.rev [val p (insH p H s.rev) q] (reads p (insH p H s.rev) q) dur), cnt := wrap64 (s2.cnt + 1) } := by
        refine ⟨fun k r hr => ?_, hS.inv.w.act, hS.inv.w.du⟩
        simp only [aget_ups] at hr
        split at hr
        · rename_i e
          subst e
          cases hr
          have hnd : (reads p (insH p H s.rev) q).Nodup := by
            have hK := keptG_comp (p := p) (U := fun s _ => (.ok (), s)) (n := q) hp (fun s q _ hi => Kept.refl p s) (Nat.le_refl _) hqN s hs.w
            have := reads_eq p (insH p H s.rev) q
            rw [this]
            exact runL_keeps (J := fun ks : List QK => ks.Nodup) (GR_small (val_small p _) p.inp q) (fun ks k hk _ => addK_nodup hk k) (hp.qs q hqN).each (by simp) List.nodup_nil
          exact ⟨qk_lt hqN, ⟨h3.d0, h3.d2⟩, reads_in hp _ q hqN, hnd⟩
        · exact hS.inv.w.es k r hr
      have hput : Inv p H { s2 with es := ups s2.es (1, (q : Int), 0) (newRes s2 (1, (q : Int), 0) s.rev [val p (insH p H s.rev) q] (reads p (insH p H s.rev) q) dur), cnt := wrap64 (s2.cnt + 1) } := by
        refine hS.inv.put hp hqN rfl rfl (fun _ => rfl) (fun _ => rfl) hw3 hS.rev.symm ?_ h3.d0 h3.d2 (by rw [hS.rev]; rfl) (by rw [hS.rev]; rfl) (fun k hk h0 => ?_) (fun q' hm => ?_) (Or.inr fun d hd0 hd2 hin hqs => ?_) ?_
        · unfold newRes
          simp only
          cases ho : aget s2.es (1, (q : Int), 0) with
          | none => simp only; rw [hS.rev]; exact Int.le_refl _
          | some old =>
            simp only
            have := hS.inv.res q old ho
            have h1 := this.chg
            have h2 := this.ver
            split
            · omega
            · rw [hS.rev]; exact Int.le_refl _
        · rw [hS.inp]; exact h3.din k hk h0
        · obtain ⟨r', a1, a2, a3⟩ := h3.dq q' hm
          exact ⟨r', a1, a2.trans hS.rev.symm, a3⟩
        · exact h3.glb d hd0 hd2 (fun k hk h0 => by rw [← hS.inp]; exact hin k hk h0) hqs
        · unfold newRes
          simp only
          cases ho : aget s2.es (1, (q : Int), 0) with
          | none => left; simp only; exact hS.rev.symm
          | some old =>
            simp only
            by_cases hc : old.dur ≤ dur ∧ old.xs = [val p (insH p H s.rev) q]
            · rw [if_pos hc]
              exact Or.inr ⟨old, rfl, rfl, hc.1, hc.2⟩
            · rw [if_neg hc]
              exact Or.inl hS.rev.symm
      refine ⟨_, rfl, ⟨hput, hS.rev, hS.last, hS.inp, fun q' r' h1 h2 => ?_, fun k hk => ?_, fun q' hq' => ?_⟩, fun q' hq' => h3.idl q' hq', _, (aget_ups _ _ _ _).trans (if_pos rfl), rfl⟩
      · simp only [aget_ups]
        by_cases e : q = q'
        · subst e
          exact absurd h2 (hst r' h1)
        · rw [if_neg (fun h => e (key_inj.1 h))]
          exact hS.up q' r' h1 h2
      · obtain ⟨a1, a2⟩ := hS.above k fun q' hq' => hk q' (by omega)
        refine ⟨?_, a2⟩
        simp only [aget_ups]
        rw [if_neg (Ne.symm (hk q (by omega)))]
        exact a1
      · simp only [aget_ups]
        split
        · rfl
        · exact hS.here q' hq'
    · right
      obtain ⟨s2, dd⟩ := σ'
      have hc : compQ p.qs (1, (q : Int), 0) (getP U) (s, [], 2) = (.error 12, (s2, dd)) := by
        unfold compQ runR
        simp only [Int.toNat_natCast]
        rw [h1]
      rw [hc]
      exact ⟨s2, rfl, h2, h3⟩
/-- keys that are worth the same -/
theorem val_deps (hp : PrgOk p) {ins ins' : List Int} {q : Nat} (hq : q < p.qs.length) (hsame : ∀ k ∈ reads p ins q, kvalOf ins (val p ins) k = kvalOf ins' (val p ins') k) : val p ins q = val p ins' q ∧ reads p ins q = reads p ins' q := by
  obtain ⟨_, _, _, h4⟩ := runL_GR (ins := ins) (ins' := ins') (f := val p ins) (g := val p ins') (ks := []) (val_small p ins) (hp.qs q hq).each (xs := []) (by simp)
  have hrun := h4 (by rw [← reads_eq]; exact hsame)
  have hR : runR (GR ins' (val p ins')) q (p.qs.getD q []) [] = runR (GR ins (val p ins)) q (p.qs.getD q []) [] := by
    unfold runR
    rw [hrun]
  rw [runR_GR hp ins q hq, runR_GR hp ins' q hq] at hR
  simp only [Prod.mk.injEq, Except.ok.injEq] at hR
  exact ⟨hR.1.symm, hR.2.symm⟩
/-- the dependencies are asked one by one -/
theorem any_ok (hp : PrgOk p) (hU : Good p H stp U n) {q : Nat} (hq : q ≤ n) (hqN : q < p.qs.length) (rev0 : Int) : ∀ (l : List QK) (s : PS), (∀ k ∈ l, KeyIn p.inp q k) → Inv p H s → Idl q s →
    (∃ s', anyChg U rev0 l s = (.ok false, s') ∧ Stp p H q s s' ∧ Idl q s' ∧ ∀ k ∈ l, (k.1 = 0 → (s.inp k).ch ≤ rev0) ∧ ∀ q' : Nat, k = (1, (q' : Int), 0) → ∃ r', aget s'.es (1, (q' : Int), 0) = some r' ∧ r'.ver = s.rev ∧ r'.chg ≤ rev0) ∨
    (∃ s', anyChg U rev0 l s = (.ok true, s') ∧ Stp p H q s s' ∧ Idl q s') ∨ (∃ s', anyChg U rev0 l s = (.error 12, s') ∧ Stp p H q s s' ∧ ∃ s2, stp s2 = true) := by
  intro l
  induction l with
  | nil => intro s _ hs hi; exact Or.inl ⟨s, rfl, Stp.refl hs q, hi, by simp⟩
  | cons k l ih =>
    intro s hl hs hi
    have hk := hl k (by simp)
    -- one key
    have h1 : (∃ s' t, chgSince U s k rev0 = (.ok t, s') ∧ Stp p H q s s' ∧ Idl q s' ∧ (t = false → (k.1 = 0 → (s.inp k).ch ≤ rev0) ∧ ∀ q' : Nat, k = (1, (q' : Int), 0) → ∃ r', aget s'.es (1, (q' : Int), 0) = some r' ∧ r'.ver = s.rev ∧ r'.chg ≤ rev0)) ∨ (∃ s', chgSince U s k rev0 = (.error 12, s') ∧ Stp p H q s s' ∧ ∃ s2, stp s2 = true) := by
      unfold chgSince
      obtain ⟨a, b, c⟩ := k
      rcases hk with ⟨h0, h1, h2, h3⟩ | ⟨h0, h1, h2, h3⟩
      · simp only at h0
        subst h0
        rw [if_pos rfl]
        exact Or.inl ⟨s, _, rfl, Stp.refl hs q, hi, fun ht => ⟨fun _ => by simpa using ht, fun q' e => absurd (congrArg Prod.fst e) (by simp)⟩⟩
      · simp only at h0 h1 h2 h3
        subst h0 h3
        obtain ⟨j, rfl⟩ := Int.eq_ofNat_of_zero_le h1
        rw [if_neg (by simp)]
        rcases hU s j (by omega) (by omega) hs (hi.mono (by omega)) with ⟨s1, hu, hst, hid, r, hr, hrv⟩ | ⟨s1, hu, hst, hf⟩
        · rw [hu]
          refine Or.inl ⟨s1, _, rfl, hst.mono (by omega), hst.idl hi hid, fun ht => ⟨fun h => absurd h (by simp), fun q' e => ?_⟩⟩
          obtain rfl := key_inj.1 e
          rw [res_get hr] at ht
          exact ⟨r, hr, hrv, by simpa using ht⟩
        · rw [hu]
          exact Or.inr ⟨s1, rfl, hst.mono (by omega), hf⟩
    rcases h1 with ⟨s1, t, hc, hst, hid, ht⟩ | ⟨s1, hc, hst, hf⟩
    · cases t with
      | true => exact Or.inr (Or.inl ⟨s1, by unfold anyChg; rw [hc], hst, hid⟩)
      | false =>
        obtain ⟨t0, t1⟩ := ht rfl
        have hstep : anyChg U rev0 (k :: l) s = anyChg U rev0 l s1 := by
          rw [anyChg, hc]
        rw [hstep]
        rcases ih s1 (fun k hk => hl k (by simp [hk])) hst.inv hid with ⟨s2, h1, h2, h3, h4⟩ | ⟨s2, h1, h2, h3⟩ | ⟨s2, h1, h2, h3⟩
        · refine Or.inl ⟨s2, h1, hst.trans h2 (Nat.le_refl _), h3, fun x hx => ?_⟩
          rcases List.mem_cons.1 hx with rfl | hx
          · refine ⟨t0, fun q' e => ?_⟩
            obtain ⟨r', a1, a2, a3⟩ := t1 q' e
            obtain ⟨r1, b1, b2, b3, b4, b5, b6⟩ := h2.up q' r' a1 (a2.trans hst.rev.symm)
            exact ⟨r1, b1, b2.trans hst.rev, by rw [b4]; exact a3⟩
          · obtain ⟨a1, a2⟩ := h4 x hx
            refine ⟨fun h0 => by rw [← hst.inp]; exact a1 h0, fun q' e => ?_⟩
            obtain ⟨r', b1, b2, b3⟩ := a2 q' e
            exact ⟨r', b1, b2.trans hst.rev, b3⟩
        · exact Or.inr (Or.inl ⟨s2, h1, hst.trans h2 (Nat.le_refl _), h3⟩)
        · exact Or.inr (Or.inr ⟨s2, h1, hst.trans h2 (Nat.le_refl _), h3⟩)
    · exact Or.inr (Or.inr ⟨s1, by unfold anyChg; rw [hc], hst, hf⟩)
/-- what follows a recomputation -/
theorem then_ok (hp : PrgOk p) (hU : Good p H stp U n) {q : Nat} (hq : q ≤ n) (hqN : q < p.qs.length) {s0 s : PS} (h0 : Stp p H (q + 1) s0 s) (hi : Idl q s) (hst : ∀ r0, aget s.es (1, (q : Int), 0) = some r0 → r0.ver ≠ s.rev) :
    (∃ s', thenFin (1, (q : Int), 0) (recompP U (compQ p.qs) stp s (1, (q : Int), 0)) = (.ok (), s') ∧ Stp p H (q + 1) s0 s' ∧ Idl (q + 1) s' ∧ ∃ r, aget s'.es (1, (q : Int), 0) = some r ∧ r.ver = s0.rev) ∨
    (∃ s', thenFin (1, (q : Int), 0) (recompP U (compQ p.qs) stp s (1, (q : Int), 0)) = (.error 12, s') ∧ Stp p H (q + 1) s0 s' ∧ ∃ s2, stp s2 = true) := by
  rcases rec_ok hp hU hq hqN h0.inv hi hst with ⟨s3, h1, h2, h3, r, h4, h5⟩ | ⟨s3, h1, h2, h3⟩
  · rw [h1]
    obtain ⟨f1, r1, f2, f3⟩ := stp_fin hp h2.inv h4 (by rw [h5, ← h2.rev]; exact h2.inv.hist.last _)
    exact Or.inl ⟨_, rfl, (h0.trans h2 (Nat.le_refl _)).trans f1 (Nat.le_refl _), idl_fin h3, r1, f2, (f3.trans h2.rev).trans h0.rev⟩
  · rw [h1]
    exact Or.inr ⟨s3, rfl, h0.trans h2 (by omega), h3⟩
theorem upd_ok (hp : PrgOk p) (hU : Good p H stp U n) {q : Nat} (hq : q ≤ n) (hqN : q < p.qs.length) {s : PS} (hs : Inv p H s) (hi : Idl (q + 1) s) :
    (∃ s', updP U (compQ p.qs) stp s (1, (q : Int), 0) = (.ok (), s') ∧ Stp p H (q + 1) s s' ∧ Idl (q + 1) s' ∧ ∃ r, aget s'.es (1, (q : Int), 0) = some r ∧ r.ver = s.rev) ∨
    (∃ s', updP U (compQ p.qs) stp s (1, (q : Int), 0) = (.error 12, s') ∧ Stp p H (q + 1) s s' ∧ ∃ s2, stp s2 = true) := by
  have hb := stp_beg hs q
  have hib := idl_beg hi
  have h0 := hi q (by omega)
  cases hr : aget s.es (1, (q : Int), 0) with
  | none =>
    rw [updP_none h0 hr]
    exact then_ok hp hU hq hqN hb hib fun r0 h => by rw [show aget (begP s (1, (q : Int), 0)).es (1, (q : Int), 0) = none from hr] at h; cases h
  | some r =>
    by_cases hv : r.ver = (begP s (1, (q : Int), 0)).rev ∨ (begP s (1, (q : Int), 0)).last r.dur ≤ r.ver
    · rw [updP_yes h0 hr (by unfold validP; rw [if_pos hv])]
      obtain ⟨f1, r1, f2, f3⟩ := stp_fin hp hb.inv (r0 := r) hr (by
        rcases hv with hv | hv
        · rw [hv]; exact hb.inv.hist.last _
        · exact hv)
      exact Or.inl ⟨_, rfl, hb.trans f1 (Nat.le_refl _), idl_fin hib, r1, f2, f3⟩
    · have hres := hb.inv.res q r hr
      have hkeys : ∀ k ∈ r.deps, KeyIn p.inp q k := (hs.w.es _ r hr).2.2.1
      have hval : ∀ x s2, anyChg U r.ver r.deps (begP s (1, (q : Int), 0)) = (x, s2) → validP U (begP s (1, (q : Int), 0)) r = (match x with | .ok t => .ok (!t) | .error e => .error e, s2) := fun x s2 h => by
        unfold validP
        rw [if_neg hv, h]
        cases x <;> rfl
      rcases any_ok hp hU hq hqN r.ver r.deps _ hkeys hb.inv hib with ⟨s2, h1, h2, h3, h4⟩ | ⟨s2, h1, h2, h3⟩ | ⟨s2, h1, h2, h3⟩
      · rw [updP_yes h0 hr (hval _ _ h1)]
        have hr2 : aget s2.es (1, (q : Int), 0) = some r := ((h2.above _ fun q' hq' e => by have := key_inj.1 e; omega).1).trans hr
        have hR2 := h2.inv.res q r hr2
        have hrv2 : s2.rev = (begP s (1, (q : Int), 0)).rev := h2.rev
        have hinp : ∀ k ∈ r.deps, k.1 = 0 → H r.ver k = H s2.rev k := fun k hk hk0 => by
          have := (h4 k hk).1 hk0
          rw [h2.inv.hist.now, h2.inv.hist.ch k r.ver (by rw [h2.inp]; exact this) hR2.ver]
        have hq2 : ∀ q' : Nat, (1, (q' : Int), 0) ∈ r.deps → ∃ r', aget s2.es (1, (q' : Int), 0) = some r' ∧ r'.ver = s2.rev ∧ r.dur ≤ r'.dur ∧ val p (insH p H r.ver) q' = val p (insH p H s2.rev) q' := fun q' hm => by
          obtain ⟨r', a1, a2, a3⟩ := (h4 _ hm).2 q' rfl
          obtain ⟨b1, b2⟩ := hR2.dep q' r' hm a1 a3
          refine ⟨r', a1, a2.trans hrv2.symm, b1, ?_⟩
          have := (h2.inv.res q' r' a1).xs
          rw [b2, a2, ← hrv2] at this
          simpa using this
        have hsame : ∀ k ∈ reads p (insH p H r.ver) q, kvalOf (insH p H r.ver) (val p (insH p H r.ver)) k = kvalOf (insH p H s2.rev) (val p (insH p H s2.rev)) k := by
          rintro ⟨a, b, c⟩ hk
          unfold kvalOf
          rcases reads_in hp _ q hqN _ hk with ⟨e0, e1, e2, e3⟩ | ⟨e0, e1, e2, e3⟩
          · simp only at e0 e1 e2 e3
            subst e0 e3
            obtain ⟨i, rfl⟩ := Int.eq_ofNat_of_zero_le e1
            rw [if_pos rfl, if_pos rfl, show ((0 : Int), (i : Int), (0 : Int)).2.1.toNat = i from rfl, insH_get e2, insH_get e2, hinp _ (hR2.deps ▸ hk) rfl]
          · simp only at e0 e1 e2 e3
            subst e0 e3
            obtain ⟨i, rfl⟩ := Int.eq_ofNat_of_zero_le e1
            rw [if_neg (by simp), if_neg (by simp)]
            obtain ⟨r', _, _, _, h⟩ := hq2 i (hR2.deps ▸ hk)
            exact h
        obtain ⟨hval', hrd'⟩ := val_deps hp hqN hsame
        obtain ⟨hd0, hd2⟩ := (hs.w.es _ r hr).2.1
        have hput : Inv p H (finP s2 (1, (q : Int), 0)) := by
          refine h2.inv.put hp hqN (fin_es s2 _ hr2) rfl (fun _ => rfl) (fun _ => rfl) ((kept_fin s2 _ (qk_lt hqN)).inv h2.inv.w) rfl ?_ hd0 hd2 ?_ ?_ (fun k hk hk0 => ?_) (fun q' hm => ?_) (Or.inl ⟨r, hr2, Int.le_refl _⟩) (Or.inr ⟨r, hr2, rfl, Int.le_refl _, rfl⟩)
          · have := hR2.chg; have := hR2.ver; simp only; omega
          · simp only; rw [← hval']; exact hR2.xs
          · simp only; rw [← hrd']; exact hR2.deps
          · simp only at hk ⊢
            rw [← h2.inv.hist.now, ← hinp k hk hk0]
            exact hR2.low k hk0 (TR.base (hR2.deps ▸ hk))
          · obtain ⟨r', a1, a2, a3, _⟩ := hq2 q' hm
            exact ⟨r', a1, a2, a3⟩
        obtain ⟨f1, r1, f2, f3⟩ := stp_fin_aux hr2 hput
        exact Or.inl ⟨_, rfl, (hb.trans h2 (by omega)).trans f1 (Nat.le_refl _), idl_fin h3, r1, f2, f3.trans h2.rev⟩
      · rw [updP_no h0 hr (hval _ _ h1)]
        have hr2 : aget s2.es (1, (q : Int), 0) = some r := ((h2.above _ fun q' hq' e => by have := key_inj.1 e; omega).1).trans hr
        refine then_ok hp hU hq hqN (hb.trans h2 (by omega)) h3 fun r0 hr0 => ?_
        rw [hr2] at hr0
        cases hr0
        rw [h2.rev]
        exact fun e => hv (Or.inl e)
      · rw [updP_err h0 hr (hval _ _ h1)]
        exact Or.inr ⟨s2, rfl, hb.trans h2 (by omega), h3⟩
end
theorem good_UQ {p : Prg} (hp : PrgOk p) (H : Hist) (stp : PS → Bool) : ∀ n, Good p H stp (UQ p.qs stp n) n := by
  intro n
  induction n with
  | zero => intro s q hq; omega
  | succ n ih => intro s q hq hqN hs hi; exact upd_ok hp ih (by omega) hqN hs hi
end Go.Proofs.Ytggiddhhbilcjaa
