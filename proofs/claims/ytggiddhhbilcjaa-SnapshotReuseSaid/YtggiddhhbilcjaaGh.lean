/- A compiled program in the database: what every evaluation keeps (plain); the update that may be relied on. -/
import Derived.Test.YtggiddhhbilcjaaGg
/- A compiled program in the database: what every evaluation keeps (plain); the update that may be relied on. -/
namespace Go.Proofs.Ytggiddhhbilcjaa
open Go.RowKit
set_option linter.unusedVariables false
set_option linter.unusedSimpArgs false
/-! ### runs -/
section
variable {ε σ : Type} {G : σ → QK → Except ε Int × σ} {inp idx : Int}
theorem step1_keeps {J : σ → Prop} (hJ : ∀ s k, J s → KeyIn inp idx k → J (G s k).2) {o : QO} {xs : List Int} {s : σ} (ho : OpOk inp idx o) (hx : ∀ x ∈ xs, small x) (hs : J s) : J (step1 G idx o xs s).2 := by
  have hn : 0 ≤ (if o.1 = 4 ∨ o.1 = 5 then xs.getLastD 0 else 0) := by
    split
    · exact (small_last hx).1
    · omega
  unfold step1
  simp only
  generalize (if o.1 = 4 ∨ o.1 = 5 then xs.getLastD 0 else 0) = n at hn ⊢
  generalize (if o.1 = 4 ∨ o.1 = 5 then xs.dropLast else xs) = ys
  cases hk : opKey o idx n with
  | none =>
    simp only
    split
    · exact hs
    · exact hs
  | some k => exact hJ s k hs (opKey_in ho hn hk)
theorem runL_keeps {J : σ → Prop} (hG : GSmall G inp idx) (hJ : ∀ s k, J s → KeyIn inp idx k → J (G s k).2) : ∀ {ops : List QO} {xs : List Int} {s : σ}, (∀ o ∈ ops, OpOk inp idx o) → (∀ x ∈ xs, small x) → J s → J (runL G idx ops xs s).2 := by
  intro ops
  induction ops with
  | nil => intro xs s _ _ hs; exact hs
  | cons o r ih =>
    intro xs s ho hx hs
    have h1 := step1_keeps hJ (ho o (by simp)) hx hs
    unfold runL
    cases hA : step1 G idx o xs s with
    | mk a s1 =>
      rw [hA] at h1
      cases a with
      | error e => exact h1
      | ok ys => exact ih (fun o' h' => ho o' (by simp [h'])) (step1_small hG (ho o (by simp)) hx hA) h1
end
theorem gmap_small {σ : Type} (G : σ → QK → Except Int (List Int) × σ) (inp idx : Int) : GSmall (gmap G) inp idx := by
  intro s k n _ h
  unfold gmap at h
  split at h
  · simp only [Except.ok.injEq] at h; subst h; exact red_bd _
  · cases h
theorem gmap_snd {σ : Type} (G : σ → QK → Except Int (List Int) × σ) (s : σ) (k : QK) : (gmap G s k).2 = (G s k).2 := by
  unfold gmap
  rcases h : G s k with ⟨_ | _, s'⟩ <;> rfl
theorem compQ_snd (qs : List (List QO)) (key : QK) (G : GS → QK → Except Int (List Int) × GS) (s : GS) : (compQ qs key G s).2 = (runL (gmap G) key.2.1 (qs.getD key.2.1.toNat []) [] s).2 := by
  unfold compQ
  rw [← runR_snd]
  rcases h : runR (gmap G) key.2.1 (qs.getD key.2.1.toNat []) s with ⟨_ | _, s'⟩ <;> rfl
theorem compQ_keeps {p : Prg} (hp : PrgOk p) {q : Nat} (hq : q < p.qs.length) {G : GS → QK → Except Int (List Int) × GS} {J : GS → Prop} (hJ : ∀ s k, J s → KeyIn p.inp q k → J (G s k).2) {s : GS} (hs : J s) : J (compQ p.qs (1, (q : Int), 0) G s).2 := by
  rw [compQ_snd]
  exact runL_keeps (gmap_small G p.inp q) (fun s k h hk => by rw [gmap_snd]; exact hJ s k h hk) (hp.qs q hq).each (by simp) hs
/-! ### what is kept -/
structure InvW (p : Prg) (s : PS) : Prop where
  es : ∀ k r, aget s.es k = some r → QryK p.qs.length k ∧ (0 ≤ r.dur ∧ r.dur ≤ 2) ∧ (∀ d ∈ r.deps, KeyIn p.inp k.2.1 d) ∧ r.deps.Nodup
  act : ∀ k v, aget s.act k = some v → v = 1
  du : ∀ k, 0 ≤ (s.inp k).du ∧ (s.inp k).du ≤ 2
/-- an evaluation leaves the inputs alone -/
structure Kept (p : Prg) (s s' : PS) : Prop where
  inv : InvW p s → InvW p s'
  rev : s'.rev = s.rev
  l0 : s'.l0 = s.l0
  l1 : s'.l1 = s.l1
  l2 : s'.l2 = s.l2
  cells : s'.cells = s.cells
theorem Kept.refl (p : Prg) (s : PS) : Kept p s s := ⟨id, rfl, rfl, rfl, rfl, rfl⟩
theorem Kept.trans {p : Prg} {s s1 s2 : PS} (h : Kept p s s1) (k : Kept p s1 s2) : Kept p s s2 := ⟨fun hi => k.inv (h.inv hi), k.rev.trans h.rev, k.l0.trans h.l0, k.l1.trans h.l1, k.l2.trans h.l2, k.cells.trans h.cells⟩
theorem Kept.inp {p : Prg} {s s' : PS} (h : Kept p s s') (k : QK) : s'.inp k = s.inp k := by unfold PS.inp; rw [h.cells]
theorem Kept.last {p : Prg} {s s' : PS} (h : Kept p s s') (d : Int) : s'.last d = s.last d := by unfold PS.last; rw [h.l0, h.l1, h.l2]
section
variable {p : Prg} {U : PS → QK → Except Int Unit × PS} {n : Nat} {stp : PS → Bool}
theorem kept_beg (s : PS) (k : QK) : Kept p s (begP s k) :=
  ⟨fun h => ⟨h.es, fun k' v hv => by
    unfold begP at hv
    simp only [aget_ups] at hv
    split at hv
    · cases hv; rfl
    · exact h.act k' v hv, h.du⟩, rfl, rfl, rfl, rfl, rfl⟩
theorem kept_fin (s : PS) (k : QK) (hk : QryK p.qs.length k) : Kept p s (finP s k) := by
  refine ⟨fun h => ⟨fun k' r' hv => ?_, fun k' v hv => ?_, h.du⟩, rfl, rfl, rfl, rfl, rfl⟩
  · unfold finP at hv
    simp only [aget_ups] at hv
    split at hv
    · rename_i e
      subst e
      cases hv
      unfold PS.res
      cases hr : aget s.es k with
      | none => exact ⟨hk, by simp, by simp, by simp⟩
      | some r => exact h.es k r hr
    · exact h.es k' r' hv
  · unfold finP at hv
    simp only [aget_adel] at hv
    split at hv
    · cases hv
    · exact h.act k' v hv
theorem kept_chg (hU : ∀ s (q : Nat), q < n → InvW p s → Kept p s (U s (1, (q : Int), 0)).2) {q : Nat} (hq : q ≤ n) (s : PS) (hi : InvW p s) (k : QK) (hk : KeyIn p.inp q k) (rev : Int) : Kept p s (chgSince U s k rev).2 := by
  unfold chgSince
  split
  · exact Kept.refl p s
  · rename_i h0
    obtain ⟨a, b, c⟩ := k
    rcases hk with ⟨h, _⟩ | ⟨h1, h2, h3, h4⟩
    · exact absurd h h0
    · simp only at h1 h2 h3 h4
      subst h1 h4
      obtain ⟨j, rfl⟩ := Int.eq_ofNat_of_zero_le h2
      have := hU s j (by omega) hi
      rcases hu : U s (1, (j : Int), 0) with ⟨_ | _, s'⟩ <;> (rw [hu] at this; exact this)
theorem kept_any (hU : ∀ s (q : Nat), q < n → InvW p s → Kept p s (U s (1, (q : Int), 0)).2) {q : Nat} (hq : q ≤ n) (rev : Int) : ∀ (l : List QK) (s : PS), InvW p s → (∀ k ∈ l, KeyIn p.inp q k) → Kept p s (anyChg U rev l s).2 := by
  intro l
  induction l with
  | nil => intro s _ _; exact Kept.refl p s
  | cons k l ih =>
    intro s hi hl
    have h1 := kept_chg hU hq s hi k (hl k (by simp)) rev
    unfold anyChg
    rcases hc : chgSince U s k rev with ⟨_ | (_ | _), s'⟩
    · rw [hc] at h1; exact h1
    · rw [hc] at h1; exact h1.trans (ih s' (h1.inv hi) fun k hk => hl k (by simp [hk]))
    · rw [hc] at h1; exact h1
theorem kept_valid (hU : ∀ s (q : Nat), q < n → InvW p s → Kept p s (U s (1, (q : Int), 0)).2) {q : Nat} (hq : q ≤ n) (s : PS) (hi : InvW p s) (r : RV) (hr : ∀ k ∈ r.deps, KeyIn p.inp q k) : Kept p s (validP U s r).2 := by
  unfold validP
  split
  · exact Kept.refl p s
  · have h1 := kept_any hU hq r.ver r.deps s hi hr
    rcases hc : anyChg U r.ver r.deps s with ⟨_ | _, s'⟩ <;> (rw [hc] at h1; exact h1)
/-- a get under way -/
structure KeptG (p : Prg) (q : Nat) (s0 : PS) (σ : GS) : Prop where
  kept : Kept p s0 σ.1
  deps : ∀ d ∈ σ.2.1, KeyIn p.inp q d
  nd : σ.2.1.Nodup
  dur : InvW p s0 → 0 ≤ σ.2.2 ∧ σ.2.2 ≤ 2
theorem res_dur {s : PS} {k : QK} (h : InvW p s) : 0 ≤ (s.res k).dur ∧ (s.res k).dur ≤ 2 := by
  unfold PS.res
  cases hr : aget s.es k with
  | none => simp
  | some r => exact (h.es k r hr).2.1
theorem keptG_get (hU : ∀ s (q : Nat), q < n → InvW p s → Kept p s (U s (1, (q : Int), 0)).2) {q : Nat} (hq : q ≤ n) {s0 : PS} (hi0 : InvW p s0) (σ : GS) (k : QK) (h : KeptG p q s0 σ) (hk : KeyIn p.inp q k) : KeptG p q s0 (getP U σ k).2 := by
  have hadd : ∀ d ∈ addK σ.2.1 k, KeyIn p.inp q d := fun d hd => by
    rcases mem_addK_iff hd with h1 | rfl
    · exact h.deps d h1
    · exact hk
  unfold getP
  split
  · refine ⟨h.kept, hadd, addK_nodup h.nd k, fun hi => ?_⟩
    have h1 := h.dur hi
    have h2 := (h.kept.inv hi).du k
    simp only
    omega
  · rename_i h0
    obtain ⟨a, b, c⟩ := k
    rcases hk with ⟨h1, _⟩ | ⟨h1, h2, h3, h4⟩
    · exact absurd h1 h0
    · simp only at h1 h2 h3 h4
      subst h1 h4
      obtain ⟨j, rfl⟩ := Int.eq_ofNat_of_zero_le h2
      have hk := hU σ.1 j (by omega) (h.kept.inv hi0)
      rcases hu : U σ.1 (1, (j : Int), 0) with ⟨_ | _, s'⟩
      · rw [hu] at hk
        exact ⟨h.kept.trans hk, h.deps, h.nd, h.dur⟩
      · rw [hu] at hk
        refine ⟨h.kept.trans hk, hadd, addK_nodup h.nd _, fun hi => ?_⟩
        have h1 := h.dur hi
        have h2 := res_dur (k := (1, (j : Int), 0)) ((h.kept.trans hk).inv hi)
        simp only at h1 h2 ⊢
        omega
theorem keptG_comp (hp : PrgOk p) (hU : ∀ s (q : Nat), q < n → InvW p s → Kept p s (U s (1, (q : Int), 0)).2) {q : Nat} (hq : q ≤ n) (hqs : q < p.qs.length) (s : PS) (hi : InvW p s) : KeptG p q s (compQ p.qs (1, (q : Int), 0) (getP U) (s, [], 2)).2 :=
  compQ_keeps hp hqs (fun σ k h hk => keptG_get hU hq hi σ k h hk) ⟨Kept.refl p s, by simp, by simp, fun _ => by simp⟩
theorem kept_re (hp : PrgOk p) (hU : ∀ s (q : Nat), q < n → InvW p s → Kept p s (U s (1, (q : Int), 0)).2) {q : Nat} (hq : q ≤ n) (hqs : q < p.qs.length) (s : PS) (hi : InvW p s) : Kept p s (recompP U (compQ p.qs) stp s (1, (q : Int), 0)).2 := by
  unfold recompP
  split
  · exact Kept.refl p s
  · have h := keptG_comp hp hU hq hqs s hi
    rcases hc : compQ p.qs (1, (q : Int), 0) (getP U) (s, [], 2) with ⟨_ | xs, s', deps, dur⟩
    · rw [hc] at h; exact h.kept
    · rw [hc] at h
      refine ⟨fun hi => ?_, h.kept.rev, h.kept.l0, h.kept.l1, h.kept.l2, h.kept.cells⟩
      have h1 := h.kept.inv hi
      refine ⟨fun k r hr => ?_, h1.act, h1.du⟩
      simp only [aget_ups] at hr
      split at hr
      · rename_i e
        subst e
        cases hr
        exact ⟨⟨rfl, by simp, by simp only; omega, rfl⟩, h.dur hi, h.deps, h.nd⟩
      · exact h1.es k r hr
theorem re_leaves {s s' : PS} {k : QK} {C : QK → (GS → QK → Except Int (List Int) × GS) → GS → Except Int (List Int) × GS} {u : Unit} (h : recompP U C stp s k = (.ok u, s')) : (aget s'.es k).isSome := by
  unfold recompP at h
  split at h
  · cases h
  · split at h
    · simp only [Prod.mk.injEq] at h
      rw [← h.2]
      simp [aget_ups]
    · cases h
theorem kept_then {s : PS} {k : QK} (hk : QryK p.qs.length k) (x : Except Int Unit × PS) (h : Kept p s x.2) : Kept p s (thenFin k x).2 := by
  rcases x with ⟨_ | _, s'⟩
  · exact h
  · exact h.trans (kept_fin _ _ hk)
theorem kept_upd (hp : PrgOk p) (hU : ∀ s (q : Nat), q < n → InvW p s → Kept p s (U s (1, (q : Int), 0)).2) {q : Nat} (hq : q ≤ n) (hqs : q < p.qs.length) (s : PS) (hi : InvW p s) : Kept p s (updP U (compQ p.qs) stp s (1, (q : Int), 0)).2 := by
  have hk : QryK p.qs.length (1, (q : Int), 0) := ⟨rfl, by simp, by simp only; omega, rfl⟩
  have hb := kept_beg (p := p) s (1, (q : Int), 0)
  by_cases h0 : s.busy (1, (q : Int), 0) = 0
  · cases hr : aget s.es (1, (q : Int), 0) with
    | none =>
      rw [updP_none h0 hr]
      exact kept_then hk _ (hb.trans (kept_re hp hU hq hqs _ (hb.inv hi)))
    | some r =>
      have hv := kept_valid hU hq (begP s (1, (q : Int), 0)) (hb.inv hi) r (hi.es _ r hr).2.2.1
      rcases hval : validP U (begP s (1, (q : Int), 0)) r with ⟨x | t, s2⟩
      · rw [hval] at hv
        rw [updP_err h0 hr hval]
        exact hb.trans hv
      · rw [hval] at hv
        cases t with
        | true =>
          rw [updP_yes h0 hr hval]
          exact (hb.trans hv).trans (kept_fin _ _ hk)
        | false =>
          rw [updP_no h0 hr hval]
          exact kept_then hk _ ((hb.trans hv).trans (kept_re hp hU hq hqs _ ((hb.trans hv).inv hi)))
  · rw [updP_busy h0]
    exact Kept.refl p s
end
/-- an update of a query below n -/
def UQ (qs : List (List QO)) (stp : PS → Bool) : Nat → PS → QK → Except Int Unit × PS
  | 0 => fun s _ => (.ok (), s)
  | n + 1 => updP (UQ qs stp n) (compQ qs) stp
theorem kept_UQ {p : Prg} (hp : PrgOk p) (stp : PS → Bool) : ∀ n, n ≤ p.qs.length → ∀ s (q : Nat), q < n → InvW p s → Kept p s (UQ p.qs stp n s (1, (q : Int), 0)).2 := by
  intro n
  induction n with
  | zero => intro _ s q hq; omega
  | succ n ih =>
    intro hn s q hq hi
    exact kept_upd hp (ih (by omega)) (by omega) (by omega) s hi
/-! ### in memory -/
/-- the keys that update may be asked for -/
def KQ (p : Prg) (n : Nat) (s : PS) (k : QK) : Prop := QryK n k ∧ InvW p s
theorem qryKok {N : Nat} {k : QK} (h : QryK N k) (hN : N ≤ 40) : Inp.QKok k := by
  obtain ⟨h1, h2, h3, h4⟩ := h
  refine ⟨?_, ?_, ?_⟩ <;> (unfold Inp.In64; omega)
theorem keyInOk {inp idx : Int} {k : QK} (h : KeyIn inp idx k) (hi : inp ≤ 40) (hx : idx ≤ 40) : Inp.QKok k := by
  rcases h with ⟨h1, h2, h3, h4⟩ | ⟨h1, h2, h3, h4⟩ <;> (refine ⟨?_, ?_, ?_⟩ <;> (unfold Inp.In64; omega))
theorem comp_fam {p : Prg} (hp : PrgOk p) {w0 : World} {RO : Nat → Prop} {bv bq : Nat} {qv : Value} (hm : CompMem RO bv bq qv p.qs w0) : CFam w0 RO 50 #[.pointer (some ⟨bv, 0, none⟩), .pointer (some ⟨bq, 0, none⟩)] (compQ p.qs) chI (QryK p.qs.length) (fun key => KeyIn p.inp key.2.1) where
  enter := enterC
  call := by
    rintro fn gcaps I RO' G F s w ⟨k1, k2, k3⟩ fam ⟨h1, h2, h3, h4⟩ hI hRO hsame
    simp only at h1 h2 h3 h4 fam
    subst h1 h4
    obtain ⟨q, rfl⟩ := Int.eq_ofNat_of_zero_le h2
    exact compile1_any (hm.same hsame) hp (by omega) fam hI hRO
theorem upd_fam {p : Prg} (hp : PrgOk p) {w0 : World} {RO : Nat → Prop} {b : Nat} {cf : Nat} {ccaps : Array Value} {stop : Value} {stp : PS → Bool} {n : Nat} (hn : n < p.qs.length) (cfam : CFam w0 RO cf ccaps (compQ p.qs) chI (QryK p.qs.length) (fun key => KeyIn p.inp key.2.1))
    (hst : stop = .nilFunc ∧ stp = (fun _ => false) ∨ ∃ sf sfirst scaps, stop = .func (.func sf) sfirst scaps ∧ SFam w0 RO b sf sfirst scaps stp)
    (fam : UFam w0 RO b (.func (.func cf) #[] ccaps) stop (KQ p n) (UQ p.qs stp n) chI) : UFam w0 RO b (.func (.func cf) #[] ccaps) stop (KQ p (n + 1)) (UQ p.qs stp (n + 1)) chI where
  kind := fun s k hk => ⟨by rw [hk.1.1]; decide, qryKok hk.1 (by have := hp.size; omega)⟩
  keep := by
    rintro s ⟨k1, k2, k3⟩ k' ⟨⟨h1, h2, h3, h4⟩, hi⟩ hk'
    simp only at h1 h2 h3 h4
    subst h1 h4
    obtain ⟨q, rfl⟩ := Int.eq_ofNat_of_zero_le h2
    exact ⟨hk'.1, (kept_UQ hp stp (n + 1) (by omega) s q (by omega) hi).inv hi⟩
  call := by
    rintro w d ⟨k1, k2, k3⟩ henv hc hs ⟨⟨h1, h2, h3, h4⟩, hi⟩
    simp only at h1 h2 h3 h4
    subst h1 h4
    obtain ⟨q, rfl⟩ := Int.eq_ofNat_of_zero_le h2
    have hqn : q ≤ n := by omega
    have hN := hp.size
    have hinp := hp.inp
    have hkq : QryK p.qs.length (1, (q : Int), 0) := ⟨rfl, by simp, by simp only; omega, rfl⟩
    have hkey := qryKok hkq (by omega)
    have hdep : ∀ s, InvW p s → ∀ k, KeyIn p.inp (q : Int) k → Inp.QKok k ∧ (k.1 ≠ 0 → KQ p n s k) := fun s hs k hk => ⟨keyInOk hk (by omega) (by omega), fun h0 => by
      rcases hk with ⟨h, _⟩ | ⟨a1, a2, a3, a4⟩
      · exact absurd h h0
      · exact ⟨⟨a1, a2, by omega, a4⟩, hs⟩⟩
    have fin : ∀ l : List QK, l.Nodup → (∀ k ∈ l, KeyIn p.inp (q : Int) k) → l.length ≤ 1000 := fun l hl hk => by
      have := keys_few (inp := p.inp) (L := q) (by omega) (by omega) hl hk
      omega
    have hb := (kept_beg (p := p) d.pl (1, (q : Int), 0)).inv hi
    refine update_any (Kk := KeyIn p.inp (q : Int)) (K := KQ p n) (U := UQ p.qs stp n) (C := compQ p.qs) (stp := stp) fam (1, (q : Int), 0) hkey ?_ w d henv hc hs ?_ (hdep _ hb) ?_ ?_
    · intro w d v henv hc hs hact hks
      rcases hst with ⟨rfl, rfl⟩ | ⟨sf, sfirst, scaps, rfl, sfam⟩
      · exact recompute_nil fam cfam (1, (q : Int), 0) v hkq hkey fin w d henv hc hs hact hks
      · exact recompute_fn fam sfam cfam (1, (q : Int), 0) v hkq hkey fin w d henv hc hs hact hks
    · intro h0
      unfold PS.busy at h0
      cases ha : aget d.act (1, (q : Int), 0) with
      | none => rfl
      | some v =>
        have := hi.act _ v ha
        rw [show aget d.pl.act (1, (q : Int), 0) = some v from ha] at h0
        subst this
        simp at h0
    · intro r hr
      have h := hi.es (1, (q : Int), 0) r.pl (by rw [Dm.aget_pl, hr]; rfl)
      exact ⟨⟨h.2.1.1, by have := h.2.1.2; unfold Rs.pl at this; simp only at this; omega⟩, fun k hk => hdep _ hb k (h.2.2.1 k hk)⟩
    · intro r s2 hr hv k hk
      have h := hi.es (1, (q : Int), 0) r.pl (by rw [Dm.aget_pl, hr]; rfl)
      have hkv := kept_valid (kept_UQ hp stp n (by omega)) hqn _ hb r.pl h.2.2.1
      rw [hv] at hkv
      exact hdep _ (hkv.inv hb) k hk
end Go.Proofs.Ytggiddhhbilcjaa
/- The laws' helpers: keys, numbers, equality of values, the fixed program. -/
namespace Go.Proofs.Ytggiddhhbilcjaa
open Go.RowKit Go.ChangeMaps Go.MapKept
set_option linter.unusedVariables false
set_option linter.unusedSimpArgs false
set_option maxHeartbeats 400000 in
theorem inputKey_any (n : Int) (w : World) :
    Calls Try.prog 14 #[.int .i64 n] w fun e w' => e = .returned (i3v (0, n, 0)) ∧ Chg [] w w' := by
  go_enter Try.func14, Try.ntmps14
  go_wp2
  exact bodyPost_ret (v := .agg #[.int .i64 0, .int .i64 n, .int .i64 0]) (by simp [results, Try.results14, go_sem]) rfl ⟨rfl, (Chg.refl [] w).alloc _⟩
set_option maxHeartbeats 400000 in
theorem queryKey_any (n : Int) (w : World) :
    Calls Try.prog 12 #[.int .i64 n] w fun e w' => e = .returned (i3v (1, n, 0)) ∧ Chg [] w w' := by
  go_enter Try.func12, Try.ntmps12
  go_wp2
  exact bodyPost_ret (v := .agg #[.int .i64 1, .int .i64 n, .int .i64 0]) (by simp [results, Try.results12, go_sem]) rfl ⟨rfl, (Chg.refl [] w).alloc _⟩
set_option maxHeartbeats 400000 in
theorem number_any (n : Int) (w : World) :
    Calls Try.prog 15 #[.int .i64 n] w fun e w' => ∃ a c, e = .returned (.agg #[.slice a 1 c, .string ⟨#[]⟩]) ∧ Inp.Ints w' (.slice a 1 c) [n] ∧ Chg [] w w' := by
  go_enter Try.func15, Try.ntmps15
  go_wp2
  refine bodyPost_ret (v := .agg #[.slice (some ⟨w.heap.size + 1, 0, none⟩) 1 1, .string ⟨#[]⟩]) (by simp [results, Try.results15, go_sem]) rfl ⟨_, _, rfl, ?_, ((Chg.refl [] w).alloc _).alloc _⟩
  refine Or.inr ⟨w.heap.size + 1, 0, 1, #[.int .i64 n], (0, 0), rfl, by simp, by unfold maxLen; omega, heap_at _ _ _ (by simp), ?_⟩
  intro i hi
  obtain rfl : i = 0 := by simpa using hi
  rfl
theorem take_step {xs ys : List Int} {k : Nat} (hk : k < xs.length) (hl : ys.length = xs.length) (h : xs.take k = ys.take k) (he : xs.getD k 0 = ys.getD k 0) : xs.take (k + 1) = ys.take (k + 1) := by
  have hk' : k < ys.length := by omega
  rw [List.take_succ_eq_append_getElem hk, List.take_succ_eq_append_getElem hk', h]
  simp only [List.getD_eq_getElem?_getD, List.getElem?_eq_getElem hk, List.getElem?_eq_getElem hk', Option.getD_some] at he
  rw [he]
theorem ret_bool {a b : Bool} (h : a = b) : Ending.returned (.bool a) = .returned (.bool b) := by rw [h]
set_option maxHeartbeats 1000000 in
theorem equalRef_any (w : World) (v1 v2 : Value) (xs ys : List Int) (h1 : Inp.Ints w v1 xs) (h2 : Inp.Ints w v2 ys) :
    Calls Try.prog 26 #[v1, v2] w fun e w' => e = .returned (.bool (decide (xs = ys))) ∧ w' = w := by
  obtain ⟨a1, c1, rfl⟩ := h1.shape
  obtain ⟨a2, c2, rfl⟩ := h2.shape
  have hm : xs.length ≤ maxLen := by
    rcases h1.cells with ⟨_, rfl⟩ | ⟨_, _, _, _, h, _⟩
    · simp
    · exact h
  unfold maxLen at hm
  by_cases hl : xs.length = ys.length
  · have hl1 : (xs.length : Int) = ys.length := by omega
    have H1 := Lib.hid h1
    have H2 := Lib.hid h2
    have Hl := Lib.hid hl
    clear h1 h2 hl
    go_enter Try.func26, Try.ntmps26
    go_wp2
    go_loopw [14] (fun i wr => ∃ k : Nat, k ≤ xs.length ∧ i = .int .i64 (k : Nat) ∧ wr = w ∧ xs.take k = ys.take k) (fun i _ => xs.length - (intOf i).toNat)
    case atStart => exact ⟨0, by omega, rfl, rfl, rfl⟩
    case round =>
      obtain ⟨k, hk, rfl, rfl, ht⟩ := hrel
      have Ht := Lib.hid ht
      clear ht
      by_cases hlt : k < xs.length
      · have hlt2 : k < ys.length := by have := Hl.out; omega
        have hk1 : (k : Int) < xs.length := by omega
        have hk2 : (k : Int) < ys.length := by omega
        rcases H1.out.cells with ⟨h, rfl⟩ | ⟨g1, o1, cc1, h, _, hc1⟩
        · simp at hlt
        simp only [Value.slice.injEq, true_and] at h
        obtain ⟨rfl, rfl⟩ := h
        rcases H2.out.cells with ⟨h, rfl⟩ | ⟨g2, o2, cc2, h, _, hc2⟩
        · simp at hlt2
        simp only [Value.slice.injEq, true_and] at h
        obtain ⟨rfl, rfl⟩ := h
        have q1 := hc1 k hlt
        have q2 := hc2 k hlt2
        clear hc1 hc2
        obtain ⟨x, hx⟩ : ∃ x, xs.getD k 0 = x := ⟨_, rfl⟩
        obtain ⟨y, hy⟩ : ∃ y, ys.getD k 0 = y := ⟨_, rfl⟩
        rw [hx] at q1
        rw [hy] at q2
        have Hx := Lib.hid hx
        have Hy := Lib.hid hy
        clear hx hy
        by_cases he : x = y
        · subst he
          go_wp2
          go_roundw
          case rel => exact ⟨k + 1, by omega, by go_num, trivial, take_step hlt Hl.out.symm Ht.out (by rw [Hx.out, Hy.out])⟩
          case measure => simp [intOf]; omega
        · have he1 : (x != y) = true := by simpa using he
          have He := Lib.hid he
          clear he
          go_wp2
          go_ret
          exact ⟨ret_bool (decide_eq_false (fun e => He.out (by rw [← Hx.out, ← Hy.out, e]))).symm, rfl⟩
      · have hk1 : ¬ (k : Int) < xs.length := by omega
        go_wp2
        go_ret
        exact ⟨ret_bool (decide_eq_true (by have h3 := Ht.out; rwa [List.take_of_length_le (by omega), List.take_of_length_le (by have := Hl.out; omega)] at h3)).symm, rfl⟩
  · have hl1 : ((xs.length : Int) != ys.length) = true := by simp; omega
    have Hl := Lib.hid hl
    clear hl h1 h2
    go_enter Try.func26, Try.ntmps26
    go_wp2
    go_ret
    exact ⟨ret_bool (decide_eq_false (fun e => Hl.out (by rw [e]))).symm, rfl⟩
set_option maxHeartbeats 1000000 in
theorem equalValues_any (w : World) (v1 v2 : Value) (xs ys : List Int) (h1 : Inp.Ints w v1 xs) (h2 : Inp.Ints w v2 ys) :
    Calls Try.prog 17 #[.agg #[v1, .string ⟨#[]⟩], .agg #[v2, .string ⟨#[]⟩]] w fun e w' => e = .returned (.bool (decide (xs = ys))) ∧ Chg [] w w' := by
  obtain ⟨a1, c1, rfl⟩ := h1.shape
  obtain ⟨a2, c2, rfl⟩ := h2.shape
  have hc : Chg [] w ((w.alloc (.cells #[.slice a1 xs.length c1, .string ⟨#[]⟩] 39)).alloc (.cells #[.slice a2 ys.length c2, .string ⟨#[]⟩] 39)) := ((Chg.refl [] w).alloc _).alloc _
  have Hcall := Lib.hid (equalRef_any _ _ _ xs ys (h1.same hc) (h2.same hc))
  have Hc := Lib.hid hc
  clear h1 h2 hc
  go_enter Try.func17, Try.ntmps17
  go_wp2_with fail
  refine Hcall.out.mono ?_
  rintro e w' ⟨rfl, rfl⟩
  go_wp2
  go_ret
  exact ⟨rfl, Hc.out⟩
end Go.Proofs.Ytggiddhhbilcjaa
/- A database over a compiled program; the fixed example. -/
namespace Go.Proofs.Ytggiddhhbilcjaa
open Go.RowKit Go.ChangeMaps Go.MapKept
set_option linter.unusedVariables false
set_option linter.unusedSimpArgs false
/-- a database whose compute function is a compiled program -/
structure DbQ (p : Prg) (w0 : World) (RO : Nat → Prop) (b bv bq : Nat) (qv : Value) (w : World) (d : Dm) : Prop where
  env : Env w0 RO b w d
  mem : CompMem RO bv bq qv p.qs w0
  comp : d.comp = .func (.func 50) #[] #[.pointer (some ⟨bv, 0, none⟩), .pointer (some ⟨bq, 0, none⟩)]
  stop : d.stop = .nilFunc
  inv : InvW p d.pl
theorem fam_all {p : Prg} (hp : PrgOk p) {w0 : World} {RO : Nat → Prop} {b bv bq : Nat} {qv stop : Value} {stp : PS → Bool} (hm : CompMem RO bv bq qv p.qs w0)
    (hst : stop = .nilFunc ∧ stp = (fun _ => false) ∨ ∃ sf sfirst scaps, stop = .func (.func sf) sfirst scaps ∧ SFam w0 RO b sf sfirst scaps stp) :
    ∀ n, n ≤ p.qs.length → UFam w0 RO b (.func (.func 50) #[] #[.pointer (some ⟨bv, 0, none⟩), .pointer (some ⟨bq, 0, none⟩)]) stop (KQ p n) (UQ p.qs stp n) chI := by
  intro n
  induction n with
  | zero =>
    intro _
    have no : ∀ s k, ¬ KQ p 0 s k := fun s k h => by have := h.1.2.1; have := h.1.2.2.1; omega
    exact ⟨fun w d k _ _ _ h => absurd h (no _ _), fun s k k' h => absurd h (no _ _), fun s k h => absurd h (no _ _)⟩
  | succ n ih => intro hn; exact upd_fam hp (by omega) (comp_fam hp hm) hst (ih (by omega))
theorem Env.after {w0 : World} {RO : Nat → Prop} {b : Nat} {w w' : World} {d d' : Dm} (h : Env w0 RO b w d) (k : After b w w' d d') : Env w0 RO b w' d' :=
  ⟨k.mem, fun g hg => by
    obtain ⟨h1, h2, h3⟩ := h.ro g hg
    exact ⟨Nat.lt_of_lt_of_le h1 k.chg.size, (k.chg.block g h1 h3).trans h2, fun hm => (k.muts g hm).elim h3 fun hs => by omega⟩⟩
theorem qk_lt {N : Nat} {q : Nat} (h : q < N) : QryK N (1, (q : Int), 0) := ⟨rfl, by simp, by simp only; omega, rfl⟩
theorem InvW.idle {p : Prg} {s : PS} (h : InvW p s) : InvW p s.idle := ⟨h.es, fun k v hv => (by unfold PS.idle at hv; cases hv), h.du⟩
section
variable {p : Prg} {w0 : World} {RO : Nat → Prop} {b bv bq : Nat} {qv : Value} {w w' : World} {d d' : Dm}
theorem DbQ.new (h : DbQ p w0 RO b bv bq qv w d) (hc : Chg [] w w') : DbQ p w0 RO b bv bq qv w' d := ⟨h.env.new hc, h.mem, h.comp, h.stop, h.inv⟩
theorem DbQ.after (h : DbQ p w0 RO b bv bq qv w d) (ha : After b w w' d d') (hi : InvW p d'.pl) : DbQ p w0 RO b bv bq qv w' d' := ⟨h.env.after ha, h.mem, ha.comp.trans h.comp, ha.stop, hi⟩
/-- the plain update of the whole program -/
def upQ (p : Prg) (stp : PS → Bool) : PS → QK → Except Int Unit × PS := UQ p.qs stp p.qs.length
theorem kept_upQ (hp : PrgOk p) (stp : PS → Bool) (s : PS) (q : Nat) (hq : q < p.qs.length) (hi : InvW p s) : Kept p s (upQ p stp s (1, (q : Int), 0)).2 := kept_UQ hp stp _ (Nat.le_refl _) s q hq hi
theorem getQ_any (hp : PrgOk p) (h : DbQ p w0 RO b bv bq qv w d) (q : Nat) (hq : q < p.qs.length) :
    Calls Try.prog 25 #[.pointer (some ⟨b, 0, none⟩), i3v (1, (q : Int), 0)] w fun e w' => GPost (upQ p fun _ => false) b (1, (q : Int), 0) w d e w' ∧ ∀ d', d'.pl = ((upQ p fun _ => false) d.pl (1, (q : Int), 0)).2.idle → After b w w' d d' → DbQ p w0 RO b bv bq qv w' d' := by
  have hfam := fam_all hp (stop := .nilFunc) (b := b) h.mem (Or.inl ⟨rfl, rfl⟩) p.qs.length (Nat.le_refl _)
  refine (get_any (U := upQ p fun _ => false) (1, (q : Int), 0) (by simp) w d h.env ?_).mono fun e w' hg => ⟨hg, fun d' hpl ha => h.after ha ?_⟩
  · intro w' d' he hc hs hpl
    exact hfam.call w' d' _ he (hc.trans h.comp) hs ⟨qk_lt hq, by rw [hpl]; exact h.inv⟩
  · rw [hpl]; exact ((kept_upQ hp _ d.pl q hq h.inv).inv h.inv).idle
end
/-! ### the fixed example -/
def thP : Prg := ⟨1, [[(2, 0, 0), (1, 1, 0), (11, 0, 0)], [(3, 0, 0)]]⟩
theorem thP_ok : PrgOk thP := by
  refine ⟨by decide, by decide, fun i hi => ?_⟩
  have hi' : i < 2 := hi
  match i, hi' with
  | 0, _ =>
    refine ⟨by decide, fun o ho => ?_, by decide⟩
    have ho' : o ∈ ([(2, 0, 0), (1, 1, 0), (11, 0, 0)] : List QO) := ho
    simp only [List.mem_cons, List.not_mem_nil, or_false] at ho'
    rcases ho' with rfl | rfl | rfl <;> (unfold OpOk; decide)
  | 1, _ =>
    refine ⟨by decide, fun o ho => ?_, by decide⟩
    have ho' : o ∈ ([(3, 0, 0)] : List QO) := ho
    simp only [List.mem_cons, List.not_mem_nil, or_false] at ho'
    rcases ho' with rfl
    unfold OpOk; decide
set_option maxRecDepth 100000 in
set_option maxHeartbeats 1000000 in
theorem threshold_any (w : World) : Calls Try.prog 23 #[] w fun e w' => ∃ v, e = .returned (.agg #[.int .i64 1, v]) ∧ I3ss (fun g => w.heap.size ≤ g ∧ g < w'.heap.size) w' v thP.qs ∧ Chg [] w w' := by
  go_enter Try.func23, Try.ntmps23
  go_wp2
  obtain ⟨w1, hw1⟩ : ∃ x, x = ((((w.alloc (.cells #[.int .i64 1, .slice (some ⟨w.heap.size + 1 + 1 + 1, 0, none⟩) 2 2] 24)).alloc (.cells #[.int .i64 2, .int .i64 0, .int .i64 0, .int .i64 1, .int .i64 1, .int .i64 0, .int .i64 11, .int .i64 0, .int .i64 0] 119)).alloc (.cells #[.int .i64 3, .int .i64 0, .int .i64 0] 119)).alloc (.cells #[.slice (some ⟨w.heap.size + 1, 0, none⟩) 3 3, .slice (some ⟨w.heap.size + 1 + 1, 0, none⟩) 1 1] 116)) := ⟨_, rfl⟩
  rw [← hw1]
  have hc : Chg [] w w1 := by rw [hw1]; exact ((((Chg.refl [] w).alloc _).alloc _).alloc _).alloc _
  have hz : w1.heap.size = w.heap.size + 4 := by rw [hw1]; simp
  have h0 : w1.heap[w.heap.size]? = some (.cells #[.int .i64 1, .slice (some ⟨w.heap.size + 1 + 1 + 1, 0, none⟩) 2 2] 24 (0, 0)) := by
    rw [hw1]; exact (heap_past _ _ _ (by simp; omega)).trans ((heap_past _ _ _ (by simp; omega)).trans ((heap_past _ _ _ (by simp)).trans (heap_at _ _ _ rfl)))
  have h1 : w1.heap[w.heap.size + 1]? = some (.cells #[.int .i64 2, .int .i64 0, .int .i64 0, .int .i64 1, .int .i64 1, .int .i64 0, .int .i64 11, .int .i64 0, .int .i64 0] 119 (0, 0)) := by
    rw [hw1]; exact (heap_past _ _ _ (by simp)).trans ((heap_past _ _ _ (by simp)).trans (heap_at _ _ _ (by simp)))
  have h2 : w1.heap[w.heap.size + 1 + 1]? = some (.cells #[.int .i64 3, .int .i64 0, .int .i64 0] 119 (0, 0)) := by
    rw [hw1]; exact (heap_past _ _ _ (by simp)).trans (heap_at _ _ _ (by simp))
  have h3 : w1.heap[w.heap.size + 1 + 1 + 1]? = some (.cells #[.slice (some ⟨w.heap.size + 1, 0, none⟩) 3 3, .slice (some ⟨w.heap.size + 1 + 1, 0, none⟩) 1 1] 116 (0, 0)) := by
    rw [hw1]; exact heap_at _ _ _ (by simp)
  have r0 : w1.cell? ⟨w.heap.size, 0, none⟩ = some (.int .i64 1) := cell_of_heap h0 rfl
  have r1 : w1.cell? ⟨w.heap.size, 1, none⟩ = some (.slice (some ⟨w.heap.size + 1 + 1 + 1, 0, none⟩) 2 2) := cell_of_heap h0 rfl
  refine bodyPost_ret (v := .agg #[.int .i64 1, .slice (some ⟨w.heap.size + 1 + 1 + 1, 0, none⟩) 2 2]) (by simp [results, Try.results23, go_sem, r0, r1]) rfl ⟨_, rfl, ?_, hc⟩
  refine ⟨_, 2, rfl, Nat.le_refl _, by unfold maxLen; decide, fun _ => ⟨_, 0, rfl, ⟨by omega, by omega⟩, fun j hj => ?_⟩⟩
  have hj' : j < 2 := hj
  match j, hj' with
  | 0, _ =>
    refine ⟨_, cell_of_heap h3 rfl, _, 3, rfl, Nat.le_refl _, by unfold maxLen; decide, fun _ => ⟨_, 0, rfl, ⟨by omega, by omega⟩, fun i hi => ?_⟩⟩
    have hi' : i < 3 := hi
    match i, hi' with
    | 0, _ => exact ⟨cell_of_heap h1 rfl, cell_of_heap h1 rfl, cell_of_heap h1 rfl⟩
    | 1, _ => exact ⟨cell_of_heap h1 rfl, cell_of_heap h1 rfl, cell_of_heap h1 rfl⟩
    | 2, _ => exact ⟨cell_of_heap h1 rfl, cell_of_heap h1 rfl, cell_of_heap h1 rfl⟩
  | 1, _ =>
    refine ⟨_, cell_of_heap h3 rfl, _, 1, rfl, Nat.le_refl _, by unfold maxLen; decide, fun _ => ⟨_, 0, rfl, ⟨by omega, by omega⟩, fun i hi => ?_⟩⟩
    have hi' : i < 1 := hi
    match i, hi' with
    | 0, _ => exact ⟨cell_of_heap h2 rfl, cell_of_heap h2 rfl, cell_of_heap h2 rfl⟩
/-- a new database over a compiled program -/
theorem invW_empty (p : Prg) : InvW p PS.empty := ⟨fun k r h => (by unfold PS.empty at h; cases h), fun k v h => (by unfold PS.empty at h; cases h), fun k => by unfold PS.inp PS.empty; simp only; unfold aget; simp [IV.zero]⟩
theorem DbQ.make {p : Prg} {w0 : World} {RO : Nat → Prop} {b bv bq : Nat} {qv : Value} {w : World} {d : Dm} (hm : CompMem RO bv bq qv p.qs w0) (hRO : ∀ g, RO g → g < w0.heap.size) (hd : DmAt w b d) (hpl : d.pl = PS.empty) (hcomp : d.comp = .func (.func 50) #[] #[.pointer (some ⟨bv, 0, none⟩), .pointer (some ⟨bq, 0, none⟩)]) (hstop : d.stop = .nilFunc) (hc : Chg [] w0 w) (hn : ∀ g ∈ d.muts b ++ d.imms, w0.heap.size ≤ g) : DbQ p w0 RO b bv bq qv w d :=
  ⟨⟨hd, fun g hg => ⟨Nat.lt_of_lt_of_le (hRO g hg) hc.size, hc.block g (hRO g hg) (by simp), fun h => by have := hn g (List.mem_append_left _ h); have := hRO g hg; omega⟩⟩, hm, hcomp, hstop, by rw [hpl]; exact invW_empty p⟩
/-! what the fixed example computes -/
def ex1 : PS := setP PS.empty (0, 0, 0) [4] 0
def ex2 : Except Int Unit × PS := upQ thP (fun _ => false) ex1 (1, 1, 0)
def ex3 : PS := setP ex2.2.idle (0, 0, 0) [7] 0
def ex4 : Except Int Unit × PS := upQ thP (fun _ => false) ex3 (1, 1, 0)
theorem ex2_ok : ex2.1 = .ok () := by kernel_rfl
theorem ex2_val : (ex2.2.res (1, 1, 0)).xs = [0] := by kernel_rfl
theorem ex4_ok : ex4.1 = .ok () := by kernel_rfl
theorem ex4_val : (ex4.2.res (1, 1, 0)).xs = [0] := by kernel_rfl
theorem ex4_cnt : ex4.2.cnt = 3 := by kernel_rfl
theorem ex2_rev : ex2.2.rev = 1 := by kernel_rfl
theorem invW_set {p : Prg} {s : PS} (h : InvW p s) (k : QK) (xs : List Int) (du : Int) (hdu : 0 ≤ du ∧ du < 3) : InvW p (setP s k xs du) := by
  unfold setP
  split
  · exact h
  · refine ⟨h.es, h.act, fun k' => ?_⟩
    unfold PS.inp
    simp only [aget_ups]
    split
    · simp only [Option.getD_some]; omega
    · exact h.du k'
end Go.Proofs.Ytggiddhhbilcjaa
/- A database of a law's own; the laws' fixed example. -/
namespace Go.Proofs.Ytggiddhhbilcjaa
open Go.RowKit Go.ChangeMaps Go.MapKept
set_option linter.unusedVariables false
set_option linter.unusedSimpArgs false
/-- a database that was made behind the world wb -/
def DbF (p : Prg) (wb : World) (b : Nat) (w : World) (d : Dm) : Prop :=
  ∃ w0 RO bv bq qv, DbQ p w0 RO b bv bq qv w d ∧ Chg [] wb w ∧ (∀ g ∈ d.muts b, wb.heap.size ≤ g) ∧ ∀ g, RO g → g < b
/-- values read before stay -/
def Stay (w w' : World) : Prop := ∀ v xs, Inp.Ints w v xs → Inp.Ints w' v xs
theorem Stay.new {w w' : World} (hc : Chg [] w w') : Stay w w' := fun v xs h => h.same hc
theorem Stay.trans {w w1 w2 : World} (h : Stay w w1) (k : Stay w1 w2) : Stay w w2 := fun v xs hi => k v xs (h v xs hi)
theorem grow {b : Nat} {wb w w' : World} {d d' : Dm} {Q : Prop} (hc : Chg [] wb w) (hf : (∀ g ∈ d.muts b, wb.heap.size ≤ g) ∧ Q) (ha : After b w w' d d') : Chg [] wb w' ∧ (∀ g ∈ d'.muts b, wb.heap.size ≤ g) ∧ Q :=
  ⟨ChgP.toL ((hc.p (S := fun g => g ∈ ([] : List Nat))).comp ha.chg fun g hg => Or.inr (hf.1 g hg)), fun g hg => (ha.muts g hg).elim (hf.1 g) fun h => Nat.le_trans hc.size h, hf.2⟩
def GetPostF (p : Prg) (stp : PS → Bool) (wb : World) (b : Nat) (k : QK) (w : World) (d : Dm) (e : Ending) (w' : World) : Prop :=
  ∃ d', DbF p wb b w' d' ∧ d'.pl = (upQ p stp d.pl k).2.idle ∧ After b w w' d d' ∧ match (upQ p stp d.pl k).1 with
    | .ok _ => ∃ a c, e = .returned (.tuple #[.agg #[.slice a ((upQ p stp d.pl k).2.res k).xs.length c, .string ⟨#[]⟩], .int .i64 0]) ∧ Inp.Ints w' (.slice a ((upQ p stp d.pl k).2.res k).xs.length c) ((upQ p stp d.pl k).2.res k).xs
    | .error x => e = .returned (.tuple #[.agg #[.slice none 0 0, .string ⟨#[]⟩], .int .i64 x])
def SetPostF (p : Prg) (wb : World) (b : Nat) (k : QK) (xs : List Int) (du : Int) (w : World) (d : Dm) (e : Ending) (w' : World) : Prop :=
  ∃ d', DbF p wb b w' d' ∧ d'.pl = setP d.pl k xs du ∧ After b w w' d d' ∧ e = .returned (.int .i64 0)
/-- a block that is none of the database's -/
structure Box (b : Nat) (w : World) (d : Dm) (g : Nat) (o : Obj) : Prop where
  blk : w.heap[g]? = some o
  off : g ∉ d.muts b
theorem Box.new {b : Nat} {w w' : World} {d : Dm} {g : Nat} {o : Obj} (h : Box b w d g o) (hc : Chg [] w w') : Box b w' d g o := ⟨(hc.block g (lt_of_obj h.blk) (by simp)).trans h.blk, h.off⟩
theorem Box.after {b : Nat} {w w' : World} {d d' : Dm} {g : Nat} {o : Obj} (h : Box b w d g o) (ha : After b w w' d d') : Box b w' d' g o :=
  ⟨(ha.chg.block g (lt_of_obj h.blk) h.off).trans h.blk, fun hm => (ha.muts g hm).elim h.off fun hs => by have := lt_of_obj h.blk; omega⟩
theorem Box.make {b : Nat} {w : World} {d : Dm} (h : DmAt w b d) (cs : Array Value) (ty : TypeId) : Box b (w.alloc (.cells cs ty)) d w.heap.size (.cells cs ty) := ⟨heap_at _ _ _ rfl, fun hm => by have := h.lt _ hm; omega⟩
section
variable {p : Prg} {wb : World} {b : Nat} {w w' : World} {d d' : Dm}
theorem DbF.new (h : DbF p wb b w d) (hc : Chg [] w w') : DbF p wb b w' d := by
  obtain ⟨w0, RO, bv, bq, qv, h1, h2, h3⟩ := h
  exact ⟨w0, RO, bv, bq, qv, h1.new hc, h2.trans hc, h3⟩
theorem DbF.chg (h : DbF p wb b w d) : Chg [] wb w := by
  obtain ⟨w0, RO, bv, bq, qv, h1, h2, h3⟩ := h
  exact h2
theorem DbF.mem (h : DbF p wb b w d) : DmAt w b d := by
  obtain ⟨w0, RO, bv, bq, qv, h1, h2, h3⟩ := h
  exact h1.env.mem
theorem DbF.inv (h : DbF p wb b w d) : InvW p d.pl := by
  obtain ⟨w0, RO, bv, bq, qv, h1, h2, h3⟩ := h
  exact h1.inv
theorem DbF.get (hp : PrgOk p) (h : DbF p wb b w d) (q : Nat) (hq : q < p.qs.length) :
    Calls Try.prog 25 #[.pointer (some ⟨b, 0, none⟩), i3v (1, (q : Int), 0)] w (GetPostF p (fun _ => false) wb b (1, (q : Int), 0) w d) := by
  obtain ⟨w0, RO, bv, bq, qv, h1, h2, h3⟩ := h
  refine (getQ_any hp h1 q hq).mono ?_
  rintro e w' ⟨⟨d', ha, hpl, hm⟩, hdb⟩
  exact ⟨d', ⟨w0, RO, bv, bq, qv, hdb d' hpl ha, grow h2 h3 ha⟩, hpl, ha, hm⟩
theorem DbF.set (h : DbF p wb b w d) (k : QK) (v : Value) (xs : List Int) (du : Int) (hk : Inp.QKok k) (h0 : k.1 = 0) (hv : Inp.Ints w v xs) (hx : xs.length * 8 ≤ 140737488355328) (hdu : 0 ≤ du ∧ du < 3) (hrev : 0 ≤ d.pl.rev ∧ d.pl.rev < 4611686018427387904) :
    Calls Try.prog 24 #[.pointer (some ⟨b, 0, none⟩), i3v k, .agg #[v, .string ⟨#[]⟩], .int .i64 du] w (SetPostF p wb b k xs du w d) := by
  obtain ⟨w0, RO, bv, bq, qv, h1, h2, h3⟩ := h
  refine (dbSet_any w d k v xs du h1.env.mem h1.stop hk h0 hv hx hdu (by have := h1.inv.du k; omega) hrev).mono ?_
  rintro e w' ⟨d', ha, hpl, he⟩
  exact ⟨d', ⟨w0, RO, bv, bq, qv, h1.after ha (by rw [hpl]; exact invW_set h1.inv k xs du hdu), grow h2 h3 ha⟩, hpl, ha, he⟩
end
set_option maxRecDepth 100000 in
set_option maxHeartbeats 8000000 in
theorem memoExample_any (w : World) : Calls Try.prog 6 #[] w fun e w' => e = .returned (.bool true) ∧ Chg [] w w' := by
  go_enter Try.func6, Try.ntmps6
  go_wp2_with fail
  refine (threshold_any _).mono ?_
  rintro e w1 ⟨v, rfl, hq, hc1⟩
  obtain ⟨av, cv, rfl, _⟩ := hq.shape
  have Hq := Lib.hid hq
  have Hc1 := Lib.hid hc1
  clear hq hc1
  go_wp2_with fail
  refine (compile_any _ w1 1 thP.qs _ Hq.out thP_ok).mono ?_
  rintro e w2 ⟨bv, bq, qv, rfl, hm2, hc2⟩
  have Hm2 := Lib.hid hm2
  have Hc2 := Lib.hid (Hc1.out.trans hc2)
  clear hm2 hc2
  go_wp2_with fail
  refine (memoNew_any _ _ w2).mono ?_
  rintro e w3 ⟨b, d, rfl, hd, hpl, hcomp, hstop, hc3, hn⟩
  have Hdb := Lib.hid (show DbF thP w b w3 d from ⟨_, _, _, _, _, DbQ.make Hm2.out (fun g hg => hg.2) hd hpl hcomp hstop hc3 hn, Hc2.out.trans hc3, fun g hg => Nat.le_trans Hc2.out.size (hn g (List.mem_append_left _ hg)), fun g hg => Nat.lt_of_lt_of_le hg.2 (hn b (List.mem_append_left _ (by simp [Dm.muts])))⟩)
  have Hpl := Lib.hid hpl
  clear hd hpl hcomp hstop hc3 hn Hm2 Hc2 Hq Hc1
  go_wp2_with fail
  refine (number_any 4 _).mono ?_
  rintro e w4 ⟨a4, c4, rfl, hi4, hc4⟩
  have Hdb4 := Lib.hid (Hdb.out.new hc4)
  have Hi4 := Lib.hid hi4
  clear hi4 hc4 Hdb
  go_wp2_with fail
  refine (Hdb4.out.set (0, 0, 0) _ [4] 0 (keyInOk (inp := 1) (idx := 0) (Or.inl ⟨rfl, by decide, by decide, rfl⟩) (by decide) (by decide)) rfl Hi4.out (by simp) (by omega) (by rw [Hpl.out]; exact ⟨by decide +kernel, by decide +kernel⟩)).mono ?_
  rintro e w5 ⟨d5, hd5, hpl5, _, rfl⟩
  have Hdb5 := Lib.hid hd5
  have Hpl5 := Lib.hid (hpl5.trans (by rw [Hpl.out]; rfl) : d5.pl = ex1)
  clear hd5 hpl5 Hi4 Hdb4 Hpl
  go_wp2_with fail
  refine (queryKey_any 1 _).mono ?_
  rintro e w6 ⟨rfl, hc6⟩
  have Hdb6 := Lib.hid (Hdb5.out.new hc6)
  clear hc6 Hdb5
  go_wp2_with fail
  refine (Hdb6.out.get thP_ok 1 (by decide)).mono ?_
  rintro e w7 ⟨d7, hd7, hpl7, _, hm⟩
  rw [Hpl5.out] at hpl7 hm
  have h2 : (upQ thP (fun _ => false) ex1 (1, ((1 : Nat) : Int), 0)).1 = .ok () := ex2_ok
  have h2v : ((upQ thP (fun _ => false) ex1 (1, ((1 : Nat) : Int), 0)).2.res (1, ((1 : Nat) : Int), 0)).xs = [0] := ex2_val
  rw [h2] at hm
  simp only [h2v] at hm
  obtain ⟨a7, c7, rfl, hi7⟩ := hm
  have hcv : Chg [] w7 (w7.alloc (.cells #[.slice a7 1 c7, .string ⟨#[]⟩] 39)) := (Chg.refl [] w7).alloc _
  have Hbx := Lib.hid (Box.make hd7.mem #[.slice a7 1 c7, .string ⟨#[]⟩] 39)
  have Hdb7 := Lib.hid (hd7.new hcv)
  have Hpl7 := Lib.hid (show d7.pl = ex2.2.idle from hpl7)
  have Hi7 := Lib.hid (hi7.same hcv)
  clear hd7 hpl7 hi7 h2 h2v hcv Hdb6 Hpl5
  go_wp2_with fail
  obtain ⟨w8, hw8⟩ : ∃ x, x = w7.alloc (.cells #[.slice a7 1 c7, .string ⟨#[]⟩] 39) := ⟨_, rfl⟩
  rw [← hw8] at Hbx Hdb7 Hi7 ⊢
  clear hw8
  refine (number_any 7 _).mono ?_
  rintro e w9 ⟨a9, c9, rfl, hi9, hc9⟩
  have Hdb9 := Lib.hid (Hdb7.out.new hc9)
  have Hbx9 := Lib.hid (Hbx.out.new hc9)
  have Hi7' := Lib.hid (Hi7.out.same hc9)
  have Hi9 := Lib.hid hi9
  clear hi9 hc9 Hdb7 Hbx Hi7
  go_wp2_with fail
  refine (Hdb9.out.set (0, 0, 0) _ [7] 0 (keyInOk (inp := 1) (idx := 0) (Or.inl ⟨rfl, by decide, by decide, rfl⟩) (by decide) (by decide)) rfl Hi9.out (by simp) (by omega) (by rw [Hpl7.out]; exact ⟨by decide +kernel, by decide +kernel⟩)).mono ?_
  rintro e w10 ⟨d10, hd10, hpl10, ha10, rfl⟩
  have Hpl10 := Lib.hid (hpl10.trans (by rw [Hpl7.out]; rfl) : d10.pl = ex3)
  have Hdb10 := Lib.hid hd10
  have Hbx10 := Lib.hid (Hbx9.out.after ha10)
  have Hi10 := Lib.hid (ha10.ints Hdb9.out.mem Hi7'.out)
  clear hpl10 hd10 ha10 Hdb9 Hbx9 Hi7' Hi9 Hpl7
  go_wp2_with fail
  refine (queryKey_any 1 _).mono ?_
  rintro e w11 ⟨rfl, hc11⟩
  have Hdb11 := Lib.hid (Hdb10.out.new hc11)
  have Hbx11 := Lib.hid (Hbx10.out.new hc11)
  have Hi11 := Lib.hid (Hi10.out.same hc11)
  clear hc11 Hdb10 Hbx10 Hi10
  go_wp2_with fail
  refine (Hdb11.out.get thP_ok 1 (by decide)).mono ?_
  rintro e w12 ⟨d12, hd12, hpl12, ha12, hm⟩
  rw [Hpl10.out] at hpl12 hm
  have h2 : (upQ thP (fun _ => false) ex3 (1, ((1 : Nat) : Int), 0)).1 = .ok () := ex4_ok
  have h2v : ((upQ thP (fun _ => false) ex3 (1, ((1 : Nat) : Int), 0)).2.res (1, ((1 : Nat) : Int), 0)).xs = [0] := ex4_val
  rw [h2] at hm
  simp only [h2v] at hm
  obtain ⟨a12, c12, rfl, hi12⟩ := hm
  have hq7 : w12.cell? ⟨w7.heap.size, 0, none⟩ = some (.slice a7 1 c7) := cell_of_heap (Hbx11.out.after ha12).blk rfl
  have l7 : w7.heap.size < w12.heap.size := lt_of_cell hq7
  have l71 : w7.heap.size < w12.heap.size + 1 := by omega
  have l72 : w7.heap.size < w12.heap.size + 2 := by omega
  have l73 : w7.heap.size < w12.heap.size + 1 + 1 := by omega
  have hcnt : d12.cnt = 3 := by
    have : d12.pl.cnt = 3 := by rw [hpl12]; exact ex4_cnt
    exact this
  have Hdb12 := Lib.hid hd12
  have Hi12 := Lib.hid hi12
  have Hj12 := Lib.hid (ha12.ints Hdb11.out.mem Hi11.out)
  have Hcnt := Lib.hid hcnt
  clear hd12 hpl12 ha12 h2 h2v hi12 hcnt Hdb11 Hbx11 Hi11 Hpl10
  go_wp2_with fail
  have hrow : ∀ w : World, Inp.Ints (w.alloc (.cells #[.int .i64 0] 3)) (.slice (some ⟨w.heap.size, 0, none⟩) 1 1) [0] := fun w => Or.inr ⟨w.heap.size, 0, 1, #[.int .i64 0], (0, 0), rfl, by simp, by unfold maxLen; omega, heap_at _ _ _ rfl, fun i hi => by
    obtain rfl : i = 0 := by simpa using hi
    rfl⟩
  have Hrow := Lib.hid hrow
  clear hrow
  refine (equalRef_any _ _ _ [0] [0] (Hj12.out.same (((Chg.refl [] w12).alloc _).alloc _)) (by simpa using Hrow.out (w12.alloc (.cells #[.slice a12 1 c12, .string ⟨#[]⟩] 39)))).mono ?_
  rintro e w13 ⟨rfl, rfl⟩
  go_wp2_with fail
  refine (equalRef_any _ _ _ [0] [0] (Hi12.out.same ((((Chg.refl [] w12).alloc _).alloc _).alloc _)) (by simpa using Hrow.out ((w12.alloc (.cells #[.slice a12 1 c12, .string ⟨#[]⟩] 39)).alloc (.cells #[.int .i64 0] 3)))).mono ?_
  rintro e w14 ⟨rfl, rfl⟩
  have Hend := Lib.hid (Hdb12.out.new ((((Chg.refl [] w12).alloc (.cells #[.slice a12 1 c12, .string ⟨#[]⟩] 39)).alloc (.cells #[.int .i64 0] 3)).alloc (.cells #[.int .i64 0] 3)))
  go_wp2_with fail
  refine (computations_any _ b d12 Hend.out.mem).mono ?_
  rintro e w15 ⟨rfl, rfl⟩
  have hcnt := Hcnt.out
  go_wp2_with fail
  go_ret
  exact ⟨rfl, Hend.out.chg⟩
end Go.Proofs.Ytggiddhhbilcjaa
