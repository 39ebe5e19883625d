/- A compiled program in the database: what every evaluation keeps (plain); the update that may be relied on. -/
import Derived.Test.YtdeodcomlakpaaaMnQ
namespace Go.Proofs.Ytdeodcomlakpaaa
open Go.RowKit
set_option linter.unusedVariables false
set_option linter.unusedSimpArgs false
/-! ### runs -/
section
variable {ε σ : Type} {G : σ → QK → Except ε Int × σ} {inp idx : Int}
theorem step1_keeps {J : σ → Prop} (hJ : ∀ s k, J s → KeyIn inp idx k → J (G s k).2) {o : QO} {xs : List Int} {s : σ} (ho : OpOk inp idx o) (hx : ∀ x ∈ xs, small x) (hs : J s) : J (step1 G idx o xs s).2 := by
  have hn : 0 ≤ (if o.1 = 4 ∨ o.1 = 5 then xs.getLastD 0 else 0) := by
    split
    · exact (small_last hx).1
    · omega
  unfold step1
  simp only
  generalize (if o.1 = 4 ∨ o.1 = 5 then xs.getLastD 0 else 0) = n at hn ⊢
  generalize (if o.1 = 4 ∨ o.1 = 5 then xs.dropLast else xs) = ys
  cases hk : opKey o idx n with
  | none =>
    simp only
    split
    · exact hs
    · exact hs
  | some k => exact hJ s k hs (opKey_in ho hn hk)
theorem runL_keeps {J : σ → Prop} (hG : GSmall G inp idx) (hJ : ∀ s k, J s → KeyIn inp idx k → J (G s k).2) : ∀ {ops : List QO} {xs : List Int} {s : σ}, (∀ o ∈ ops, OpOk inp idx o) → (∀ x ∈ xs, small x) → J s → J (runL G idx ops xs s).2 := by
  intro ops
  induction ops with
  | nil => intro xs s _ _ hs; exact hs
  | cons o r ih =>
    intro xs s ho hx hs
    have h1 := step1_keeps hJ (ho o (by simp)) hx hs
    unfold runL
    cases hA : step1 G idx o xs s with
    | mk a s1 =>
      rw [hA] at h1
      cases a with
      | error e => exact h1
      | ok ys => exact ih (fun o' h' => ho o' (by simp [h'])) (step1_small hG (ho o (by simp)) hx hA) h1
end
theorem gmap_small {σ : Type} (G : σ → QK → Except Int (List Int) × σ) (inp idx : Int) : GSmall (gmap G) inp idx := by
  intro s k n _ h
  unfold gmap at h
  split at h
  · simp only [Except.ok.injEq] at h; subst h; exact red_bd _
  · cases h
theorem gmap_snd {σ : Type} (G : σ → QK → Except Int (List Int) × σ) (s : σ) (k : QK) : (gmap G s k).2 = (G s k).2 := by
  unfold gmap
  rcases h : G s k with ⟨_ | _, s'⟩ <;> rfl
theorem compQ_snd (qs : List (List QO)) (key : QK) (G : GS → QK → Except Int (List Int) × GS) (s : GS) : (compQ qs key G s).2 = (runL (gmap G) key.2.1 (qs.getD key.2.1.toNat []) [] s).2 := by
  unfold compQ
  rw [← runR_snd]
  rcases h : runR (gmap G) key.2.1 (qs.getD key.2.1.toNat []) s with ⟨_ | _, s'⟩ <;> rfl
theorem compQ_keeps {p : Prg} (hp : PrgOk p) {q : Nat} (hq : q < p.qs.length) {G : GS → QK → Except Int (List Int) × GS} {J : GS → Prop} (hJ : ∀ s k, J s → KeyIn p.inp q k → J (G s k).2) {s : GS} (hs : J s) : J (compQ p.qs (1, (q : Int), 0) G s).2 := by
  rw [compQ_snd]
  exact runL_keeps (gmap_small G p.inp q) (fun s k h hk => by rw [gmap_snd]; exact hJ s k h hk) (hp.qs q hq).each (by simp) hs
/-! ### what is kept -/
structure InvW (p : Prg) (s : PS) : Prop where
  es : ∀ k r, aget s.es k = some r → QryK p.qs.length k ∧ (0 ≤ r.dur ∧ r.dur ≤ 2) ∧ (∀ d ∈ r.deps, KeyIn p.inp k.2.1 d) ∧ r.deps.Nodup
  act : ∀ k v, aget s.act k = some v → v = 1
  du : ∀ k, 0 ≤ (s.inp k).du ∧ (s.inp k).du ≤ 2
/-- an evaluation leaves the inputs alone -/
structure Kept (p : Prg) (s s' : PS) : Prop where
  inv : InvW p s → InvW p s'
  rev : s'.rev = s.rev
  l0 : s'.l0 = s.l0
  l1 : s'.l1 = s.l1
  l2 : s'.l2 = s.l2
  cells : s'.cells = s.cells
theorem Kept.refl (p : Prg) (s : PS) : Kept p s s := ⟨id, rfl, rfl, rfl, rfl, rfl⟩
theorem Kept.trans {p : Prg} {s s1 s2 : PS} (h : Kept p s s1) (k : Kept p s1 s2) : Kept p s s2 := ⟨fun hi => k.inv (h.inv hi), k.rev.trans h.rev, k.l0.trans h.l0, k.l1.trans h.l1, k.l2.trans h.l2, k.cells.trans h.cells⟩
theorem Kept.inp {p : Prg} {s s' : PS} (h : Kept p s s') (k : QK) : s'.inp k = s.inp k := by unfold PS.inp; rw [h.cells]
theorem Kept.last {p : Prg} {s s' : PS} (h : Kept p s s') (d : Int) : s'.last d = s.last d := by unfold PS.last; rw [h.l0, h.l1, h.l2]
section
variable {p : Prg} {U : PS → QK → Except Int Unit × PS} {n : Nat} {stp : PS → Bool}
theorem kept_beg (s : PS) (k : QK) : Kept p s (begP s k) :=
  ⟨fun h => ⟨h.es, fun k' v hv => by
    unfold begP at hv
    simp only [aget_ups] at hv
    split at hv
    · cases hv; rfl
    · exact h.act k' v hv, h.du⟩, rfl, rfl, rfl, rfl, rfl⟩
theorem kept_fin (s : PS) (k : QK) (hk : QryK p.qs.length k) : Kept p s (finP s k) := by
  refine ⟨fun h => ⟨fun k' r' hv => ?_, fun k' v hv => ?_, h.du⟩, rfl, rfl, rfl, rfl, rfl⟩
  · unfold finP at hv
    simp only [aget_ups] at hv
    split at hv
    · rename_i e
      subst e
      cases hv
      unfold PS.res
      cases hr : aget s.es k with
      | none => exact ⟨hk, by simp, by simp, by simp⟩
      | some r => exact h.es k r hr
    · exact h.es k' r' hv
  · unfold finP at hv
    simp only [aget_adel] at hv
    split at hv
    · cases hv
    · exact h.act k' v hv
theorem kept_chg (hU : ∀ s (q : Nat), q < n → InvW p s → Kept p s (U s (1, (q : Int), 0)).2) {q : Nat} (hq : q ≤ n) (s : PS) (hi : InvW p s) (k : QK) (hk : KeyIn p.inp q k) (rev : Int) : Kept p s (chgSince U s k rev).2 := by
  unfold chgSince
  split
  · exact Kept.refl p s
  · rename_i h0
    obtain ⟨a, b, c⟩ := k
    rcases hk with ⟨h, _⟩ | ⟨h1, h2, h3, h4⟩
    · exact absurd h h0
    · simp only at h1 h2 h3 h4
      subst h1 h4
      obtain ⟨j, rfl⟩ := Int.eq_ofNat_of_zero_le h2
      have := hU s j (by omega) hi
      rcases hu : U s (1, (j : Int), 0) with ⟨_ | _, s'⟩ <;> (rw [hu] at this; exact this)
theorem kept_any (hU : ∀ s (q : Nat), q < n → InvW p s → Kept p s (U s (1, (q : Int), 0)).2) {q : Nat} (hq : q ≤ n) (rev : Int) : ∀ (l : List QK) (s : PS), InvW p s → (∀ k ∈ l, KeyIn p.inp q k) → Kept p s (anyChg U rev l s).2 := by
  intro l
  induction l with
  | nil => intro s _ _; exact Kept.refl p s
  | cons k l ih =>
    intro s hi hl
    have h1 := kept_chg hU hq s hi k (hl k (by simp)) rev
    unfold anyChg
    rcases hc : chgSince U s k rev with ⟨_ | (_ | _), s'⟩
    · rw [hc] at h1; exact h1
    · rw [hc] at h1; exact h1.trans (ih s' (h1.inv hi) fun k hk => hl k (by simp [hk]))
    · rw [hc] at h1; exact h1
theorem kept_valid (hU : ∀ s (q : Nat), q < n → InvW p s → Kept p s (U s (1, (q : Int), 0)).2) {q : Nat} (hq : q ≤ n) (s : PS) (hi : InvW p s) (r : RV) (hr : ∀ k ∈ r.deps, KeyIn p.inp q k) : Kept p s (validP U s r).2 := by
  unfold validP
  split
  · exact Kept.refl p s
  · have h1 := kept_any hU hq r.ver r.deps s hi hr
    rcases hc : anyChg U r.ver r.deps s with ⟨_ | _, s'⟩ <;> (rw [hc] at h1; exact h1)
/-- a get under way -/
structure KeptG (p : Prg) (q : Nat) (s0 : PS) (σ : GS) : Prop where
  kept : Kept p s0 σ.1
  deps : ∀ d ∈ σ.2.1, KeyIn p.inp q d
  nd : σ.2.1.Nodup
  dur : InvW p s0 → 0 ≤ σ.2.2 ∧ σ.2.2 ≤ 2
theorem res_dur {s : PS} {k : QK} (h : InvW p s) : 0 ≤ (s.res k).dur ∧ (s.res k).dur ≤ 2 := by
  unfold PS.res
  cases hr : aget s.es k with
  | none => simp
  | some r => exact (h.es k r hr).2.1
theorem keptG_get (hU : ∀ s (q : Nat), q < n → InvW p s → Kept p s (U s (1, (q : Int), 0)).2) {q : Nat} (hq : q ≤ n) {s0 : PS} (hi0 : InvW p s0) (σ : GS) (k : QK) (h : KeptG p q s0 σ) (hk : KeyIn p.inp q k) : KeptG p q s0 (getP U σ k).2 := by
  have hadd : ∀ d ∈ addK σ.2.1 k, KeyIn p.inp q d := fun d hd => by
    rcases mem_addK_iff hd with h1 | rfl
    · exact h.deps d h1
    · exact hk
  unfold getP
  split
  · refine ⟨h.kept, hadd, addK_nodup h.nd k, fun hi => ?_⟩
    have h1 := h.dur hi
    have h2 := (h.kept.inv hi).du k
    simp only
    omega
  · rename_i h0
    obtain ⟨a, b, c⟩ := k
    rcases hk with ⟨h1, _⟩ | ⟨h1, h2, h3, h4⟩
    · exact absurd h1 h0
    · simp only at h1 h2 h3 h4
      subst h1 h4
      obtain ⟨j, rfl⟩ := Int.eq_ofNat_of_zero_le h2
      have hk := hU σ.1 j (by omega) (h.kept.inv hi0)
      rcases hu : U σ.1 (1, (j : Int), 0) with ⟨_ | _, s'⟩
      · rw [hu] at hk
        exact ⟨h.kept.trans hk, h.deps, h.nd, h.dur⟩
      · rw [hu] at hk
        refine ⟨h.kept.trans hk, hadd, addK_nodup h.nd _, fun hi => ?_⟩
        have h1 := h.dur hi
        have h2 := res_dur (k := (1, (j : Int), 0)) ((h.kept.trans hk).inv hi)
        simp only at h1 h2 ⊢
        omega
theorem keptG_comp (hp : PrgOk p) (hU : ∀ s (q : Nat), q < n → InvW p s → Kept p s (U s (1, (q : Int), 0)).2) {q : Nat} (hq : q ≤ n) (hqs : q < p.qs.length) (s : PS) (hi : InvW p s) : KeptG p q s (compQ p.qs (1, (q : Int), 0) (getP U) (s, [], 2)).2 :=
  compQ_keeps hp hqs (fun σ k h hk => keptG_get hU hq hi σ k h hk) ⟨Kept.refl p s, by simp, by simp, fun _ => by simp⟩
theorem kept_re (hp : PrgOk p) (hU : ∀ s (q : Nat), q < n → InvW p s → Kept p s (U s (1, (q : Int), 0)).2) {q : Nat} (hq : q ≤ n) (hqs : q < p.qs.length) (s : PS) (hi : InvW p s) : Kept p s (recompP U (compQ p.qs) stp s (1, (q : Int), 0)).2 := by
  unfold recompP
  split
  · exact Kept.refl p s
  · have h := keptG_comp hp hU hq hqs s hi
    rcases hc : compQ p.qs (1, (q : Int), 0) (getP U) (s, [], 2) with ⟨_ | xs, s', deps, dur⟩
    · rw [hc] at h; exact h.kept
    · rw [hc] at h
      refine ⟨fun hi => ?_, h.kept.rev, h.kept.l0, h.kept.l1, h.kept.l2, h.kept.cells⟩
      have h1 := h.kept.inv hi
      refine ⟨fun k r hr => ?_, h1.act, h1.du⟩
      simp only [aget_ups] at hr
      split at hr
      · rename_i e
        subst e
        cases hr
        exact ⟨⟨rfl, by simp, by simp only; omega, rfl⟩, h.dur hi, h.deps, h.nd⟩
      · exact h1.es k r hr
theorem re_leaves {s s' : PS} {k : QK} {C : QK → (GS → QK → Except Int (List Int) × GS) → GS → Except Int (List Int) × GS} {u : Unit} (h : recompP U C stp s k = (.ok u, s')) : (aget s'.es k).isSome := by
  unfold recompP at h
  split at h
  · cases h
  · split at h
    · simp only [Prod.mk.injEq] at h
      rw [← h.2]
      simp [aget_ups]
    · cases h
theorem kept_then {s : PS} {k : QK} (hk : QryK p.qs.length k) (x : Except Int Unit × PS) (h : Kept p s x.2) : Kept p s (thenFin k x).2 := by
  rcases x with ⟨_ | _, s'⟩
  · exact h
  · exact h.trans (kept_fin _ _ hk)
theorem kept_upd (hp : PrgOk p) (hU : ∀ s (q : Nat), q < n → InvW p s → Kept p s (U s (1, (q : Int), 0)).2) {q : Nat} (hq : q ≤ n) (hqs : q < p.qs.length) (s : PS) (hi : InvW p s) : Kept p s (updP U (compQ p.qs) stp s (1, (q : Int), 0)).2 := by
  have hk : QryK p.qs.length (1, (q : Int), 0) := ⟨rfl, by simp, by simp only; omega, rfl⟩
  have hb := kept_beg (p := p) s (1, (q : Int), 0)
  by_cases h0 : s.busy (1, (q : Int), 0) = 0
  · cases hr : aget s.es (1, (q : Int), 0) with
    | none =>
      rw [updP_none h0 hr]
      exact kept_then hk _ (hb.trans (kept_re hp hU hq hqs _ (hb.inv hi)))
    | some r =>
      have hv := kept_valid hU hq (begP s (1, (q : Int), 0)) (hb.inv hi) r (hi.es _ r hr).2.2.1
      rcases hval : validP U (begP s (1, (q : Int), 0)) r with ⟨x | t, s2⟩
      · rw [hval] at hv
        rw [updP_err h0 hr hval]
        exact hb.trans hv
      · rw [hval] at hv
        cases t with
        | true =>
          rw [updP_yes h0 hr hval]
          exact (hb.trans hv).trans (kept_fin _ _ hk)
        | false =>
          rw [updP_no h0 hr hval]
          exact kept_then hk _ ((hb.trans hv).trans (kept_re hp hU hq hqs _ ((hb.trans hv).inv hi)))
  · rw [updP_busy h0]
    exact Kept.refl p s
end
/-- an update of a query below n -/
def UQ (qs : List (List QO)) (stp : PS → Bool) : Nat → PS → QK → Except Int Unit × PS
  | 0 => fun s _ => (.ok (), s)
  | n + 1 => updP (UQ qs stp n) (compQ qs) stp
theorem kept_UQ {p : Prg} (hp : PrgOk p) (stp : PS → Bool) : ∀ n, n ≤ p.qs.length → ∀ s (q : Nat), q < n → InvW p s → Kept p s (UQ p.qs stp n s (1, (q : Int), 0)).2 := by
  intro n
  induction n with
  | zero => intro _ s q hq; omega
  | succ n ih =>
    intro hn s q hq hi
    exact kept_upd hp (ih (by omega)) (by omega) (by omega) s hi
/-! ### in memory -/
/-- the keys that update may be asked for -/
def KQ (p : Prg) (n : Nat) (s : PS) (k : QK) : Prop := QryK n k ∧ InvW p s
theorem qryKok {N : Nat} {k : QK} (h : QryK N k) (hN : N ≤ 40) : Inp.QKok k := by
  obtain ⟨h1, h2, h3, h4⟩ := h
  refine ⟨?_, ?_, ?_⟩ <;> (unfold Inp.In64; omega)
theorem keyInOk {inp idx : Int} {k : QK} (h : KeyIn inp idx k) (hi : inp ≤ 40) (hx : idx ≤ 40) : Inp.QKok k := by
  rcases h with ⟨h1, h2, h3, h4⟩ | ⟨h1, h2, h3, h4⟩ <;> (refine ⟨?_, ?_, ?_⟩ <;> (unfold Inp.In64; omega))
theorem comp_fam {p : Prg} (hp : PrgOk p) {w0 : World} {RO : Nat → Prop} {bv bq : Nat} {qv : Value} (hm : CompMem RO bv bq qv p.qs w0) : CFam w0 RO 55 #[.pointer (some ⟨bv, 0, none⟩), .pointer (some ⟨bq, 0, none⟩)] (compQ p.qs) chI (QryK p.qs.length) (fun key => KeyIn p.inp key.2.1) where
  enter := enterC
  call := by
    rintro fn gcaps I RO' G F s w ⟨k1, k2, k3⟩ fam ⟨h1, h2, h3, h4⟩ hI hRO hsame
    simp only at h1 h2 h3 h4 fam
    subst h1 h4
    obtain ⟨q, rfl⟩ := Int.eq_ofNat_of_zero_le h2
    exact compile1_any (hm.same hsame) hp (by omega) fam hI hRO
theorem upd_fam {p : Prg} (hp : PrgOk p) {w0 : World} {RO : Nat → Prop} {b : Nat} {cf : Nat} {ccaps : Array Value} {stop : Value} {stp : PS → Bool} {n : Nat} (hn : n < p.qs.length) (cfam : CFam w0 RO cf ccaps (compQ p.qs) chI (QryK p.qs.length) (fun key => KeyIn p.inp key.2.1))
    (hst : stop = .nilFunc ∧ stp = (fun _ => false) ∨ ∃ sf sfirst scaps, stop = .func (.func sf) sfirst scaps ∧ SFam w0 RO b sf sfirst scaps stp)
    (fam : UFam w0 RO b (.func (.func cf) #[] ccaps) stop (KQ p n) (UQ p.qs stp n) chI) : UFam w0 RO b (.func (.func cf) #[] ccaps) stop (KQ p (n + 1)) (UQ p.qs stp (n + 1)) chI where
  kind := fun s k hk => ⟨by rw [hk.1.1]; decide, qryKok hk.1 (by have := hp.size; omega)⟩
  keep := by
    rintro s ⟨k1, k2, k3⟩ k' ⟨⟨h1, h2, h3, h4⟩, hi⟩ hk'
    simp only at h1 h2 h3 h4
    subst h1 h4
    obtain ⟨q, rfl⟩ := Int.eq_ofNat_of_zero_le h2
    exact ⟨hk'.1, (kept_UQ hp stp (n + 1) (by omega) s q (by omega) hi).inv hi⟩
  call := by
    rintro w d ⟨k1, k2, k3⟩ henv hc hs ⟨⟨h1, h2, h3, h4⟩, hi⟩
    simp only at h1 h2 h3 h4
    subst h1 h4
    obtain ⟨q, rfl⟩ := Int.eq_ofNat_of_zero_le h2
    have hqn : q ≤ n := by omega
    have hN := hp.size
    have hinp := hp.inp
    have hkq : QryK p.qs.length (1, (q : Int), 0) := ⟨rfl, by simp, by simp only; omega, rfl⟩
    have hkey := qryKok hkq (by omega)
    have hdep : ∀ s, InvW p s → ∀ k, KeyIn p.inp (q : Int) k → Inp.QKok k ∧ (k.1 ≠ 0 → KQ p n s k) := fun s hs k hk => ⟨keyInOk hk (by omega) (by omega), fun h0 => by
      rcases hk with ⟨h, _⟩ | ⟨a1, a2, a3, a4⟩
      · exact absurd h h0
      · exact ⟨⟨a1, a2, by omega, a4⟩, hs⟩⟩
    have fin : ∀ l : List QK, l.Nodup → (∀ k ∈ l, KeyIn p.inp (q : Int) k) → l.length ≤ 1000 := fun l hl hk => by
      have := keys_few (inp := p.inp) (L := q) (by omega) (by omega) hl hk
      omega
    have hb := (kept_beg (p := p) d.pl (1, (q : Int), 0)).inv hi
    refine update_any (Kk := KeyIn p.inp (q : Int)) (K := KQ p n) (U := UQ p.qs stp n) (C := compQ p.qs) (stp := stp) fam (1, (q : Int), 0) hkey ?_ w d henv hc hs ?_ (hdep _ hb) ?_ ?_
    · intro w d v henv hc hs hact hks
      rcases hst with ⟨rfl, rfl⟩ | ⟨sf, sfirst, scaps, rfl, sfam⟩
      · exact recompute_nil fam cfam (1, (q : Int), 0) v hkq hkey fin w d henv hc hs hact hks
      · exact recompute_fn fam sfam cfam (1, (q : Int), 0) v hkq hkey fin w d henv hc hs hact hks
    · intro h0
      unfold PS.busy at h0
      cases ha : aget d.act (1, (q : Int), 0) with
      | none => rfl
      | some v =>
        have := hi.act _ v ha
        rw [show aget d.pl.act (1, (q : Int), 0) = some v from ha] at h0
        subst this
        simp at h0
    · intro r hr
      have h := hi.es (1, (q : Int), 0) r.pl (by rw [Dm.aget_pl, hr]; rfl)
      exact ⟨⟨h.2.1.1, by have := h.2.1.2; unfold Rs.pl at this; simp only at this; omega⟩, fun k hk => hdep _ hb k (h.2.2.1 k hk)⟩
    · intro r s2 hr hv k hk
      have h := hi.es (1, (q : Int), 0) r.pl (by rw [Dm.aget_pl, hr]; rfl)
      have hkv := kept_valid (kept_UQ hp stp n (by omega)) hqn _ hb r.pl h.2.2.1
      rw [hv] at hkv
      exact hdep _ (hkv.inv hb) k hk
end Go.Proofs.Ytdeodcomlakpaaa
