/- What the steps of an evaluation keep (plain): results above; the revision of a change, where the value is the same. -/
import Derived.Test.YtdeodcomlakpaaaNba
namespace Go.Proofs.Ytdeodcomlakpaaa
open Go.RowKit
set_option linter.unusedVariables false
set_option linter.unusedSimpArgs false
theorem SeqR.pres {R : Bool → PS → Nat → PS → Prop} {P : PS → PS → Prop} (h0 : ∀ s, P s s) (ht : ∀ {a b c}, P a b → P b c → P a c) (hR : ∀ b s q s', R b s q s' → P s s') {b : Bool} {s s' : PS} {l : List QK} (h : SeqR R b s l s') : P s s' := by
  induction h with
  | nil => exact h0 _
  | inp _ _ ih => exact ih
  | qry hr _ ih => exact ht (hR _ _ _ _ hr) ih
  | halt hr => exact hR _ _ _ _ hr
theorem qk_inj {q q' : Nat} : qk q = qk q' ↔ q = q' := key_inj
/-! ### what a step leaves alone -/
structure Abv (m : Nat) (s s' : PS) : Prop where
  rev : s'.rev = s.rev
  last : ∀ d, s'.last d = s.last d
  inp : ∀ k, s'.inp k = s.inp k
  es : ∀ k, (∀ q, q < m → k ≠ qk q) → aget s'.es k = aget s.es k
  here : ∀ k, (aget s.es k).isSome → (aget s'.es k).isSome
theorem Abv.refl (m : Nat) (s : PS) : Abv m s s := ⟨rfl, fun _ => rfl, fun _ => rfl, fun _ _ => rfl, fun _ h => h⟩
theorem Abv.trans {m : Nat} {s s1 s2 : PS} (h : Abv m s s1) (k : Abv m s1 s2) : Abv m s s2 :=
  ⟨k.rev.trans h.rev, fun d => (k.last d).trans (h.last d), fun x => (k.inp x).trans (h.inp x), fun x hx => (k.es x hx).trans (h.es x hx), fun x hx => k.here x (h.here x hx)⟩
theorem Abv.mono {m m' : Nat} {s s1 : PS} (h : Abv m s s1) (hm : m ≤ m') : Abv m' s s1 := ⟨h.rev, h.last, h.inp, fun x hx => h.es x fun q hq => hx q (by omega), h.here⟩
theorem abv_beg (m : Nat) (s : PS) (k : QK) : Abv m s (begP s k) := ⟨rfl, fun _ => rfl, fun _ => rfl, fun _ _ => rfl, fun _ h => h⟩
theorem abv_fin (s : PS) (q : Nat) : Abv (q + 1) s (finP s (qk q)) := by
  refine ⟨rfl, fun _ => rfl, fun _ => rfl, fun k hk => ?_, fun k hk => ?_⟩
  · show aget (ups s.es (qk q) _) k = _
    rw [aget_ups, if_neg (Ne.symm (hk q (by omega)))]
  · show (aget (ups s.es (qk q) _) k).isSome
    rw [aget_ups]
    split
    · rfl
    · exact hk
theorem abv_put (s : PS) (q : Nat) (rev : Int) (xs : List Int) (deps : List QK) : Abv (q + 1) s (putP s q rev xs deps) := by
  refine ⟨rfl, fun _ => rfl, fun _ => rfl, fun k hk => ?_, fun k hk => ?_⟩
  · show aget (ups s.es (qk q) _) k = _
    rw [aget_ups, if_neg (Ne.symm (hk q (by omega)))]
  · show (aget (ups s.es (qk q) _) k).isSome
    rw [aget_ups]
    split
    · rfl
    · exact hk
variable {p : Prg} {ins : List Int}
theorem bad_pres {R : Bool → PS → Nat → PS → Prop} {P : PS → PS → Prop} (h0 : ∀ s, P s s) (ht : ∀ {a b c}, P a b → P b c → P a c) {q : Nat} (hR : ∀ b s q' s', q' < q → R b s q' s' → P s s') (hb : ∀ s, P s (begP s (qk q))) {s s2 : PS} (h : Bad R s q s2) : P s s2 := by
  rcases h with ⟨_, rfl⟩ | ⟨r, l1, d, l2, _, _, _, hs, _, _⟩
  · exact hb s
  · exact ht (hb s) (SeqR.pres h0 ht (fun b s q' s' h => hR b s q' s' h.1 h.2) hs)
theorem upd_abv : ∀ (n : Nat) (b : Bool) (s : PS) (q : Nat) (s' : PS), UpdR p ins n b s q s' → Abv (q + 1) s s' := by
  intro n
  induction n with
  | zero => intro b s q s' h; exact h.elim
  | succ n ih =>
    intro b s q s' h
    have hR : ∀ b s q' s', q' < q → UpdR p ins n b s q' s' → Abv q s s' := fun b s q' s' hq h => (ih b s q' s' h).mono (by omega)
    have hseq : ∀ {b s l s'}, SeqR (Rlt (UpdR p ins n) q) b s l s' → Abv q s s' := fun h => SeqR.pres (Abv.refl q) Abv.trans (fun b s q' s' h => hR b s q' s' h.1 h.2) h
    have hbad : ∀ {s s2}, Bad (UpdR p ins n) s q s2 → Abv q s s2 := fun h => bad_pres (Abv.refl q) Abv.trans hR (fun s => abv_beg q s _) h
    cases h with
    | skip h1 h2 => exact (abv_beg _ s _).trans (abv_fin _ q)
    | check h1 h2 h3 h4 => exact (((abv_beg q s _).trans (hseq h3)).mono (by omega)).trans (abv_fin _ q)
    | half h1 h2 h3 h4 h5 => exact ((abv_beg q s _).trans (hseq h4)).mono (by omega)
    | redo h1 h2 h3 => exact ((((hbad h1).trans (hseq h2)).mono (by omega)).trans (abv_put _ q _ _ _)).trans (abv_fin _ q)
    | stop h1 => exact (hbad h1).mono (by omega)
    | rhalf h1 h2 h3 => exact ((hbad h1).trans (hseq h2)).mono (by omega)
theorem seq_abv {n q : Nat} {b : Bool} {s s' : PS} {l : List QK} (h : SeqR (Rlt (UpdR p ins n) q) b s l s') : Abv q s s' :=
  SeqR.pres (Abv.refl q) Abv.trans (fun b s q' s' h => (upd_abv n b s q' s' h.2).mono (by have := h.1; omega)) h
theorem bad_abv {n q : Nat} {s s' : PS} (h : Bad (UpdR p ins n) s q s') : Abv q s s' :=
  bad_pres (Abv.refl q) Abv.trans (fun b s q' s' hq h => (upd_abv n b s q' s' h).mono (by omega)) (fun s => abv_beg q s _) h
/-! ### no change is noted where the value is the same -/
structure D0 (s : PS) : Prop where
  l1 : s.l1 = 0
  l2 : s.l2 = 0
  rev : 0 ≤ s.rev
  inp : ∀ k, 0 ≤ (s.inp k).du
  es : ∀ k r, aget s.es k = some r → 0 ≤ r.ver ∧ 0 ≤ r.dur
theorem D0.res {s : PS} (h : D0 s) (k : QK) : 0 ≤ (s.res k).ver ∧ 0 ≤ (s.res k).dur := by
  unfold PS.res
  cases hk : aget s.es k with
  | none => exact ⟨Int.le_refl _, Int.le_refl _⟩
  | some r => exact h.es k r hk
theorem D0.durOf {s : PS} (h : D0 s) (ks : List QK) : 0 ≤ durOf s ks := by
  unfold Go.Proofs.Ytdeodcomlakpaaa.durOf
  have : ∀ (ks : List QK) (d : Int), 0 ≤ d → 0 ≤ ks.foldl (fun d k => min d (keyDur s k)) d := by
    intro ks
    induction ks with
    | nil => intro d hd; exact hd
    | cons k r ih =>
      intro d hd
      refine ih _ ?_
      have : 0 ≤ keyDur s k := by
        unfold keyDur
        split
        · exact h.inp k
        · exact (h.res k).2
      show 0 ≤ min d (keyDur s k)
      omega
  exact this ks 2 (by omega)
structure KeepC (p : Prg) (ins : List Int) (s s' : PS) : Prop where
  d : D0 s → D0 s'
  c : D0 s → ∀ q r, aget s.es (qk q) = some r → r.xs = [val p ins q] → ∃ r', aget s'.es (qk q) = some r' ∧ r'.chg = r.chg ∧ r'.xs = r.xs
theorem KeepC.refl (s : PS) : KeepC p ins s s := ⟨id, fun _ q r hr _ => ⟨r, hr, rfl, rfl⟩⟩
theorem KeepC.trans {s s1 s2 : PS} (h : KeepC p ins s s1) (k : KeepC p ins s1 s2) : KeepC p ins s s2 := by
  refine ⟨fun hd => k.d (h.d hd), fun hd q r hr hx => ?_⟩
  obtain ⟨r1, a1, a2, a3⟩ := h.c hd q r hr hx
  obtain ⟨r2, b1, b2, b3⟩ := k.c (h.d hd) q r1 a1 (a3.trans hx)
  exact ⟨r2, b1, b2.trans a2, b3.trans a3⟩
theorem keepC_beg (s : PS) (k : QK) : KeepC p ins s (begP s k) := ⟨fun h => ⟨h.l1, h.l2, h.rev, h.inp, h.es⟩, fun _ q r hr _ => ⟨r, hr, rfl, rfl⟩⟩
theorem keepC_fin (s : PS) (k : QK) : KeepC p ins s (finP s k) := by
  refine ⟨fun h => ⟨h.l1, h.l2, h.rev, h.inp, fun k' r' hr' => ?_⟩, fun h q r hr hx => ?_⟩
  · have hr2 : aget (ups s.es k _) k' = some r' := hr'
    rw [aget_ups] at hr2
    split at hr2
    · cases hr2
      exact ⟨h.rev, (h.res k).2⟩
    · exact h.es k' r' hr2
  · by_cases e : k = qk q
    · subst e
      refine ⟨_, (aget_ups _ _ _ _).trans (if_pos rfl), ?_⟩
      rw [res_get hr]
      exact ⟨rfl, rfl⟩
    · exact ⟨r, ((aget_ups _ _ _ _).trans (if_neg e)).trans hr, rfl, rfl⟩
theorem keepC_upd : ∀ (n : Nat) (b : Bool) (s : PS) (q : Nat) (s' : PS), UpdR p ins n b s q s' → KeepC p ins s s' := by
  intro n
  induction n with
  | zero => intro b s q s' h; exact h.elim
  | succ n ih =>
    intro b s q s' h
    have hseq : ∀ {b s l s'}, SeqR (Rlt (UpdR p ins n) q) b s l s' → KeepC p ins s s' := fun h => SeqR.pres KeepC.refl KeepC.trans (fun b s q' s' h => ih b s q' s' h.2) h
    have hbad : ∀ {s s2}, Bad (UpdR p ins n) s q s2 → KeepC p ins s s2 := fun h => bad_pres KeepC.refl KeepC.trans (fun b s q' s' _ h => ih b s q' s' h) (fun s => keepC_beg s _) h
    cases h with
    | skip h1 h2 => exact (keepC_beg s _).trans (keepC_fin _ _)
    | check h1 h2 h3 h4 => exact ((keepC_beg s _).trans (hseq h3)).trans (keepC_fin _ _)
    | half h1 h2 h3 h4 h5 => exact (keepC_beg s _).trans (hseq h4)
    | stop h1 => exact hbad h1
    | rhalf h1 h2 h3 => exact (hbad h1).trans (hseq h2)
    | @redo _ _ s2 ks s3 h1 h2 h3 =>
      refine KeepC.trans ?_ (keepC_fin _ _)
      have h12 := (hbad h1).trans (hseq h2)
      have habv := (bad_abv h1).trans (seq_abv h2)
      refine ⟨fun hd => ?_, fun hd q' r hr hx => ?_⟩
      · have hd3 := h12.d hd
        refine ⟨hd3.l1, hd3.l2, hd3.rev, hd3.inp, fun k' r' hr' => ?_⟩
        have hr2 : aget (ups s3.es (qk q) _) k' = some r' := hr'
        rw [aget_ups] at hr2
        split at hr2
        · cases hr2
          exact ⟨hd.rev, hd3.durOf _⟩
        · exact hd3.es k' r' hr2
      · have hd3 := h12.d hd
        by_cases e : q = q'
        · subst e
          refine ⟨_, (aget_ups _ _ _ _).trans (if_pos rfl), ?_, ?_⟩
          · have h3' : aget s3.es (qk q) = some r := (habv.es _ fun q' hq' e => by have := qk_inj.1 e; omega).trans hr
            have hdur : r.dur = 0 := by
              rcases h1 with ⟨hn, _⟩ | ⟨r0, l1, d, l2, hr0, hv, _⟩
              · rw [hr] at hn; cases hn
              · rw [hr] at hr0
                cases hr0
                have hrd := hd.es _ r hr
                have : ¬ s.last r.dur ≤ r.ver := fun h => hv (Or.inr h)
                unfold PS.last at this
                by_cases e0 : r.dur = 0
                · exact e0
                · rw [if_neg e0, hd.l1, hd.l2] at this
                  split at this <;> omega
            show (newRes s3 (qk q) s.rev _ _ _).chg = _
            unfold newRes
            rw [h3']
            simp only
            rw [if_pos ⟨by rw [hdur]; exact hd3.durOf _, hx⟩]
          · exact hx.symm
        · obtain ⟨r', a1, a2, a3⟩ := h12.c hd q' r hr hx
          exact ⟨r', ((aget_ups _ _ _ _).trans (if_neg fun h => e (qk_inj.1 h))).trans a1, a2, a3⟩
/-! ### results that are up to date -/
structure Same (s s' : PS) : Prop where
  cnt : s'.cnt = s.cnt
  rev : s'.rev = s.rev
  inp : ∀ k, s'.inp k = s.inp k
  es : ∀ k r, aget s.es k = some r → ∃ r', aget s'.es k = some r' ∧ r'.chg = r.chg ∧ r'.xs = r.xs ∧ r'.dur = r.dur ∧ r'.deps = r.deps ∧ (r.ver = s.rev → r'.ver = s.rev)
theorem Same.refl (s : PS) : Same s s := ⟨rfl, rfl, fun _ => rfl, fun _ r h => ⟨r, h, rfl, rfl, rfl, rfl, id⟩⟩
theorem Same.trans {s s1 s2 : PS} (h : Same s s1) (k : Same s1 s2) : Same s s2 := by
  refine ⟨k.cnt.trans h.cnt, k.rev.trans h.rev, fun x => (k.inp x).trans (h.inp x), fun x r hr => ?_⟩
  obtain ⟨r1, a1, a2, a3, a4, a5, a6⟩ := h.es x r hr
  obtain ⟨r2, b1, b2, b3, b4, b5, b6⟩ := k.es x r1 a1
  exact ⟨r2, b1, b2.trans a2, b3.trans a3, b4.trans a4, b5.trans a5, fun hv => (b6 ((a6 hv).trans h.rev.symm)).trans h.rev⟩
theorem same_beg (s : PS) (k : QK) : Same s (begP s k) := ⟨rfl, rfl, fun _ => rfl, fun _ r h => ⟨r, h, rfl, rfl, rfl, rfl, id⟩⟩
theorem same_fin {s : PS} {k : QK} {r : RV} (hr : aget s.es k = some r) : Same s (finP s k) := by
  refine ⟨rfl, rfl, fun _ => rfl, fun x r' hx => ?_⟩
  by_cases e : k = x
  · subst e
    rw [hr] at hx
    cases hx
    refine ⟨_, (aget_ups _ _ _ _).trans (if_pos rfl), ?_⟩
    rw [res_get hr]
    exact ⟨rfl, rfl, rfl, rfl, fun _ => rfl⟩
  · exact ⟨r', ((aget_ups _ _ _ _).trans (if_neg e)).trans hx, rfl, rfl, rfl, rfl, id⟩
/-- an update of a query that is up to date -/
theorem fresh_upd {n : Nat} {s : PS} {q : Nat} {s' : PS} (h : UpdR p ins n true s q s') {r : RV} (hr : aget s.es (qk q) = some r) (hv : r.ver = s.rev) : Same s s' := by
  cases n with
  | zero => exact h.elim
  | succ n =>
    cases h with
    | skip h1 h2 => exact (same_beg s _).trans (same_fin hr)
    | check h1 h2 h3 h4 =>
      rw [hr] at h1
      cases h1
      exact absurd (Or.inl hv) h2
    | redo h1 h2 h3 =>
      rcases h1 with ⟨hn, _⟩ | ⟨r0, l1, d, l2, hr0, hb, _⟩
      · rw [hr] at hn; cases hn
      · rw [hr] at hr0
        cases hr0
        exact absurd (Or.inl hv) hb
theorem fresh_seq {n q : Nat} {b : Bool} {s s' : PS} {l : List QK} (h : SeqR (Rlt (UpdR p ins n) q) b s l s') (hb : b = true) (hl : ∀ q', qk q' ∈ l → ∃ r, aget s.es (qk q') = some r ∧ r.ver = s.rev) : Same s s' := by
  induction h with
  | nil => exact Same.refl _
  | inp _ _ ih => exact ih hb fun q' hq' => hl q' (by simp [hq'])
  | @qry b s q0 s1 l s' hr _ ih =>
    obtain ⟨r, a1, a2⟩ := hl q0 List.mem_cons_self
    have h1 := fresh_upd hr.2 a1 a2
    refine h1.trans (ih hb fun q' hq' => ?_)
    obtain ⟨r2, b1, b2⟩ := hl q' (by simp [hq'])
    obtain ⟨r3, c1, _, _, _, _, c2⟩ := h1.es _ r2 b1
    exact ⟨r3, c1, (c2 b2).trans h1.rev.symm⟩
  | halt _ => cases hb
/-- an update of a query whose dependencies are up to date and have not changed -/
theorem quiet_upd {n : Nat} {s : PS} {q : Nat} {s' : PS} (h : UpdR p ins n true s q s') {r : RV} (hr : aget s.es (qk q) = some r) (hd : ∀ k ∈ r.deps, keyChg s k ≤ r.ver) (hf : ∀ k ∈ r.deps, k.1 = 0 ∨ ∃ q' : Nat, k = qk q') (hu : ∀ q', qk q' ∈ r.deps → ∃ r', aget s.es (qk q') = some r' ∧ r'.ver = s.rev) :
    s'.cnt = s.cnt ∧ ∃ r', aget s'.es (qk q) = some r' ∧ r'.chg = r.chg := by
  cases n with
  | zero => exact h.elim
  | succ n =>
    have hkc : ∀ {s2 : PS} {k : QK}, Same (begP s (qk q)) s2 → k ∈ r.deps → keyChg s2 k = keyChg s k := fun {s2 k} hs hk => by
      unfold keyChg
      rcases hf k hk with h0 | ⟨q', rfl⟩
      · rw [if_pos h0, if_pos h0, hs.inp]; rfl
      · obtain ⟨r', a1, a2⟩ := hu q' hk
        obtain ⟨r2, b1, b2, _⟩ := hs.es (qk q') r' a1
        rw [if_neg (by simp), if_neg (by simp), res_get b1, res_get a1, b2]
    cases h with
    | skip h1 h2 =>
      have h3 := (same_beg s (qk q)).trans (same_fin (s := begP s (qk q)) hr)
      obtain ⟨r', a1, a2, _⟩ := h3.es _ r hr
      exact ⟨h3.cnt, r', a1, a2⟩
    | @check _ _ r0 s2 h1 h2 h3 h4 =>
      rw [hr] at h1
      cases h1
      have e1 := fresh_seq h3 rfl (fun q' hq' => hu q' hq')
      obtain ⟨r2, b1, b2, _⟩ := e1.es (qk q) r hr
      have e2 := e1.trans (same_fin b1)
      obtain ⟨r', a1, a2, _⟩ := e2.es _ r hr
      exact ⟨e2.cnt, r', a1, a2⟩
    | redo h1 h2 h3 =>
      rcases h1 with ⟨hn, _⟩ | ⟨r0, l1, d, l2, hr0, hb, hl, hs, _, hlt⟩
      · rw [hr] at hn; cases hn
      · rw [hr] at hr0
        cases hr0
        have hsub : ∀ x ∈ l1 ++ [d], x ∈ r.deps := fun x hx => by
          rw [hl]
          rcases List.mem_append.1 hx with hx | hx
          · exact List.mem_append_left _ hx
          · simp only [List.mem_singleton] at hx
            subst hx
            exact List.mem_append_right _ (by simp)
        have hdm : d ∈ r.deps := hsub d (by simp)
        have e1 := fresh_seq hs rfl (fun q' hq' => hu q' (hsub _ hq'))
        have := hkc e1 hdm
        have := hd d hdm
        omega
/-! ### the first evaluation: everything is up to date, the keys read are cached -/
def AllUp (s : PS) : Prop := ∀ k r, aget s.es k = some r → r.ver = s.rev
theorem allUp_upd : ∀ (n : Nat) (b : Bool) (s : PS) (q : Nat) (s' : PS), UpdR p ins n b s q s' → s'.rev = s.rev ∧ (AllUp s → AllUp s') := by
  intro n
  induction n with
  | zero => intro b s q s' h; exact h.elim
  | succ n ih =>
    intro b s q s' h
    let P : PS → PS → Prop := fun s s' => s'.rev = s.rev ∧ (AllUp s → AllUp s')
    have h0 : ∀ s, P s s := fun s => ⟨rfl, id⟩
    have ht : ∀ {a b c}, P a b → P b c → P a c := fun h k => ⟨k.1.trans h.1, fun ha => k.2 (h.2 ha)⟩
    have hb : ∀ s k, P s (begP s k) := fun s k => ⟨rfl, id⟩
    have hf : ∀ s k, P s (finP s k) := fun s k => ⟨rfl, fun ha k' r hr => by
      have hr2 : aget (ups s.es k _) k' = some r := hr
      rw [aget_ups] at hr2
      split at hr2
      · cases hr2; rfl
      · exact ha k' r hr2⟩
    have hseq : ∀ {b s l s'}, SeqR (Rlt (UpdR p ins n) q) b s l s' → P s s' := fun h => SeqR.pres h0 ht (fun b s q' s' h => ih b s q' s' h.2) h
    have hbad : ∀ {s s2}, Bad (UpdR p ins n) s q s2 → P s s2 := fun h => bad_pres h0 ht (fun b s q' s' _ h => ih b s q' s' h) (fun s => hb s _) h
    cases h with
    | skip h1 h2 => exact ht (hb s _) (hf _ _)
    | check h1 h2 h3 h4 => exact ht (ht (hb s _) (hseq h3)) (hf _ _)
    | half h1 h2 h3 h4 h5 => exact ht (hb s _) (hseq h4)
    | stop h1 => exact hbad h1
    | rhalf h1 h2 h3 => exact ht (hbad h1) (hseq h2)
    | @redo _ _ s2 ks s3 h1 h2 h3 =>
      have h12 := ht (hbad h1) (hseq h2)
      have hput : P s3 (putP s3 q s.rev [val p ins q] (reads p ins q)) := ⟨rfl, fun ha k' r hr => by
        have hr2 : aget (ups s3.es (qk q) _) k' = some r := hr
        rw [aget_ups] at hr2
        split at hr2
        · cases hr2; exact h12.1.symm
        · exact ha k' r hr2⟩
      exact ht (ht h12 hput) (hf _ _)
theorem upd_cached {n : Nat} {s : PS} {q : Nat} {s' : PS} (h : UpdR p ins n true s q s') : (aget s'.es (qk q)).isSome := by
  have hf : ∀ s : PS, (aget (finP s (qk q)).es (qk q)).isSome := fun s => by
    show (aget (ups s.es (qk q) _) (qk q)).isSome
    rw [aget_ups, if_pos rfl]; rfl
  cases n with
  | zero => exact h.elim
  | succ n => cases h <;> exact hf _
theorem seq_cached {n q : Nat} {b : Bool} {s s' : PS} {l : List QK} (h : SeqR (Rlt (UpdR p ins n) q) b s l s') (hb : b = true) : ∀ q', qk q' ∈ l → (aget s'.es (qk q')).isSome := by
  induction h with
  | nil => intro q' h; simp at h
  | @inp b s k l s' h0 _ ih =>
    intro q' hq'
    rcases List.mem_cons.1 hq' with e | hq'
    · rw [← e] at h0; simp at h0
    · exact ih hb q' hq'
  | @qry b s q0 s1 l s' hr hs ih =>
    intro q' hq'
    rcases List.mem_cons.1 hq' with e | hq'
    · have e' := qk_inj.1 e
      subst e'
      exact (seq_abv hs).here _ (upd_cached hr.2)
    · exact ih hb q' hq'
  | halt _ => cases hb
theorem first_upd {n : Nat} {s : PS} {q : Nat} {s' : PS} (h : UpdR p ins n true s q s') (hn : aget s.es (qk q) = none) : ∀ q', qk q' ∈ reads p ins q → (aget s'.es (qk q')).isSome := by
  cases n with
  | zero => exact h.elim
  | succ n =>
    cases h with
    | skip h1 h2 => rw [hn] at h1; cases h1
    | check h1 h2 h3 h4 => rw [hn] at h1; cases h1
    | @redo _ _ s2 ks s3 h1 h2 h3 =>
      intro q' hq'
      exact (abv_fin _ q).here _ ((abv_put _ q _ _ _).here _ (seq_cached h2 rfl q' ((h3 _).2 hq')))
end Go.Proofs.Ytdeodcomlakpaaa
