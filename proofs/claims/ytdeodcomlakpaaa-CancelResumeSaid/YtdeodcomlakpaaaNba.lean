/- What an evaluation does, as steps (plain): which keys are asked, in which order, and what comes of it. -/
import Derived.Test.YtdeodcomlakpaaaGj
namespace Go.Proofs.Ytdeodcomlakpaaa
open Go.RowKit
set_option linter.unusedVariables false
set_option linter.unusedSimpArgs false
abbrev qk (q : Nat) : QK := (1, (q : Int), 0)
/-- keys asked one by one, the last one perhaps not to its end -/
inductive SeqR (R : Bool → PS → Nat → PS → Prop) : Bool → PS → List QK → PS → Prop
  | nil {s : PS} : SeqR R true s [] s
  | inp {b : Bool} {s : PS} {k : QK} {l : List QK} {s' : PS} : k.1 = 0 → SeqR R b s l s' → SeqR R b s (k :: l) s'
  | qry {b : Bool} {s : PS} {q : Nat} {s1 : PS} {l : List QK} {s' : PS} : R true s q s1 → SeqR R b s1 l s' → SeqR R b s (qk q :: l) s'
  | halt {s : PS} {q : Nat} {s1 : PS} : R false s q s1 → SeqR R false s [qk q] s1
theorem SeqR.append {R : Bool → PS → Nat → PS → Prop} {b : Bool} {s s1 s2 : PS} {l1 l2 : List QK} {t : Bool} (h : SeqR R t s l1 s1) (ht : t = true) (k : SeqR R b s1 l2 s2) : SeqR R b s (l1 ++ l2) s2 := by
  induction h with
  | nil => exact k
  | inp h0 _ ih => exact .inp h0 (ih ht k)
  | qry hr _ ih => exact .qry hr (ih ht k)
  | halt _ => cases ht
/-- only queries below q -/
def Rlt (R : Bool → PS → Nat → PS → Prop) (q : Nat) : Bool → PS → Nat → PS → Prop := fun b s q' s' => q' < q ∧ R b s q' s'
def keyChg (s : PS) (k : QK) : Int := if k.1 = 0 then (s.inp k).ch else (s.res k).chg
def keyDur (s : PS) (k : QK) : Int := if k.1 = 0 then (s.inp k).du else (s.res k).dur
def durOf (s : PS) (ks : List QK) : Int := ks.foldl (fun d k => min d (keyDur s k)) 2
/-- query q has to be computed; s2: behind the check -/
def Bad (R : Bool → PS → Nat → PS → Prop) (s : PS) (q : Nat) (s2 : PS) : Prop :=
  (aget s.es (qk q) = none ∧ s2 = begP s (qk q)) ∨
  ∃ r l1 d l2, aget s.es (qk q) = some r ∧ ¬ (r.ver = s.rev ∨ s.last r.dur ≤ r.ver) ∧ r.deps = l1 ++ d :: l2 ∧ SeqR (Rlt R q) true (begP s (qk q)) (l1 ++ [d]) s2 ∧ (∀ k ∈ l1, keyChg s2 k ≤ r.ver) ∧ r.ver < keyChg s2 d
/-- a computation's result is noted -/
def putP (s : PS) (q : Nat) (rev : Int) (xs : List Int) (deps : List QK) : PS :=
  { s with es := ups s.es (qk q) (newRes s (qk q) rev xs deps (durOf s deps)), cnt := wrap64 (s.cnt + 1) }
inductive StepR (p : Prg) (ins : List Int) (R : Bool → PS → Nat → PS → Prop) : Bool → PS → Nat → PS → Prop
  | skip {s : PS} {q : Nat} {r : RV} : aget s.es (qk q) = some r → (r.ver = s.rev ∨ s.last r.dur ≤ r.ver) → StepR p ins R true s q (finP (begP s (qk q)) (qk q))
  | check {s : PS} {q : Nat} {r : RV} {s2 : PS} : aget s.es (qk q) = some r → ¬ (r.ver = s.rev ∨ s.last r.dur ≤ r.ver) → SeqR (Rlt R q) true (begP s (qk q)) r.deps s2 → (∀ k ∈ r.deps, keyChg s2 k ≤ r.ver) → StepR p ins R true s q (finP s2 (qk q))
  | half {s : PS} {q : Nat} {r : RV} {l1 l2 : List QK} {s2 : PS} : aget s.es (qk q) = some r → ¬ (r.ver = s.rev ∨ s.last r.dur ≤ r.ver) → r.deps = l1 ++ l2 → SeqR (Rlt R q) false (begP s (qk q)) l1 s2 → (∀ k ∈ l1.dropLast, keyChg s2 k ≤ r.ver) → StepR p ins R false s q s2
  | redo {s : PS} {q : Nat} {s2 : PS} {ks : List QK} {s3 : PS} : Bad R s q s2 → SeqR (Rlt R q) true s2 ks s3 → (∀ k, k ∈ ks ↔ k ∈ reads p ins q) → StepR p ins R true s q (finP (putP s3 q s.rev [val p ins q] (reads p ins q)) (qk q))
  | stop {s : PS} {q : Nat} {s2 : PS} : Bad R s q s2 → StepR p ins R false s q s2
  | rhalf {s : PS} {q : Nat} {s2 : PS} {ks : List QK} {s3 : PS} : Bad R s q s2 → SeqR (Rlt R q) false s2 ks s3 → (∀ k ∈ ks, k ∈ reads p ins q) → StepR p ins R false s q s3
/-- an update of a query below n -/
def UpdR (p : Prg) (ins : List Int) : Nat → Bool → PS → Nat → PS → Prop
  | 0 => fun _ _ _ _ => False
  | n + 1 => StepR p ins (UpdR p ins n)
/-! ### durabilities -/
theorem durOf_snoc (s : PS) (ks : List QK) (k : QK) : durOf s (ks ++ [k]) = min (durOf s ks) (keyDur s k) := by unfold durOf; rw [List.foldl_append]; rfl
theorem foldl_min_le (f : QK → Int) : ∀ (ks : List QK) (d : Int), ks.foldl (fun d k => min d (f k)) d ≤ d ∧ ∀ k ∈ ks, ks.foldl (fun d k => min d (f k)) d ≤ f k := by
  intro ks
  induction ks with
  | nil => intro d; exact ⟨Int.le_refl _, by simp⟩
  | cons x r ih =>
    intro d
    obtain ⟨h1, h2⟩ := ih (min d (f x))
    simp only [List.foldl_cons]
    refine ⟨by omega, fun k hk => ?_⟩
    rcases List.mem_cons.1 hk with rfl | hk
    · omega
    · exact h2 k hk
theorem durOf_addK (s : PS) (ks : List QK) (k : QK) : durOf s (addK ks k) = min (durOf s ks) (keyDur s k) := by
  unfold addK
  split
  · rename_i h
    have := (foldl_min_le (keyDur s) ks 2).2 k h
    unfold durOf
    omega
  · exact durOf_snoc s ks k
theorem durOf_congr {s s' : PS} {ks : List QK} (h : ∀ k ∈ ks, keyDur s' k = keyDur s k) : durOf s' ks = durOf s ks := by
  unfold durOf
  generalize (2 : Int) = d
  induction ks generalizing d with
  | nil => rfl
  | cons x r ih =>
    simp only [List.foldl_cons]
    rw [h x (by simp), ih (fun k hk => h k (by simp [hk]))]
/-! ### runs -/
theorem runL_simE {ε σ : Type} {G : σ → QK → Except ε Int × σ} {ins : List Int} {f : Nat → Int} {inp idx : Int} {R : σ → List QK → Prop} {E : ε → σ → List QK → Prop} (hf : ∀ q, small (f q)) (hsm : GSmall G inp idx)
    (hG : ∀ s t k, R s t → KeyIn inp idx k → (∃ n s', G s k = (.ok n, s') ∧ (GR ins f t k).1 = .ok n ∧ R s' (GR ins f t k).2) ∨ ∃ e s', G s k = (.error e, s') ∧ E e s' (addK t k)) : ∀ {ops : List QO} {xs : List Int} {s : σ} {t : List QK}, (∀ o ∈ ops, OpOk inp idx o) → (∀ x ∈ xs, small x) → R s t →
    (∃ zs s', runL G idx ops xs s = (.ok zs, s') ∧ (runL (GR ins f) idx ops xs t).1 = .ok zs ∧ R s' (runL (GR ins f) idx ops xs t).2) ∨ ∃ e s' u, runL G idx ops xs s = (.error e, s') ∧ E e s' u ∧ ∀ x ∈ u, x ∈ (runL (GR ins f) idx ops xs t).2 := by
  intro ops
  induction ops with
  | nil => intro xs s t _ _ hs; exact Or.inl ⟨xs, s, rfl, rfl, hs⟩
  | cons o r ih =>
    intro xs s t ho hx hs
    have hn : 0 ≤ (if o.1 = 4 ∨ o.1 = 5 then xs.getLastD 0 else 0) := by
      split
      · exact (small_last hx).1
      · omega
    have h1 : (∃ zs s', step1 G idx o xs s = (.ok zs, s') ∧ (step1 (GR ins f) idx o xs t).1 = .ok zs ∧ R s' (step1 (GR ins f) idx o xs t).2) ∨ ∃ e s' u, step1 G idx o xs s = (.error e, s') ∧ E e s' u ∧ (step1 (GR ins f) idx o xs t).2 = u ∧ ∃ zs, (step1 (GR ins f) idx o xs t).1 = .ok zs := by
      unfold step1
      simp only
      generalize (if o.1 = 4 ∨ o.1 = 5 then xs.getLastD 0 else 0) = m at hn ⊢
      generalize (if o.1 = 4 ∨ o.1 = 5 then xs.dropLast else xs) = ys
      cases hk : opKey o idx m with
      | none =>
        left
        simp only
        split
        · exact ⟨_, s, rfl, rfl, hs⟩
        · exact ⟨_, s, rfl, rfl, hs⟩
      | some k =>
        rcases hG s t k hs (opKey_in (ho o (by simp)) hn hk) with ⟨v, s', e1, e2, e3⟩ | ⟨e, s', e1, e2⟩
        · left
          refine ⟨ys ++ [v], s', ?_, ?_, e3⟩
          · simp only [e1]; rfl
          · simp only [e2]; rfl
        · right
          exact ⟨e, s', addK t k, by simp only [e1]; rfl, e2, rfl, _, rfl⟩
    rcases h1 with ⟨zs, s', e1, e2, e3⟩ | ⟨e, s', u, e1, e2, e3, zs, e4⟩
    · unfold runL
      rw [e1]
      rcases hq : step1 (GR ins f) idx o xs t with ⟨a, t'⟩
      rw [hq] at e2 e3
      simp only at e2 e3
      subst e2
      exact ih (fun o' h' => ho o' (by simp [h'])) (step1_small hsm (ho o (by simp)) hx e1) e3
    · right
      refine ⟨e, s', u, by rw [runL, e1], e2, ?_⟩
      rcases hq : step1 (GR ins f) idx o xs t with ⟨a, t'⟩
      rw [hq] at e3 e4
      simp only at e3 e4
      subst e3 e4
      rw [runL, hq]
      exact (runL_GR (ins' := ins) (g := f) hf (fun o' h' => ho o' (by simp [h'])) (step1_small (GR_small hf inp idx) (ho o (by simp)) hx hq)).2.1
/-! ### the evaluation is such steps -/
def BigG (p : Prg) (H : Hist) (ins : List Int) (U : PS → QK → Except Int Unit × PS) (R : Bool → PS → Nat → PS → Prop) (n : Nat) : Prop :=
  ∀ s (q : Nat), q < n → q < p.qs.length → Inv p H s → insH p H s.rev = ins → Idl (q + 1) s → (∀ s', U s (qk q) = (.ok (), s') → R true s q s') ∧ ∀ e s', U s (qk q) = (.error e, s') → R false s q s'
variable {p : Prg} {H : Hist} {ins : List Int} {stp : PS → Bool} {U : PS → QK → Except Int Unit × PS} {R : Bool → PS → Nat → PS → Prop} {n : Nat}
/-- what is known of keys that have been asked -/
theorem Stp.keys {m : Nat} {s s' : PS} (h : Stp p H m s s') {ks : List QK} (hu : ∀ q : Nat, qk q ∈ ks → ∃ r, aget s.es (qk q) = some r ∧ r.ver = s.rev) {k : QK} (hk : k ∈ ks) (hf : k.1 = 0 ∨ ∃ q : Nat, k = qk q) : keyDur s' k = keyDur s k ∧ keyChg s' k = keyChg s k := by
  rcases hf with h0 | ⟨q, rfl⟩
  · unfold keyDur keyChg
    rw [if_pos h0, if_pos h0, if_pos h0, if_pos h0, h.inp]
    exact ⟨rfl, rfl⟩
  · obtain ⟨r, a1, a2⟩ := hu q hk
    obtain ⟨r1, b1, b2, b3, b4, b5, b6⟩ := h.up q r a1 a2
    unfold keyDur keyChg
    rw [if_neg (by simp), if_neg (by simp), if_neg (by simp), if_neg (by simp), res_get a1, res_get b1]
    exact ⟨b5, b4⟩
theorem keyIn_form {inp idx : Int} {k : QK} (h : KeyIn inp idx k) : k.1 = 0 ∨ ∃ q : Nat, k = qk q ∧ (q : Int) < idx := by
  obtain ⟨a, b, c⟩ := k
  rcases h with ⟨h0, _⟩ | ⟨h0, h1, h2, h3⟩
  · exact .inl h0
  · simp only at h0 h1 h2 h3
    subst h0 h3
    obtain ⟨j, rfl⟩ := Int.eq_ofNat_of_zero_le h1
    exact .inr ⟨j, rfl, h2⟩
/-- the dependencies are asked one by one -/
theorem any_big (hp : PrgOk p) (hU : Good p H stp U n) (hB : BigG p H ins U R n) {q : Nat} (hq : q ≤ n) (hqN : q < p.qs.length) (rev0 : Int) : ∀ (l : List QK) (s : PS), (∀ k ∈ l, KeyIn p.inp q k) → Inv p H s → insH p H s.rev = ins → Idl q s →
    (∀ s', anyChg U rev0 l s = (.ok false, s') → SeqR (Rlt R q) true s l s' ∧ ∀ k ∈ l, keyChg s' k ≤ rev0) ∧
    (∀ s', anyChg U rev0 l s = (.ok true, s') → ∃ l1 d l2, l = l1 ++ d :: l2 ∧ SeqR (Rlt R q) true s (l1 ++ [d]) s' ∧ (∀ k ∈ l1, keyChg s' k ≤ rev0) ∧ rev0 < keyChg s' d) ∧
    (∀ e s', anyChg U rev0 l s = (.error e, s') → ∃ l1 l2, l = l1 ++ l2 ∧ SeqR (Rlt R q) false s l1 s' ∧ ∀ k ∈ l1.dropLast, keyChg s' k ≤ rev0) := by
  intro l
  induction l with
  | nil =>
    intro s _ hs hi hid
    refine ⟨fun s' h => ?_, fun s' h => ?_, fun e s' h => ?_⟩
    · simp only [anyChg, Prod.mk.injEq] at h
      obtain ⟨_, rfl⟩ := h
      exact ⟨.nil, by simp⟩
    · simp [anyChg] at h
    · simp [anyChg] at h
  | cons k l ih =>
    intro s hl hs hins hid
    have hk := hl k (by simp)
    -- one key
    have h1 : (∃ s1 t, chgSince U s k rev0 = (.ok t, s1) ∧ Stp p H q s s1 ∧ Idl q s1 ∧ (∀ {b : Bool} {l' : List QK} {s' : PS}, SeqR (Rlt R q) b s1 l' s' → SeqR (Rlt R q) b s (k :: l') s') ∧ t = decide (rev0 < keyChg s1 k) ∧ ∀ q' : Nat, k = qk q' → ∃ r, aget s1.es (qk q') = some r ∧ r.ver = s1.rev) ∨
        (∃ e s1, chgSince U s k rev0 = (.error e, s1) ∧ SeqR (Rlt R q) false s [k] s1) := by
      rcases keyIn_form hk with h0 | ⟨j, rfl, hj⟩
      · refine .inl ⟨s, _, by unfold chgSince; rw [if_pos h0], Stp.refl hs q, hid, fun h => .inp h0 h, by unfold keyChg; rw [if_pos h0], fun q' e => ?_⟩
        rw [e] at h0
        simp at h0
      · have hjq : j < q := by omega
        obtain ⟨b1, b2⟩ := hB s j (by omega) (by omega) hs hins (hid.mono (by omega))
        rcases hU s j (by omega) (by omega) hs (hid.mono (by omega)) with ⟨s1, hu, hst, hid1, r, hr, hrv⟩ | ⟨s1, hu, hst, _⟩
        · refine .inl ⟨s1, decide (rev0 < (s1.res (qk j)).chg), by unfold chgSince; rw [if_neg (by simp), hu], hst.mono (by omega), hst.idl hid hid1, fun h => .qry ⟨hjq, b1 s1 hu⟩ h, by unfold keyChg; rw [if_neg (by simp)], fun q' e => ?_⟩
          rw [key_inj.1 e] at hr
          exact ⟨r, hr, hrv.trans hst.rev.symm⟩
        · refine .inr ⟨12, s1, by unfold chgSince; rw [if_neg (by simp), hu], .halt ⟨hjq, b2 _ s1 hu⟩⟩
    rcases h1 with ⟨s1, t, hc, hst, hid1, hseq, ht, hup⟩ | ⟨e, s1, hc, hseq⟩
    · have hkf : k.1 = 0 ∨ ∃ q' : Nat, k = qk q' := (keyIn_form hk).imp id fun ⟨j, h, _⟩ => ⟨j, h⟩
      cases t with
      | true =>
        have hd : rev0 < keyChg s1 k := by simpa using ht.symm
        refine ⟨fun s' h => ?_, fun s' h => ?_, fun e s' h => ?_⟩
        · rw [anyChg, hc] at h; simp at h
        · rw [anyChg, hc] at h
          simp only [Prod.mk.injEq, true_and] at h
          subst h
          exact ⟨[], k, l, rfl, hseq .nil, by simp, hd⟩
        · rw [anyChg, hc] at h; simp at h
      | false =>
        have hd : keyChg s1 k ≤ rev0 := by
          have h1 : ¬ rev0 < keyChg s1 k := by simpa using ht.symm
          omega
        have hstep : anyChg U rev0 (k :: l) s = anyChg U rev0 l s1 := by rw [anyChg, hc]
        obtain ⟨i1, i2, i3⟩ := ih s1 (fun k hk => hl k (by simp [hk])) hst.inv (by rw [hst.rev]; exact hins) hid1
        have hany := any_ok hp hU hq hqN rev0 l s1 (fun k hk => hl k (by simp [hk])) hst.inv hid1
        have hkeep : ∀ s', Stp p H q s1 s' → keyChg s' k = keyChg s1 k := fun s' h => (h.keys (ks := [k]) (fun q' hm => hup q' (List.mem_singleton.1 hm).symm) (by simp) hkf).2
        have hlast : ∀ x s', anyChg U rev0 l s1 = (x, s') → keyChg s' k ≤ rev0 := fun x s' h => by
          rcases hany with ⟨s2, g1, g2, _⟩ | ⟨s2, g1, g2, _⟩ | ⟨s2, g1, g2, _⟩ <;> rw [h] at g1 <;> simp only [Prod.mk.injEq] at g1 <;> obtain ⟨_, rfl⟩ := g1 <;> rw [hkeep _ g2] <;> exact hd
        refine ⟨fun s' h => ?_, fun s' h => ?_, fun e s' h => ?_⟩
        · rw [hstep] at h
          obtain ⟨a1, a2⟩ := i1 s' h
          refine ⟨hseq a1, fun x hx => ?_⟩
          rcases List.mem_cons.1 hx with rfl | hx
          · exact hlast _ s' h
          · exact a2 x hx
        · rw [hstep] at h
          obtain ⟨l1, d, l2, e1, a1, a2, a3⟩ := i2 s' h
          refine ⟨k :: l1, d, l2, by rw [e1]; rfl, hseq a1, fun x hx => ?_, a3⟩
          rcases List.mem_cons.1 hx with rfl | hx
          · exact hlast _ s' h
          · exact a2 x hx
        · rw [hstep] at h
          obtain ⟨l1, l2, e1, a1, a2⟩ := i3 e s' h
          refine ⟨k :: l1, l2, by rw [e1]; rfl, hseq a1, fun x hx => ?_⟩
          cases l1 with
          | nil => simp at hx
          | cons y l1 =>
            rw [List.dropLast_cons_of_ne_nil (by simp)] at hx
            rcases List.mem_cons.1 hx with rfl | hx
            · exact hlast _ s' h
            · exact a2 x hx
    · refine ⟨fun s' h => ?_, fun s' h => ?_, fun e' s' h => ?_⟩
      · rw [anyChg, hc] at h; simp at h
      · rw [anyChg, hc] at h; simp at h
      · rw [anyChg, hc] at h
        simp only [Prod.mk.injEq] at h
        obtain ⟨_, rfl⟩ := h
        exact ⟨[k], l, rfl, hseq, by simp⟩
/-- a get under way -/
structure GB (p : Prg) (H : Hist) (R : Bool → PS → Nat → PS → Prop) (q : Nat) (s : PS) (σ : GS) (t : List QK) : Prop where
  gj : GJ p H q s σ t
  seq : ∃ ks, SeqR (Rlt R q) true s ks σ.1 ∧ ∀ x, x ∈ ks ↔ x ∈ t
  dur : σ.2.2 = durOf σ.1 t
  kin : ∀ x ∈ t, KeyIn p.inp q x
theorem mem_addK2 {ks : List QK} {k x : QK} : x ∈ addK ks k ↔ x ∈ ks ∨ x = k := ⟨mem_addK_iff, fun h => h.elim (sub_addK ks k x) fun e => e ▸ mem_addK ks k⟩
theorem getB (hp : PrgOk p) (hU : Good p H stp U n) (hB : BigG p H ins U R n) {q : Nat} (hq : q ≤ n) (hqN : q < p.qs.length) {s : PS} (hs : Inv p H s) (hins : insH p H s.rev = ins) {σ : GS} {t : List QK} {k : QK} (h : GB p H R q s σ t) (hk : KeyIn p.inp q k) :
    (∃ v σ', gmap (getP U) σ k = (.ok v, σ') ∧ (GR (insH p H s.rev) (val p (insH p H s.rev)) t k).1 = .ok v ∧ GB p H R q s σ' (GR (insH p H s.rev) (val p (insH p H s.rev)) t k).2) ∨
    ∃ e σ', gmap (getP U) σ k = (.error e, σ') ∧ ∃ ks, SeqR (Rlt R q) false s ks σ'.1 ∧ ∀ x ∈ ks, x ∈ addK t k := by
  obtain ⟨ks, hseq, hks⟩ := h.seq
  have hform : ∀ x ∈ t, x.1 = 0 ∨ ∃ q' : Nat, x = qk q' := fun x hx => (keyIn_form (h.kin x hx)).imp id fun ⟨j, e, _⟩ => ⟨j, e⟩
  have hupt : ∀ q' : Nat, qk q' ∈ t → ∃ r, aget σ.1.es (qk q') = some r ∧ r.ver = σ.1.rev := fun q' hm => by
    obtain ⟨r, a1, a2, _⟩ := h.gj.dq q' hm
    exact ⟨r, a1, a2.trans h.gj.stp.rev.symm⟩
  rcases getJ hp hU hq hqN hs h.gj hk with ⟨v, σ', g1, g2, g3⟩ | ⟨e, σ', g1, _⟩
  · left
    refine ⟨v, σ', g1, g2, g3, ?_, ?_, fun x hx => ?_⟩
    · rcases keyIn_form hk with h0 | ⟨j, rfl, hj⟩
      · have e1 : σ'.1 = σ.1 := by
          unfold gmap getP at g1
          rw [if_pos h0] at g1
          simp only [Prod.mk.injEq] at g1
          rw [← g1.2]
        rw [e1]
        exact ⟨ks ++ [k], hseq.append rfl (.inp h0 .nil), fun x => by show _ ↔ x ∈ addK t k; rw [mem_addK2, List.mem_append, hks]; simp⟩
      · have hjq : j < q := by omega
        obtain ⟨b1, _⟩ := hB σ.1 j (by omega) (by omega) h.gj.stp.inv (by rw [h.gj.stp.rev]; exact hins) (h.gj.idl.mono (by omega))
        have e1 : U σ.1 (qk j) = (.ok (), σ'.1) := by
          unfold gmap getP at g1
          rw [if_neg (by simp)] at g1
          rcases hu : U σ.1 (qk j) with ⟨_ | u, s1⟩ <;> rw [hu] at g1 <;> simp only [Prod.mk.injEq] at g1
          · simp at g1
          · rw [← g1.2]
        exact ⟨ks ++ [qk j], hseq.append rfl (.qry ⟨hjq, b1 _ e1⟩ .nil), fun x => by show _ ↔ x ∈ addK t (qk j); rw [mem_addK2, List.mem_append, hks]; simp⟩
    · show σ'.2.2 = durOf σ'.1 (addK t k)
      rw [durOf_addK]
      rcases keyIn_form hk with h0 | ⟨j, rfl, hj⟩
      · unfold gmap getP at g1
        rw [if_pos h0] at g1
        simp only [Prod.mk.injEq] at g1
        rw [← g1.2]
        simp only
        rw [h.dur]
        unfold keyDur
        rw [if_pos h0]
      · have hjq : j < q := by omega
        unfold gmap getP at g1
        rw [if_neg (by simp)] at g1
        rcases hU σ.1 j (by omega) (by omega) h.gj.stp.inv (h.gj.idl.mono (by omega)) with ⟨s1, hu, hst, hid1, r, hr, hrv⟩ | ⟨s1, hu, hst, _⟩
        · rw [hu] at g1
          simp only [Prod.mk.injEq] at g1
          rw [← g1.2]
          simp only
          rw [h.dur]
          have : durOf s1 t = durOf σ.1 t := durOf_congr fun x hx => (hst.keys hupt hx (hform x hx)).1
          rw [this]
          unfold keyDur
          rw [if_neg (by simp)]
        · rw [hu] at g1
          simp at g1
    · rcases mem_addK_iff hx with hx | rfl
      · exact h.kin x hx
      · exact hk
  · right
    refine ⟨e, σ', g1, ?_⟩
    rcases keyIn_form hk with h0 | ⟨j, rfl, hj⟩
    · unfold gmap getP at g1
      rw [if_pos h0] at g1
      simp at g1
    · have hjq : j < q := by omega
      obtain ⟨_, b2⟩ := hB σ.1 j (by omega) (by omega) h.gj.stp.inv (by rw [h.gj.stp.rev]; exact hins) (h.gj.idl.mono (by omega))
      unfold gmap getP at g1
      rw [if_neg (by simp)] at g1
      rcases hu : U σ.1 (qk j) with ⟨e0 | u, s1⟩ <;> rw [hu] at g1 <;> simp only [Prod.mk.injEq] at g1
      · rw [← g1.2]
        refine ⟨ks ++ [qk j], hseq.append rfl (.halt ⟨hjq, b2 _ _ hu⟩), fun x hx => ?_⟩
        rw [mem_addK2]
        rcases List.mem_append.1 hx with hx | hx
        · exact .inl ((hks x).1 hx)
        · exact .inr (by simpa using hx)
      · simp at g1
/-- recompute -/
theorem rec_big (hp : PrgOk p) (hU : Good p H stp U n) (hB : BigG p H ins U R n) {q : Nat} (hq : q ≤ n) (hqN : q < p.qs.length) {s : PS} (hs : Inv p H s) (hins : insH p H s.rev = ins) (hi : Idl q s) :
    (∀ s', recompP U (compQ p.qs) stp s (qk q) = (.ok (), s') → ∃ ks s3, SeqR (Rlt R q) true s ks s3 ∧ (∀ k, k ∈ ks ↔ k ∈ reads p ins q) ∧ s' = putP s3 q s.rev [val p ins q] (reads p ins q)) ∧
    (∀ e s', recompP U (compQ p.qs) stp s (qk q) = (.error e, s') → s' = s ∨ ∃ ks, SeqR (Rlt R q) false s ks s' ∧ ∀ k ∈ ks, k ∈ reads p ins q) := by
  subst hins
  unfold recompP
  by_cases hstop : stp s = true
  · rw [if_pos hstop]
    exact ⟨fun s' h => by simp at h, fun e s' h => by simp only [Prod.mk.injEq] at h; exact .inl h.2.symm⟩
  · rw [if_neg hstop]
    have hJ0 : GB p H R q s (s, [], 2) [] := ⟨⟨Stp.refl hs q, hi, rfl, by simp, by simp, by simp, by simp, fun d _ h _ _ => h⟩, ⟨[], .nil, by simp⟩, rfl, by simp⟩
    have hsim := runL_simE (G := gmap (getP U)) (ins := insH p H s.rev) (f := val p (insH p H s.rev)) (inp := p.inp) (idx := q) (R := GB p H R q s) (E := fun e σ' u => ∃ ks, SeqR (Rlt R q) false s ks σ'.1 ∧ ∀ x ∈ ks, x ∈ u) (val_small p _) (gmap_small _ _ _)
      (fun σ t k h hk => getB hp hU hB hq hqN hs rfl h hk) (hp.qs q hqN).each (xs := []) (by simp) hJ0
    have hgr := runR_GR hp (insH p H s.rev) q hqN
    rcases hsim with ⟨zs, σ', h1, h2, h3⟩ | ⟨e, σ', u, h1, ⟨ks, h2, h3⟩, h4⟩
    · have hval : zs.getD 0 0 = val p (insH p H s.rev) q ∧ (runL (GR (insH p H s.rev) (val p (insH p H s.rev))) (q : Int) (p.qs.getD q []) [] []).2 = reads p (insH p H s.rev) q := by
        unfold runR at hgr
        rcases hA : runL (GR (insH p H s.rev) (val p (insH p H s.rev))) (q : Int) (p.qs.getD q []) [] [] with ⟨a, b⟩
        rw [hA] at hgr h2
        simp only at h2
        subst h2
        simp only [Prod.mk.injEq, Except.ok.injEq] at hgr
        exact hgr
      rw [hval.2] at h3
      obtain ⟨s2, deps, dur⟩ := σ'
      have hc : compQ p.qs (qk q) (getP U) (s, [], 2) = (.ok [val p (insH p H s.rev) q], (s2, deps, dur)) := by
        unfold compQ runR
        simp only [Int.toNat_natCast]
        rw [h1, ← hval.1]
      rw [hc]
      refine ⟨fun s' h => ?_, fun e s' h => by simp at h⟩
      simp only [Prod.mk.injEq, true_and] at h
      obtain ⟨ks, k1, k2⟩ := h3.seq
      refine ⟨ks, s2, k1, k2, ?_⟩
      have e1 : deps = reads p (insH p H s.rev) q := h3.gj.eq
      have e2 : dur = durOf s2 (reads p (insH p H s.rev) q) := h3.dur
      rw [← h, e1, e2]
      rfl
    · obtain ⟨s2, dd⟩ := σ'
      have hc : compQ p.qs (qk q) (getP U) (s, [], 2) = (.error e, (s2, dd)) := by
        unfold compQ runR
        simp only [Int.toNat_natCast]
        rw [h1]
      rw [hc]
      refine ⟨fun s' h => by simp at h, fun e' s' h => ?_⟩
      simp only [Prod.mk.injEq] at h
      rw [← h.2]
      refine .inr ⟨ks, h2, fun k hk => ?_⟩
      rw [reads_eq]
      exact h4 k (h3 k hk)
/-- update -/
theorem upd_big (hp : PrgOk p) (hU : Good p H stp U n) (hB : BigG p H ins U R n) {q : Nat} (hq : q ≤ n) (hqN : q < p.qs.length) {s : PS} (hs : Inv p H s) (hins : insH p H s.rev = ins) (hi : Idl (q + 1) s) :
    (∀ s', updP U (compQ p.qs) stp s (qk q) = (.ok (), s') → StepR p ins R true s q s') ∧ (∀ e s', updP U (compQ p.qs) stp s (qk q) = (.error e, s') → StepR p ins R false s q s') := by
  have hb := stp_beg hs q
  have hib := idl_beg hi
  have h0 := hi q (by omega)
  have hrevb : (begP s (qk q)).rev = s.rev := rfl
  have then_big : ∀ s2, Bad R s q s2 → Inv p H s2 → s2.rev = s.rev → Idl q s2 → (∀ s', thenFin (qk q) (recompP U (compQ p.qs) stp s2 (qk q)) = (.ok (), s') → StepR p ins R true s q s') ∧ (∀ e s', thenFin (qk q) (recompP U (compQ p.qs) stp s2 (qk q)) = (.error e, s') → StepR p ins R false s q s') := by
    intro s2 hbad hs2 hrev2 hi2
    obtain ⟨c1, c2⟩ := rec_big hp hU hB hq hqN hs2 (by rw [hrev2]; exact hins) hi2
    rcases hr : recompP U (compQ p.qs) stp s2 (qk q) with ⟨e | u, s3⟩
    · refine ⟨fun s' h => by simp [thenFin] at h, fun e' s' h => ?_⟩
      simp only [thenFin, Prod.mk.injEq] at h
      rw [← h.2]
      rcases c2 e s3 hr with rfl | ⟨ks, k1, k2⟩
      · exact .stop hbad
      · exact .rhalf hbad k1 k2
    · refine ⟨fun s' h => ?_, fun e' s' h => by simp [thenFin] at h⟩
      simp only [thenFin, Prod.mk.injEq, true_and] at h
      obtain ⟨ks, s4, k1, k2, rfl⟩ := c1 s3 hr
      rw [← h, hrev2]
      exact .redo hbad k1 k2
  cases hr : aget s.es (qk q) with
  | none =>
    rw [updP_none h0 hr]
    exact then_big _ (.inl ⟨hr, rfl⟩) hb.inv rfl hib
  | some r =>
    by_cases hv : r.ver = (begP s (qk q)).rev ∨ (begP s (qk q)).last r.dur ≤ r.ver
    · rw [updP_yes h0 hr (by unfold validP; rw [if_pos hv])]
      refine ⟨fun s' h => ?_, fun e s' h => by simp at h⟩
      simp only [Prod.mk.injEq, true_and] at h
      rw [← h]
      exact .skip hr hv
    · have hkeys : ∀ k ∈ r.deps, KeyIn p.inp q k := (hs.w.es _ r hr).2.2.1
      have hval : ∀ x s2, anyChg U r.ver r.deps (begP s (qk q)) = (x, s2) → validP U (begP s (qk q)) r = (match x with | .ok t => .ok (!t) | .error e => .error e, s2) := fun x s2 h => by
        unfold validP
        rw [if_neg hv, h]
        cases x <;> rfl
      obtain ⟨a1, a2, a3⟩ := any_big hp hU hB hq hqN r.ver r.deps _ hkeys hb.inv hins hib
      rcases any_ok hp hU hq hqN r.ver r.deps _ hkeys hb.inv hib with ⟨s2, h1, h2, h3, h4⟩ | ⟨s2, h1, h2, h3⟩ | ⟨s2, h1, h2, h3⟩
      · rw [updP_yes h0 hr (hval _ _ h1)]
        obtain ⟨b1, b2⟩ := a1 s2 h1
        refine ⟨fun s' h => ?_, fun e s' h => by simp at h⟩
        simp only [Prod.mk.injEq, true_and] at h
        rw [← h]
        exact .check hr hv b1 b2
      · rw [updP_no h0 hr (hval _ _ h1)]
        obtain ⟨l1, d, l2, e1, b1, b2, b3⟩ := a2 s2 h1
        exact then_big s2 (.inr ⟨r, l1, d, l2, hr, hv, e1, b1, b2, b3⟩) h2.inv h2.rev h3
      · rw [updP_err h0 hr (hval _ _ h1)]
        obtain ⟨l1, l2, e1, b1, b2⟩ := a3 _ s2 h1
        refine ⟨fun s' h => by simp at h, fun e s' h => ?_⟩
        simp only [Prod.mk.injEq] at h
        rw [← h.2]
        exact .half hr hv e1 b1 b2
theorem big_UQ (hp : PrgOk p) : ∀ n, BigG p H ins (UQ p.qs stp n) (UpdR p ins n) n := by
  intro n
  induction n with
  | zero => intro s q hq; omega
  | succ n ih => intro s q hq hqN hs hins hi; exact upd_big hp (good_UQ hp H stp n) ih (by omega) hqN hs hins hi
end Go.Proofs.Ytdeodcomlakpaaa
