/- The keys that a query reads; a query whose keys are worth the same is worth the same. Plain. -/
import Derived.Test.YtdeodcomlakpaaaMqI
namespace Go.Proofs.Ytdeodcomlakpaaa
set_option linter.unusedVariables false
/-- get, which keeps the keys it was asked for -/
def addK (ks : List QK) (k : QK) : List QK := if k ∈ ks then ks else ks ++ [k]
def GR (ins : List Int) (f : Nat → Int) (ks : List QK) (k : QK) : Except Empty Int × List QK := (.ok (kvalOf ins f k), addK ks k)
theorem sub_addK (ks : List QK) (k : QK) : ∀ x ∈ ks, x ∈ addK ks k := by
  intro x hx
  unfold addK
  split
  · exact hx
  · exact List.mem_append_left _ hx
theorem mem_addK (ks : List QK) (k : QK) : k ∈ addK ks k := by
  unfold addK
  split
  · assumption
  · simp
theorem mem_addK_iff {ks : List QK} {k x : QK} (h : x ∈ addK ks k) : x ∈ ks ∨ x = k := by
  unfold addK at h
  split at h
  · exact Or.inl h
  · simpa using h
theorem GR_small {ins : List Int} {f : Nat → Int} (hf : ∀ q, small (f q)) (inp idx : Int) : GSmall (GR ins f) inp idx := by
  intro s k n _ h
  simp only [GR, Except.ok.injEq] at h
  rw [← h]
  exact kvalOf_small hf k
/-- one instruction, with and without the keys -/
theorem step1_GR {ins ins' : List Int} {f g : Nat → Int} {inp idx : Int} {o : QO} {xs : List Int} {ks : List QK} (ho : OpOk inp idx o) (hx : ∀ x ∈ xs, small x) :
    (step1 (GR ins f) idx o xs ks).1 = (step1 (GV ins f) idx o xs ()).1 ∧ (∀ x ∈ ks, x ∈ (step1 (GR ins f) idx o xs ks).2) ∧ (∀ x ∈ (step1 (GR ins f) idx o xs ks).2, x ∈ ks ∨ KeyIn inp idx x) ∧
      ((∀ k ∈ (step1 (GR ins f) idx o xs ks).2, kvalOf ins f k = kvalOf ins' g k) → step1 (GR ins' g) idx o xs ks = step1 (GR ins f) idx o xs ks) := by
  have hn : 0 ≤ (if o.1 = 4 ∨ o.1 = 5 then xs.getLastD 0 else 0) := by
    split
    · exact (small_last hx).1
    · omega
  unfold step1
  simp only
  generalize (if o.1 = 4 ∨ o.1 = 5 then xs.getLastD 0 else 0) = n at hn ⊢
  generalize (if o.1 = 4 ∨ o.1 = 5 then xs.dropLast else xs) = ys
  cases hk : opKey o idx n with
  | none =>
    simp only
    split
    · exact ⟨rfl, fun x h => h, fun x h => Or.inl h, fun _ => trivial⟩
    · exact ⟨rfl, fun x h => h, fun x h => Or.inl h, fun _ => trivial⟩
  | some k =>
    refine ⟨rfl, sub_addK ks k, fun x h => ?_, fun h => ?_⟩
    · rcases mem_addK_iff h with h | rfl
      · exact Or.inl h
      · exact Or.inr (opKey_in ho hn hk)
    · have := h k (mem_addK ks k)
      show (Except.map _ (Except.ok (kvalOf ins' g k)), addK ks k) = (Except.map _ (Except.ok (kvalOf ins f k)), addK ks k)
      rw [this]
theorem runL_GR {ins ins' : List Int} {f g : Nat → Int} {inp idx : Int} (hf : ∀ q, small (f q)) : ∀ {ops : List QO} {xs : List Int} {ks : List QK}, (∀ o ∈ ops, OpOk inp idx o) → (∀ x ∈ xs, small x) →
    (runL (GR ins f) idx ops xs ks).1 = (runL (GV ins f) idx ops xs ()).1 ∧ (∀ x ∈ ks, x ∈ (runL (GR ins f) idx ops xs ks).2) ∧ (∀ x ∈ (runL (GR ins f) idx ops xs ks).2, x ∈ ks ∨ KeyIn inp idx x) ∧
      ((∀ k ∈ (runL (GR ins f) idx ops xs ks).2, kvalOf ins f k = kvalOf ins' g k) → runL (GR ins' g) idx ops xs ks = runL (GR ins f) idx ops xs ks) := by
  intro ops
  induction ops with
  | nil => intro xs ks _ _; exact ⟨rfl, fun x h => h, fun x h => Or.inl h, fun _ => rfl⟩
  | cons o r ih =>
    intro xs ks ho hx
    obtain ⟨s1, s2, s3, s4⟩ := step1_GR (ins := ins) (ins' := ins') (f := f) (g := g) (xs := xs) (ks := ks) (ho o (by simp)) hx
    unfold runL
    cases hA : step1 (GR ins f) idx o xs ks with
    | mk a ks1 =>
      cases hB : step1 (GV ins f) idx o xs () with
      | mk b u =>
        rw [hA, hB] at s1
        simp only at s1
        subst s1
        rw [hA] at s2 s3 s4
        cases a with
        | error e => cases e
        | ok ys =>
          have hys := step1_small (GR_small hf inp idx) (ho o (by simp)) hx hA
          obtain ⟨i1, i2, i3, i4⟩ := ih (xs := ys) (ks := ks1) (fun o' h' => ho o' (by simp [h'])) hys
          refine ⟨i1, fun x h => i2 x (s2 x h), fun x h => ?_, fun h => ?_⟩
          · rcases i3 x h with h | h
            · exact s3 x h
            · exact Or.inr h
          · simp only at h
            rw [s4 (fun k hk => h k (i2 k hk))]
            exact i4 h
/-- the keys that a query reads, in the order of their first use -/
def reads (p : Prg) (ins : List Int) (q : Nat) : List QK := (runR (GR ins (val p ins)) q (p.qs.getD q []) []).2
theorem runR_snd {ε σ : Type} (G : σ → QK → Except ε Int × σ) (idx : Int) (ops : List QO) (s : σ) : (runR G idx ops s).2 = (runL G idx ops [] s).2 := by
  unfold runR
  cases runL G idx ops [] s with
  | mk a b => cases a <;> rfl
theorem reads_eq (p : Prg) (ins : List Int) (q : Nat) : reads p ins q = (runL (GR ins (val p ins)) q (p.qs.getD q []) [] []).2 := runR_snd _ _ _ _
theorem reads_in {p : Prg} (hp : PrgOk p) (ins : List Int) (q : Nat) (hq : q < p.qs.length) : ∀ k ∈ reads p ins q, KeyIn p.inp q k := by
  intro k hk
  rw [reads_eq] at hk
  obtain ⟨_, _, h, _⟩ := runL_GR (ins := ins) (ins' := ins) (f := val p ins) (g := val p ins) (ks := []) (val_small p ins) (hp.qs q hq).each (xs := []) (by simp)
  rcases h k hk with h | h
  · simp at h
  · exact h
theorem runR_GR {p : Prg} (hp : PrgOk p) (ins : List Int) (q : Nat) (hq : q < p.qs.length) : runR (GR ins (val p ins)) q (p.qs.getD q []) [] = (.ok (val p ins q), reads p ins q) := by
  obtain ⟨h1, _⟩ := runL_GR (ins := ins) (ins' := ins) (f := val p ins) (g := val p ins) (ks := []) (val_small p ins) (hp.qs q hq).each (xs := []) (by simp)
  have hv := runR_val hp ins q hq
  have h2 := reads_eq p ins q
  unfold runR at hv ⊢
  rw [h2]
  cases hA : runL (GR ins (val p ins)) q (p.qs.getD q []) [] [] with
  | mk a ks =>
    cases hB : runL (GV ins (val p ins)) q (p.qs.getD q []) [] () with
    | mk b u =>
      rw [hA, hB] at h1
      rw [hB] at hv
      simp only at h1
      subst h1
      cases a with
      | error e => cases e
      | ok xs =>
        simp only [Prod.mk.injEq] at hv ⊢
        exact ⟨hv.1, trivial⟩
/-- no key that is read, directly or through queries, has turned -/
theorem unread {p : Prg} (hp : PrgOk p) {ins ins' : List Int} {i : Nat} {P : Nat → Prop} (hP : ∀ x, P x → x < p.qs.length ∧ ∀ k ∈ reads p ins x, k ≠ (0, (i : Int), 0) ∧ (k.1 = 1 → P k.2.1.toNat))
    (h : ∀ j, j ≠ i → ins.getD j 0 = ins'.getD j 0) : ∀ n x, x < n → P x → val p ins x = val p ins' x ∧ reads p ins x = reads p ins' x := by
  intro n
  induction n with
  | zero => intro x hx; omega
  | succ n ih =>
    intro x hx hPx
    obtain ⟨hxl, hks⟩ := hP x hPx
    have hsame : ∀ k ∈ reads p ins x, kvalOf ins (val p ins) k = kvalOf ins' (val p ins') k := by
      intro k hk
      obtain ⟨hne, hq⟩ := hks k hk
      unfold kvalOf
      rcases reads_in hp ins x hxl k hk with ⟨h0, h1, h2, h3⟩ | ⟨h0, h1, h2, h3⟩
      · rw [if_pos h0, if_pos h0, h]
        intro e
        apply hne
        obtain ⟨a, b, c⟩ := k
        simp only at h0 h1 h2 h3 e
        have : b = (i : Int) := by omega
        rw [h0, this, h3]
      · rw [if_neg (by omega), if_neg (by omega)]
        exact (ih _ (by omega) (hq h0)).1
    obtain ⟨_, _, _, h4⟩ := runL_GR (ins := ins) (ins' := ins') (f := val p ins) (g := val p ins') (ks := []) (val_small p ins) (hp.qs x hxl).each (xs := []) (by simp)
    have hrun := h4 (by rw [← reads_eq]; exact hsame)
    have hR : runR (GR ins' (val p ins')) x (p.qs.getD x []) [] = runR (GR ins (val p ins)) x (p.qs.getD x []) [] := by
      unfold runR
      rw [hrun]
    rw [runR_GR hp ins x hxl, runR_GR hp ins' x hxl] at hR
    simp only [Prod.mk.injEq, Except.ok.injEq] at hR
    exact ⟨hR.1.symm, hR.2.symm⟩
end Go.Proofs.Ytdeodcomlakpaaa
