/- Plain law of query programs: what run computes with whatever get. No program in sight. -/
import Derived.Test.YtggiddhhbilcjaaMem
namespace Go.Proofs.Ytggiddhhbilcjaa
set_option linter.unusedVariables false
abbrev QK := I3
abbrev QO := I3
def red (n : Int) : Int := n % 1000003
theorem red_bd (n : Int) : 0 ≤ red n ∧ red n < 1000003 := ⟨Int.emod_nonneg _ (by decide), Int.emod_lt_of_pos _ (by decide)⟩
theorem red_id {n : Int} (h : 0 ≤ n ∧ n < 1000003) : red n = n := Int.emod_eq_of_lt h.1 h.2
theorem red_red (n : Int) : red (red n) = red n := red_id (red_bd n)
/-- a binary operator -/
def binop (op x y : Int) : Int :=
  if op = 6 then red (x + y) else if op = 7 then red (x - y) else if op = 8 then red (x * y) else if op = 9 then min x y else if op = 10 then max x y else if x < y then 1 else 0
theorem binop_bd {op x y : Int} (hx : 0 ≤ x ∧ x < 1000003) (hy : 0 ≤ y ∧ y < 1000003) : 0 ≤ binop op x y ∧ binop op x y < 1000003 := by
  unfold binop
  split
  · exact red_bd _
  · split
    · exact red_bd _
    · split
      · exact red_bd _
      · split
        · omega
        · split
          · omega
          · split <;> omega
/-- the key that an instruction reads; n: what it has popped -/
def opKey (o : QO) (idx n : Int) : Option QK :=
  if o.1 = 2 then some (0, o.2.1, 0) else if o.1 = 3 then some (1, o.2.1, 0) else if o.1 = 4 then some (1, n % idx, 0) else if o.1 = 5 then some (1, if n = 0 then o.2.2 else o.2.1, 0) else none
def pops (o : QO) : Nat := if o.1 = 4 ∨ o.1 = 5 then 1 else if o.1 = 1 ∨ o.1 = 2 ∨ o.1 = 3 then 0 else 2
/-- an instruction that may stand in query idx -/
def OpOk (inp idx : Int) (o : QO) : Prop :=
  (1 ≤ o.1 ∧ o.1 < 12) ∧ (o.1 = 1 → o.2.2 = 0) ∧ (o.1 = 2 → o.2.2 = 0 ∧ 0 ≤ o.2.1 ∧ o.2.1 < inp) ∧ (o.1 = 3 → o.2.2 = 0 ∧ 0 ≤ o.2.1 ∧ o.2.1 < idx) ∧ (o.1 = 4 → o.2.1 = 0 ∧ o.2.2 = 0 ∧ 0 < idx) ∧
    (o.1 = 5 → (0 ≤ o.2.1 ∧ o.2.1 < idx) ∧ 0 ≤ o.2.2 ∧ o.2.2 < idx) ∧ (6 ≤ o.1 → o.2.1 = 0 ∧ o.2.2 = 0)
/-- the stack's height behind the instructions -/
def dep : List QO → Nat → Option Nat
  | [], d => some d
  | o :: r, d => if d < pops o then none else dep r (d + 1 - pops o)
structure QueryOk (inp idx : Int) (ops : List QO) : Prop where
  size : ops.length ≤ 20
  each : ∀ o ∈ ops, OpOk inp idx o
  dep : dep ops 0 = some 1
structure Prg where
  inp : Int
  qs : List (List QO)
structure PrgOk (p : Prg) : Prop where
  inp : 0 ≤ p.inp ∧ p.inp ≤ 40
  size : p.qs.length ≤ 40
  qs : ∀ i, i < p.qs.length → QueryOk p.inp i (p.qs.getD i [])
/-- a key that query idx may read -/
def KeyIn (inp idx : Int) (k : QK) : Prop := (k.1 = 0 ∧ 0 ≤ k.2.1 ∧ k.2.1 < inp ∧ k.2.2 = 0) ∨ (k.1 = 1 ∧ 0 ≤ k.2.1 ∧ k.2.1 < idx ∧ k.2.2 = 0)
theorem opKey_in {inp idx : Int} {o : QO} (h : OpOk inp idx o) {n : Int} (hn : 0 ≤ n) {k : QK} (hk : opKey o idx n = some k) : KeyIn inp idx k := by
  obtain ⟨h0, h1, h2, h3, h4, h5, h6⟩ := h
  unfold opKey at hk
  split at hk
  · rename_i e; cases hk; exact Or.inl ⟨rfl, (h2 e).2.1, (h2 e).2.2, rfl⟩
  · split at hk
    · rename_i e; cases hk; exact Or.inr ⟨rfl, (h3 e).2.1, (h3 e).2.2, rfl⟩
    · split at hk
      · rename_i e
        cases hk
        obtain ⟨_, _, hi⟩ := h4 e
        exact Or.inr ⟨rfl, Int.emod_nonneg _ (by omega), Int.emod_lt_of_pos _ hi, rfl⟩
      · split at hk
        · rename_i e
          cases hk
          obtain ⟨ha, hb⟩ := h5 e
          exact Or.inr ⟨rfl, by show (0 : Int) ≤ if n = 0 then o.2.2 else o.2.1; split <;> omega, by show (if n = 0 then o.2.2 else o.2.1) < idx; split <;> omega, rfl⟩
        · cases hk
section
variable {ε σ : Type} (G : σ → QK → Except ε Int × σ)
/-- what one instruction does -/
def step1 (idx : Int) (o : QO) (xs : List Int) (s : σ) : Except ε (List Int) × σ :=
  let n := if o.1 = 4 ∨ o.1 = 5 then xs.getLastD 0 else 0
  let ys := if o.1 = 4 ∨ o.1 = 5 then xs.dropLast else xs
  match opKey o idx n with
  | some k => ((G s k).1.map fun v => ys ++ [v], (G s k).2)
  | none => if o.1 = 1 then (.ok (ys ++ [red o.2.1]), s) else (.ok (ys.dropLast.dropLast ++ [binop o.1 (ys.dropLast.getLastD 0) (ys.getLastD 0)]), s)
def runL (idx : Int) : List QO → List Int → σ → Except ε (List Int) × σ
  | [], xs, s => (.ok xs, s)
  | o :: r, xs, s => match step1 G idx o xs s with
    | (.ok ys, s') => runL idx r ys s'
    | (.error e, s') => (.error e, s')
def runR (idx : Int) (ops : List QO) (s : σ) : Except ε Int × σ := match runL G idx ops [] s with
  | (.ok xs, s') => (.ok (xs.getD 0 0), s')
  | (.error e, s') => (.error e, s')
end
def small (x : Int) : Prop := 0 ≤ x ∧ x < 1000003
/-- the final stack of a valid query has one element -/
theorem dep_runL {ε σ : Type} {G : σ → QK → Except ε Int × σ} {idx : Int} : ∀ {ops : List QO} {xs ys : List Int} {s s' : σ} {d : Nat}, dep ops xs.length = some d → runL G idx ops xs s = (.ok ys, s') → ys.length = d := by
  intro ops
  induction ops with
  | nil =>
    intro xs ys s s' d hd hr
    simp only [dep, Option.some.injEq] at hd
    simp only [runL, Prod.mk.injEq, Except.ok.injEq] at hr
    rw [← hr.1, hd]
  | cons o r ih =>
    intro xs ys s s' d hd hr
    unfold dep at hd
    split at hd
    · cases hd
    · rename_i hlt
      unfold runL at hr
      split at hr
      · rename_i zs s1 he
        refine ih (xs := zs) ?_ hr
        have : zs.length = xs.length + 1 - pops o := by
          unfold pops at hlt ⊢
          unfold step1 at he
          by_cases h45 : o.1 = 4 ∨ o.1 = 5
          · simp only [if_pos h45] at he hlt ⊢
            split at he
            · rename_i k _
              cases hg : (G s k).1 <;> simp [hg, Except.map] at he
              rw [← he.1]; simp; omega
            · rename_i hno
              rcases h45 with e | e <;> simp [opKey, e] at hno
          · simp only [if_neg h45] at he hlt ⊢
            split at he
            · rename_i k hk
              have h123 : o.1 = 1 ∨ o.1 = 2 ∨ o.1 = 3 := by
                unfold opKey at hk
                by_cases e2 : o.1 = 2
                · omega
                · by_cases e3 : o.1 = 3
                  · omega
                  · have e4 : o.1 ≠ 4 := fun e => h45 (Or.inl e)
                    have e5 : o.1 ≠ 5 := fun e => h45 (Or.inr e)
                    simp [e2, e3, e4, e5] at hk
              rw [if_pos h123]
              cases hg : (G s k).1 <;> simp [hg, Except.map] at he
              rw [← he.1]; simp
            · rename_i hno
              by_cases e1 : o.1 = 1
              · have h123 : o.1 = 1 ∨ o.1 = 2 ∨ o.1 = 3 := Or.inl e1
                rw [if_pos e1] at he
                rw [if_pos h123]
                simp only [Prod.mk.injEq, Except.ok.injEq] at he
                rw [← he.1]; simp
              · have h123 : ¬ (o.1 = 1 ∨ o.1 = 2 ∨ o.1 = 3) := by
                  rintro (e | e | e)
                  · exact e1 e
                  · simp [opKey, e] at hno
                  · simp [opKey, e] at hno
                rw [if_neg e1] at he
                rw [if_neg h123] at hlt ⊢
                simp only [Prod.mk.injEq, Except.ok.injEq] at he
                rw [← he.1]; simp; omega
        rw [this]
        exact hd
      · simp at hr
end Go.Proofs.Ytggiddhhbilcjaa
