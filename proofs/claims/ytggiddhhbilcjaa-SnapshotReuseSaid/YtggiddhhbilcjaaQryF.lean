/- The value of a query; the evaluator's memory. -/
import Derived.Test.YtggiddhhbilcjaaQryB
import Derived.Test.YtggiddhhbilcjaaQryE
namespace Go.Proofs.Ytggiddhhbilcjaa
open Go.RowKit Go.ChangeMaps Go.MapKept
set_option linter.unusedVariables false
/-! ### plain -/
section
variable {ε σ : Type} {G G' : σ → QK → Except ε Int × σ}
theorem small0 : small 0 := ⟨by decide, by decide⟩
theorem small_last {xs : List Int} (h : ∀ x ∈ xs, small x) : small (xs.getLastD 0) := by
  rcases List.eq_nil_or_concat xs with rfl | ⟨l, a, rfl⟩
  · exact small0
  · rw [List.concat_eq_append] at h ⊢
    simpa using h a (by simp)
theorem small_drop {xs : List Int} (h : ∀ x ∈ xs, small x) : ∀ x ∈ xs.dropLast, small x := fun x hx => h x (List.dropLast_subset xs hx)
/-- get answers small numbers to the keys that may be asked -/
def GSmall (G : σ → QK → Except ε Int × σ) (inp idx : Int) : Prop := ∀ s k n, KeyIn inp idx k → (G s k).1 = .ok n → small n
theorem step1_small {inp idx : Int} {o : QO} {xs zs : List Int} {s s' : σ} (hG : GSmall G inp idx) (ho : OpOk inp idx o) (hx : ∀ x ∈ xs, small x) (h : step1 G idx o xs s = (.ok zs, s')) : ∀ x ∈ zs, small x := by
  unfold step1 at h
  have hn : 0 ≤ (if o.1 = 4 ∨ o.1 = 5 then xs.getLastD 0 else 0) := by
    split
    · exact (small_last hx).1
    · omega
  have hy : ∀ x ∈ (if o.1 = 4 ∨ o.1 = 5 then xs.dropLast else xs), small x := by
    split
    · exact small_drop hx
    · exact hx
  simp only at h
  generalize (if o.1 = 4 ∨ o.1 = 5 then xs.getLastD 0 else 0) = n at h hn
  generalize (if o.1 = 4 ∨ o.1 = 5 then xs.dropLast else xs) = ys at h hy
  split at h
  · rename_i k hk
    cases hg : (G s k).1 with
    | error e => simp [hg, Except.map] at h
    | ok v =>
      simp only [hg, Except.map, Prod.mk.injEq, Except.ok.injEq] at h
      rw [← h.1]
      intro x hx
      rcases List.mem_append.1 hx with hx | hx
      · exact hy x hx
      · rw [List.mem_singleton.1 hx]
        exact hG s k v (opKey_in ho hn hk) hg
  · split at h
    · simp only [Prod.mk.injEq, Except.ok.injEq] at h
      rw [← h.1]
      intro x hx
      rcases List.mem_append.1 hx with hx | hx
      · exact hy x hx
      · rw [List.mem_singleton.1 hx]
        exact red_bd _
    · simp only [Prod.mk.injEq, Except.ok.injEq] at h
      rw [← h.1]
      intro x hx
      rcases List.mem_append.1 hx with hx | hx
      · exact small_drop (small_drop hy) x hx
      · rw [List.mem_singleton.1 hx]
        exact binop_bd (small_last (small_drop hy)) (small_last hy)
theorem step1_congr {inp idx : Int} {o : QO} {xs : List Int} {s : σ} (hGG : ∀ s k, KeyIn inp idx k → G s k = G' s k) (ho : OpOk inp idx o) (hx : ∀ x ∈ xs, small x) : step1 G idx o xs s = step1 G' idx o xs s := by
  unfold step1
  have hn : 0 ≤ (if o.1 = 4 ∨ o.1 = 5 then xs.getLastD 0 else 0) := by
    split
    · exact (small_last hx).1
    · omega
  simp only
  generalize (if o.1 = 4 ∨ o.1 = 5 then xs.getLastD 0 else 0) = n at hn ⊢
  generalize (if o.1 = 4 ∨ o.1 = 5 then xs.dropLast else xs) = ys
  cases hk : opKey o idx n with
  | none => rfl
  | some k =>
    show (Except.map _ (G s k).1, (G s k).2) = (Except.map _ (G' s k).1, (G' s k).2)
    rw [hGG s k (opKey_in ho hn hk)]
theorem runL_small {inp idx : Int} (hG : GSmall G inp idx) : ∀ {ops : List QO} {xs zs : List Int} {s s' : σ}, (∀ o ∈ ops, OpOk inp idx o) → (∀ x ∈ xs, small x) → runL G idx ops xs s = (.ok zs, s') → ∀ x ∈ zs, small x := by
  intro ops
  induction ops with
  | nil =>
    intro xs zs s s' _ hx he
    simp only [runL, Prod.mk.injEq, Except.ok.injEq] at he
    rw [← he.1]; exact hx
  | cons o r ih =>
    intro xs zs s s' ho hx he
    unfold runL at he
    cases h3 : step1 G idx o xs s with
    | mk c u3 =>
      rw [h3] at he
      cases c with
      | error e => simp at he
      | ok ys => exact ih (fun o' h' => ho o' (by simp [h'])) (step1_small hG (ho o (by simp)) hx h3) he
theorem runL_congr {inp idx : Int} (hG : GSmall G inp idx) (hGG : ∀ s k, KeyIn inp idx k → G s k = G' s k) : ∀ {ops : List QO} {xs : List Int} {s : σ}, (∀ o ∈ ops, OpOk inp idx o) → (∀ x ∈ xs, small x) → runL G idx ops xs s = runL G' idx ops xs s := by
  intro ops
  induction ops with
  | nil => intros; rfl
  | cons o r ih =>
    intro xs s ho hx
    unfold runL
    rw [← step1_congr hGG (ho o (by simp)) hx]
    cases h : step1 G idx o xs s with
    | mk a s' =>
      cases a with
      | error e => rfl
      | ok ys => exact ih (fun o' h' => ho o' (by simp [h'])) (step1_small hG (ho o (by simp)) hx h)
theorem runR_congr {inp idx : Int} {ops : List QO} {s : σ} (hG : GSmall G inp idx) (hGG : ∀ s k, KeyIn inp idx k → G s k = G' s k) (ho : ∀ o ∈ ops, OpOk inp idx o) : runR G idx ops s = runR G' idx ops s := by
  unfold runR
  rw [runL_congr hG hGG ho (by simp)]
end
/-- what the key is worth, the queries' values given by f -/
def kvalOf (ins : List Int) (f : Nat → Int) (k : QK) : Int := if k.1 = 0 then red (ins.getD k.2.1.toNat 0) else f k.2.1.toNat
def GV (ins : List Int) (f : Nat → Int) (s : Unit) (k : QK) : Except Empty Int × Unit := (.ok (kvalOf ins f k), s)
/-- a query's value, its fuel given -/
def vq (p : Prg) (ins : List Int) : Nat → Nat → Int
  | 0, _ => 0
  | n + 1, q => match (runR (GV ins (vq p ins n)) q (p.qs.getD q []) ()).1 with
    | .ok v => red v
    | .error _ => 0
/-- a query's value -/
def val (p : Prg) (ins : List Int) (q : Nat) : Int := vq p ins (q + 1) q
def kval (p : Prg) (ins : List Int) (k : QK) : Int := kvalOf ins (val p ins) k
theorem vq_small (p : Prg) (ins : List Int) (n q : Nat) : small (vq p ins n q) := by
  cases n with
  | zero => exact small0
  | succ n =>
    unfold vq
    split
    · exact red_bd _
    · exact small0
theorem kvalOf_small {ins : List Int} {f : Nat → Int} (hf : ∀ q, small (f q)) (k : QK) : small (kvalOf ins f k) := by
  unfold kvalOf
  split
  · exact red_bd _
  · exact hf _
theorem val_small (p : Prg) (ins : List Int) (q : Nat) : small (val p ins q) := vq_small p ins _ q
theorem kval_small (p : Prg) (ins : List Int) (k : QK) : small (kval p ins k) := kvalOf_small (val_small p ins) k
theorem GV_small {ins : List Int} {f : Nat → Int} (hf : ∀ q, small (f q)) (inp idx : Int) : GSmall (GV ins f) inp idx := by
  intro s k n _ h
  simp only [GV, Except.ok.injEq] at h
  rw [← h]
  exact kvalOf_small hf k
theorem GV_congr {ins : List Int} {f g : Nat → Int} {inp : Int} {idx : Nat} (h : ∀ q, q < idx → f q = g q) : ∀ s k, KeyIn inp idx k → GV ins f s k = GV ins g s k := by
  intro s k hk
  unfold GV kvalOf
  rcases hk with ⟨h0, _⟩ | ⟨h1, h2, h3, _⟩
  · rw [if_pos h0, if_pos h0]
  · rw [if_neg (by omega), if_neg (by omega), h _ (by omega)]
theorem vq_fuel {p : Prg} (hp : PrgOk p) (ins : List Int) : ∀ (n m q : Nat), q < n → q < m → q < p.qs.length → vq p ins n q = vq p ins m q := by
  intro n
  induction n with
  | zero => intro m q h; omega
  | succ n ih =>
    intro m q h1 h2 hq
    cases m with
    | zero => omega
    | succ m =>
      unfold vq
      rw [runR_congr (G' := GV ins (vq p ins m)) (inp := p.inp) (GV_small (vq_small p ins n) _ _) (GV_congr fun q' hq' => ih m q' (by omega) (by omega) (by omega)) (hp.qs q hq).each]
/-- the value: what run makes of it -/
theorem runR_val {p : Prg} (hp : PrgOk p) (ins : List Int) (q : Nat) (hq : q < p.qs.length) : runR (GV ins (val p ins)) q (p.qs.getD q []) () = (.ok (val p ins q), ()) := by
  have hc : runR (GV ins (val p ins)) q (p.qs.getD q []) () = runR (GV ins (vq p ins q)) q (p.qs.getD q []) () :=
    runR_congr (inp := p.inp) (GV_small (val_small p ins) _ _) (GV_congr fun q' hq' => vq_fuel hp ins _ _ q' (by omega) (by omega) (by omega)) (hp.qs q hq).each
  have hv : val p ins q = match (runR (GV ins (vq p ins q)) q (p.qs.getD q []) ()).1 with
    | .ok v => red v
    | .error _ => 0 := rfl
  rw [hv, hc]
  cases h : runR (GV ins (vq p ins q)) q (p.qs.getD q []) () with
  | mk a u =>
    cases a with
    | error e => cases e
    | ok v =>
      have hs : small v := by
        unfold runR at h
        cases h2 : runL (GV ins (vq p ins q)) q (p.qs.getD q []) [] () with
        | mk b u2 =>
          rw [h2] at h
          cases b with
          | error e => cases e
          | ok xs =>
            simp only [Prod.mk.injEq, Except.ok.injEq] at h
            have hall : ∀ x ∈ xs, small x := by
              exact runL_small (inp := p.inp) (GV_small (vq_small p ins q) _ _) (hp.qs q hq).each (by simp) h2
            rw [← h.1]
            cases xs with
            | nil => exact small0
            | cons x r => exact hall x (by simp)
      show (Except.ok v, u) = (Except.ok (red v), ())
      rw [red_id hs]
end Go.Proofs.Ytggiddhhbilcjaa
