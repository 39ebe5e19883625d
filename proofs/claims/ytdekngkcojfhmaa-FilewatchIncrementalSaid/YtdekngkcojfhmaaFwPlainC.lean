/- File events, plain: batches keep the files that exist. -/
import Derived.Test.YtdekngkcojfhmaaFwPlainB
namespace Go.Proofs.Ytdekngkcojfhmaa
set_option linter.unusedVariables false
set_option linter.unusedSimpArgs false
/-- the file p after the events -/
def rp (p : ByteArray) : Bool → List FEv → Bool
  | b, [] => b
  | b, e :: r => rp p (if e.2.1 = p then decide (e.2.2 ≠ 3) else b) r
/-- the events of the file p can occur -/
def cp (p : ByteArray) : Bool → List FEv → Prop
  | _, [] => True
  | b, e :: r => (e.2.1 = p → (b = true ↔ e.2.2 ≠ 1)) ∧ cp p (if e.2.1 = p then decide (e.2.2 ≠ 3) else b) r
theorem rp_app (p : ByteArray) : ∀ (L M : List FEv) (b : Bool), rp p b (L ++ M) = rp p (rp p b L) M := by
  intro L
  induction L with
  | nil => intro M b; rfl
  | cons e L ih => intro M b; simp only [List.cons_append, rp, ih]
theorem cp_app (p : ByteArray) : ∀ (L M : List FEv) (b : Bool), cp p b (L ++ M) ↔ cp p b L ∧ cp p (rp p b L) M := by
  intro L
  induction L with
  | nil => intro M b; simp [cp, rp]
  | cons e L ih => intro M b; simp only [List.cons_append, cp, rp, ih, and_assoc]
def Vk (E : List FEv) : Prop := ∀ e ∈ E, 1 ≤ e.2.2 ∧ e.2.2 ≤ 3
theorem kof_cases (p : ByteArray) (b : Bool) (G : List FEv) : Vk G → cp p b G →
    (kof G p = 0 ∧ rp p b G = b) ∨ (kof G p = 1 ∧ b = false ∧ rp p b G = true) ∨ (kof G p = 2 ∧ b = true ∧ rp p b G = true) ∨ (kof G p = 3 ∧ b = true ∧ rp p b G = false) := by
  refine snocInd (p := fun G => Vk G → cp p b G → (kof G p = 0 ∧ rp p b G = b) ∨ (kof G p = 1 ∧ b = false ∧ rp p b G = true) ∨ (kof G p = 2 ∧ b = true ∧ rp p b G = true) ∨ (kof G p = 3 ∧ b = true ∧ rp p b G = false)) ?_ ?_ G
  · intro _ _; exact Or.inl ⟨rfl, rfl⟩
  · intro G x ih hv hc
    have hvx := hv x (by simp)
    rw [cp_app] at hc
    have h := ih (fun e he => hv e (by simp [he])) hc.1
    have hx := hc.2
    rw [kof_snoc, rp_app]
    simp only [cp, rp, and_true] at hx ⊢
    by_cases hp : x.2.1 = p
    · simp only [if_pos hp] at hx ⊢
      have hx := hx hp
      have h3 : x.2.2 = 1 ∨ x.2.2 = 2 ∨ x.2.2 = 3 := by omega
      rcases h3 with h3 | h3 | h3 <;> rcases h with ⟨h1, h2⟩ | ⟨h1, h4, h2⟩ | ⟨h1, h4, h2⟩ | ⟨h1, h4, h2⟩ <;> rw [h3] at hx <;> rw [h2] at hx <;> rw [h1, h3] <;> simp [mrg, vk] at hx ⊢ <;> simp_all
    · simp only [if_neg hp] at hx ⊢
      exact h
theorem one_path (p : ByteArray) (b : Bool) : ∀ L : List FEv, (L.Pairwise fun x y => bl x.2.1 < bl y.2.1) →
    ((∀ e ∈ L, e.2.1 ≠ p) → rp p b L = b ∧ cp p b L) ∧ (∀ e ∈ L, e.2.1 = p → rp p b L = decide (e.2.2 ≠ 3) ∧ (cp p b L ↔ (b = true ↔ e.2.2 ≠ 1))) := by
  intro L
  have none : ∀ (b : Bool) (L : List FEv), (∀ e ∈ L, e.2.1 ≠ p) → rp p b L = b ∧ cp p b L := by
    intro b L
    induction L generalizing b with
    | nil => intro _; exact ⟨rfl, trivial⟩
    | cons e L ih =>
      intro h
      have he := h e (by simp)
      obtain ⟨h1, h2⟩ := ih b (fun e' he' => h e' (by simp [he']))
      unfold rp cp
      rw [if_neg he]
      exact ⟨h1, fun h => absurd h he, h2⟩
  intro hL
  refine ⟨none b L, ?_⟩
  induction L with
  | nil => intro e he; simp at he
  | cons x L ih =>
    intro e he hep
    obtain ⟨h1, h2⟩ := List.pairwise_cons.1 hL
    unfold rp cp
    by_cases hx : x.2.1 = p
    · have hne : ∀ e ∈ L, e.2.1 ≠ p := by
        intro e' he' h
        have := h1 e' he'
        rw [hx, h] at this
        exact absurd this (List.lt_irrefl _)
      have hex : e = x := by
        rcases List.mem_cons.1 he with h | h
        · exact h
        · exact absurd hep (hne e h)
      subst hex
      rw [if_pos hx]
      obtain ⟨h3, h4⟩ := none (decide (e.2.2 ≠ 3)) L hne
      exact ⟨h3, ⟨fun h => h.1 hx, fun h => ⟨fun _ => h, h4⟩⟩⟩
    · rw [if_neg hx]
      have heL : e ∈ L := by
        rcases List.mem_cons.1 he with h | h
        · subst h; exact absurd hep hx
        · exact h
      obtain ⟨h3, h4⟩ := ih h2 e heL hep
      exact ⟨h3, ⟨fun h => h4.1 h.2, fun h => ⟨fun h' => absurd h' hx, h4.2 h⟩⟩⟩
theorem nb_keeps (p : ByteArray) (b : Bool) (G : List FEv) (hv : Vk G) (hc : cp p b G) : rp p b (nbE G) = rp p b G ∧ cp p b (nbE G) := by
  have hk := kof_cases p b G hv hc
  obtain ⟨o1, o2⟩ := one_path p b (nbE G) (nb_sorted G)
  obtain ⟨g1, g2⟩ := mgd_get G p
  cases ha : aget (mgd G) p with
  | none =>
    have h0 := (g2 ha).1
    have hn : ∀ e ∈ nbE G, e.2.1 ≠ p := by
      intro e he h
      have := ((nb_mem G e).1 he).1
      rw [h, ha] at this; exact absurd this (by simp)
    obtain ⟨h1, h2⟩ := o1 hn
    refine ⟨h1.trans ?_, h2⟩
    rcases hk with hk | hk | hk | hk
    · exact hk.2.symm
    all_goals (rw [h0] at hk; exact absurd hk.1 (by omega))
  | some e =>
    obtain ⟨e1, e2, _⟩ := g1 e ha
    by_cases h0 : e.2.2 = 0
    · have hn : ∀ e ∈ nbE G, e.2.1 ≠ p := by
        intro e' he h
        obtain ⟨h1, h2⟩ := (nb_mem G e').1 he
        rw [h, ha, Option.some.injEq] at h1
        rw [← h1] at h2; exact h2 h0
      obtain ⟨h1, h2⟩ := o1 hn
      refine ⟨h1.trans ?_, h2⟩
      rw [← e2] at hk
      rcases hk with hk | hk | hk | hk
      · exact hk.2.symm
      all_goals (rw [h0] at hk; exact absurd hk.1 (by omega))
    · have hm : e ∈ nbE G := (nb_mem G e).2 ⟨by rw [e1]; exact ha, h0⟩
      obtain ⟨h1, h2⟩ := o2 e hm e1
      rw [h1, h2]
      rw [← e2] at hk
      rcases hk with hk | hk | hk | hk
      · exact absurd hk.1 h0
      · rw [hk.2.2, hk.1, hk.2.1]; simp
      · rw [hk.2.2, hk.1, hk.2.1]; simp
      · rw [hk.2.2, hk.1, hk.2.1]; simp
theorem bat_keeps (p : ByteArray) (d : Int) : ∀ (rest G : List FEv) (b : Bool), (rest = [] → G = []) → Vk (G ++ rest) → cp p b (G ++ rest) →
    rp p b ((bat d G rest).flatMap (·.2)) = rp p b (G ++ rest) ∧ cp p b ((bat d G rest).flatMap (·.2)) := by
  intro rest
  induction rest with
  | nil => intro G b hG _ _; rw [hG rfl]; exact ⟨rfl, trivial⟩
  | cons x rest ih =>
    intro G b _ hv hc
    unfold bat
    split
    · rename_i h
      have := ih (G ++ [x]) b (fun hr => by rw [hr] at h; exact absurd rfl h.1) (by simpa using hv) (by simpa using hc)
      simpa using this
    · have e0 : G ++ x :: rest = (G ++ [x]) ++ rest := by simp
      rw [e0] at hv hc ⊢
      rw [cp_app] at hc
      have hg : ∀ b' : Bool, ((if nbE (G ++ [x]) = [] then [] else [(x.1 + d, nbE (G ++ [x]))]).flatMap (·.2)) = nbE (G ++ [x]) := by
        intro _; split
        · rename_i h; rw [h]; rfl
        · simp
      obtain ⟨h1, h2⟩ := nb_keeps p b (G ++ [x]) (fun e he => hv e (List.mem_append.2 (Or.inl he))) hc.1
      obtain ⟨h3, h4⟩ := ih [] (rp p b (G ++ [x])) (fun _ => rfl) (fun e he => hv e (List.mem_append.2 (Or.inr (by simpa using he)))) (by simpa using hc.2)
      rw [List.flatMap_append, hg b, rp_app, cp_app, rp_app, h1]
      exact ⟨by simpa using h3, h2, h4⟩
end Go.Proofs.Ytdekngkcojfhmaa
