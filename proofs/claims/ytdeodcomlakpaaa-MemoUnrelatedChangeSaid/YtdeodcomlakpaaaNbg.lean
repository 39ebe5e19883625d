/- An unrelated change (plain): a run that forgets nothing; the calls. -/
import Derived.Test.YtdeodcomlakpaaaNbf
import Derived.Test.YtdeodcomlakpaaaGn
namespace Go.Proofs.Ytdeodcomlakpaaa
open Go.RowKit
set_option linter.unusedVariables false
set_option linter.unusedSimpArgs false
variable {p : Prg}
structure RunQ (p : Prg) (n : Nat) (s : PS) (ins : List Int) : Prop where
  run : RunP p n s ins
  two : ∃ H, Inv p H s ∧ Inv2 p H s
theorem RunQ.mono {n n' : Nat} {s : PS} {ins : List Int} (h : RunQ p n s ins) (hn : n ≤ n') : RunQ p n' s ins := ⟨h.run.mono hn, h.two⟩
theorem RunQ.empty (p : Prg) : RunQ p 0 PS.empty (List.replicate p.inp.toNat 0) := by
  have hn : ∀ k r, aget PS.empty.es k = some r → False := fun k r h => by simp [PS.empty, aget_nil] at h
  exact ⟨RunP.empty p, _, Inv.empty p, ⟨fun q r hr => (hn _ _ hr).elim, fun q r q' r' hr => (hn _ _ hr).elim, fun q r q' r' hr => (hn _ _ hr).elim, fun v k h _ => h, fun q r hr => (hn _ _ hr).elim, Int.le_refl _⟩⟩
theorem Cl.old {H H' : Hist} {m : Int} (hH : ∀ v, v ≤ m → H' v = H v) {q : Nat} {v v' : Int} (hv : v' ≤ m) : Cl p H q v v' ↔ Cl p H' q v v' := by
  by_cases h : v ≤ v'
  · have e : insH p H' v = insH p H v := by unfold insH; rw [hH v (by omega)]
    unfold Cl
    rw [e]
    constructor
    · intro hc k h0 ht u h1 h2
      rw [hH u (by omega), hH v (by omega)]
      exact hc k h0 ht u h1 h2
    · intro hc k h0 ht u h1 h2
      have := hc k h0 ht u h1 h2
      rw [hH u (by omega), hH v (by omega)] at this
      exact this
  · exact ⟨fun _ => Cl.now (by omega), fun _ => Cl.now (by omega)⟩
/-- a change, and what it leaves -/
theorem set_two {H : Hist} {s : PS} (hI : Inv p H s) (h2 : Inv2 p H s) (k : QK) (xs : List Int) (du : Int) (hdu : 0 ≤ du ∧ du < 3) :
    ∃ H', Inv p H' (setP s k xs du) ∧ Inv2 p H' (setP s k xs du) ∧ (∀ v, v ≤ s.rev → H' v = H v) ∧ (setP s k xs du).es = s.es ∧ (setP s k xs du).cnt = s.cnt ∧ ((setP s k xs du).rev = s.rev ∨ (setP s k xs du).rev = s.rev + 1) ∧ ∀ k', k ≠ k' → (setP s k xs du).inp k' = s.inp k' := by
  obtain ⟨H', hI', hold⟩ := hI.set k xs du hdu
  by_cases hne : (s.inp k).du = du ∧ (s.inp k).xs = xs
  · have e : setP s k xs du = s := by unfold setP; rw [if_pos hne]
    rw [e]
    exact ⟨H, hI, h2, fun _ _ => rfl, rfl, rfl, .inl rfl, fun _ _ => rfl⟩
  · have hin := inp_set (xs := xs) (du := du) hne
    obtain ⟨e1, e2, e3⟩ : (setP s k xs du).es = s.es ∧ (setP s k xs du).cnt = s.cnt ∧ (setP s k xs du).rev = s.rev + 1 := by
      unfold setP; rw [if_neg hne]; exact ⟨rfl, rfl, rfl⟩
    have hr0 := h2.rev
    refine ⟨H', hI', ⟨fun q r hr q' hm => ?_, fun q r q' r' hr hm hr' => ?_, fun q r q' r' hr hm hr' hc => ?_, fun v k' h0 hv => ?_, fun q r hr => ?_, by omega⟩, hold, e1, e2, .inr e3, fun k' hk => by rw [hin, if_neg hk]⟩
    · rw [e1] at hr ⊢; exact h2.a q r hr q' hm
    · rw [e1] at hr hr'
      have := (hI.res q r hr).ver
      exact (Cl.old hold this).1 (h2.b q r q' r' hr hm hr')
    · rw [e1] at hr hr'
      rw [e3] at hc
      refine h2.c q r q' r' hr hm hr' ((Cl.old hold (Int.le_refl _)).2 fun x hx ht u a1 a2 => hc x hx ht u a1 (by omega))
    · rw [e3] at hv
      by_cases hv' : v ≤ s.rev
      · rw [hold v hv']; exact h2.d v k' h0 hv'
      · have ev : v = (setP s k xs du).rev := by omega
        rw [ev, hI'.hist.now k', hin]
        split
        · rw [e3]; exact Int.le_refl _
        · have := h2.d s.rev k' hr0 (Int.le_refl _)
          rw [hI.hist.now k'] at this
          omega
    · rw [e1] at hr; exact h2.ver q r hr
theorem RunQ.set {n : Nat} {s : PS} {ins : List Int} (h : RunQ p n s ins) (i : Nat) (v du : Int) (hi : (i : Int) < p.inp) (hl : (ins.length : Int) = p.inp) (hdu : 0 ≤ du ∧ du < 3) : RunQ p (n + 1) (setP s (0, (i : Int), 0) [v] du) (ins.set i v) := by
  obtain ⟨H, hI, h2⟩ := h.two
  obtain ⟨H', hI', h2', _⟩ := set_two hI h2 (0, (i : Int), 0) [v] du hdu
  exact ⟨h.run.set i v du hi hl hdu, H', hI', h2'⟩
/-- what an evaluation leaves -/
theorem upq_two (hp : PrgOk p) {n : Nat} {s : PS} {ins : List Int} (h : RunP p n s ins) {H : Hist} (hI : Inv p H s) {q : Nat} (hq : q < p.qs.length) {s' : PS} (hu : upQ p (fun _ => false) s (qk q) = (.ok (), s')) : Inv p H s'.idle ∧ Keeps2 p H s q s' := by
  have hst := ((big_UI (H := H) (ins := insH p H s.rev) (stp := fun _ => false) hp p.qs.length) s q hq hq hI rfl (idl_none h.act _)).1 s' hu
  refine ⟨?_, keeps2 hp _ s q s' hst⟩
  obtain ⟨x, s2, e, _, hinv, _⟩ := untilI hp hI h.act (fun _ => false) hq
  have e2 := hu.symm.trans e
  simp only [Prod.mk.injEq] at e2
  rw [e2.2]
  exact hinv
theorem RunQ.got (hp : PrgOk p) {n : Nat} {s : PS} {ins : List Int} (h : RunQ p n s ins) (hn : n ≤ 1000) {q : Nat} (hq : q < p.qs.length) :
    ∃ s' r, upQ p (fun _ => false) s (qk q) = (.ok (), s') ∧ s'.res (qk q) = r ∧ Fresh p s'.idle ins q r ∧ RunQ p (n + 1) s'.idle ins := by
  obtain ⟨s', r, h1, h2, h3, h4⟩ := h.run.got hp hn hq
  obtain ⟨H, hI, hT⟩ := h.two
  obtain ⟨k1, k2⟩ := upq_two hp h.run hI hq h1
  exact ⟨s', r, h1, h2, h3, h4, H, k1, (k2 hT).1.idle⟩
/-- a change of an input that the query does not read -/
theorem RunQ.quiet (hp : PrgOk p) {n : Nat} {s : PS} {ins : List Int} (h : RunQ p n s ins) (hn : n ≤ 900) {q : Nat} (hq : q < p.qs.length) {r : RV} (hf : Fresh p s ins q r) (i : Nat) (v du : Int) (hi : (i : Int) < p.inp) (hl : (ins.length : Int) = p.inp) (hdu : 0 ≤ du ∧ du < 3)
    (hP : ∃ P : Nat → Prop, P q ∧ ∀ x, P x → x < p.qs.length ∧ ∀ k ∈ reads p ins x, k ≠ (0, (i : Int), 0) ∧ (k.1 = 1 → P k.2.1.toNat)) :
    ∃ s' r', upQ p (fun _ => false) (setP s (0, (i : Int), 0) [v] du) (qk q) = (.ok (), s') ∧ s'.res (qk q) = r' ∧ r'.xs = [val p ins q] ∧ s'.cnt = s.cnt := by
  obtain ⟨P, hPq, hcl⟩ := hP
  obtain ⟨H, hI, h2⟩ := h.two
  obtain ⟨H', hI', h2', hold, e1, e2, e3, e4⟩ := set_two hI h2 (0, (i : Int), 0) [v] du hdu
  have hs := h.run.set i v du hi hl hdu
  obtain ⟨s', r', h1, h3, h5, h6⟩ := hs.got hp (by omega) hq
  obtain ⟨_, k2⟩ := upq_two hp hs hI' hq h1
  have hr : aget (setP s (0, (i : Int), 0) [v] du).es (qk q) = some r := by rw [e1]; exact hf.get
  have hno : ∀ x k, TR p (insH p H s.rev) x k → P x → k ≠ (0, (i : Int), 0) := by
    intro x k ht
    induction ht with
    | @base x k hm =>
      intro hx
      obtain ⟨a1, a2⟩ := hcl x hx
      rw [(val_now hp hI h.run.inp a1).2] at hm
      exact (a2 k hm).1
    | @step x x' k hm ht ih =>
      intro hx
      obtain ⟨a1, a2⟩ := hcl x hx
      rw [(val_now hp hI h.run.inp a1).2] at hm
      have := (a2 _ hm).2 rfl
      exact ih (by simpa using this)
  have hn := (k2 h2').2 r hr (fun k h0 ht u u1 u2 => by
    have hv := hf.ver
    have ei : insH p H' r.ver = insH p H s.rev := by unfold insH; rw [hold r.ver (by omega), hv]
    rw [ei] at ht
    have hk := hno q k ht hPq
    by_cases hu : u ≤ s.rev
    · rw [show u = r.ver by omega]
    · rw [show u = (setP s (0, (i : Int), 0) [v] du).rev by omega, hI'.hist.now k, e4 k (Ne.symm hk), hold r.ver (by omega), hv, hI.hist.now k])
  obtain ⟨r2, b1, b2, b3, _⟩ := hn.es _ r hr
  refine ⟨s', r', h1, h3, ?_, hn.cnt.trans e2⟩
  have : r' = r2 := by rw [← h3]; exact res_get b1
  rw [this, b3, hf.xs]
end Go.Proofs.Ytdeodcomlakpaaa
