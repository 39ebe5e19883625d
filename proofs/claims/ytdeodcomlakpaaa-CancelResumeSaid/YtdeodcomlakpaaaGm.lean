/- Uses and the clock (plain): bounded, distinct. -/
import Derived.Test.YtdeodcomlakpaaaGj
import Derived.Test.YtdeodcomlakpaaaGl
/- Uses and the clock (plain): bounded, distinct. -/
namespace Go.Proofs.Ytdeodcomlakpaaa
open Go.RowKit
set_option linter.unusedVariables false
set_option linter.unusedSimpArgs false
section
variable {ε σ : Type} {G : σ → QK → Except ε Int × σ} {inp idx : Int} {J : Nat → σ → Prop} {E : σ → Prop}
theorem step1_count (hG : ∀ n s k, J (n + 1) s → KeyIn inp idx k → (∃ v s', G s k = (.ok v, s') ∧ J n s') ∨ ∃ e s', G s k = (.error e, s') ∧ E s') (hm : ∀ n s, J (n + 1) s → J n s) {o : QO} {xs : List Int} {n : Nat} {s : σ} (ho : OpOk inp idx o) (hx : ∀ x ∈ xs, small x) (hs : J (n + 1) s) :
    (∃ zs s', step1 G idx o xs s = (.ok zs, s') ∧ J n s') ∨ ∃ e s', step1 G idx o xs s = (.error e, s') ∧ E s' := by
  have hn : 0 ≤ (if o.1 = 4 ∨ o.1 = 5 then xs.getLastD 0 else 0) := by
    split
    · exact (small_last hx).1
    · omega
  unfold step1
  simp only
  generalize (if o.1 = 4 ∨ o.1 = 5 then xs.getLastD 0 else 0) = m at hn ⊢
  generalize (if o.1 = 4 ∨ o.1 = 5 then xs.dropLast else xs) = ys
  cases hk : opKey o idx m with
  | none =>
    left
    simp only
    split
    · exact ⟨_, _, rfl, hm _ _ hs⟩
    · exact ⟨_, _, rfl, hm _ _ hs⟩
  | some k =>
    simp only
    rcases hG n s k hs (opKey_in ho hn hk) with ⟨v, s', h1, h2⟩ | ⟨e, s', h1, h2⟩
    · left
      rw [h1]
      exact ⟨_, _, rfl, h2⟩
    · right
      rw [h1]
      exact ⟨_, _, rfl, h2⟩
theorem runL_count (hsm : GSmall G inp idx) (hG : ∀ n s k, J (n + 1) s → KeyIn inp idx k → (∃ v s', G s k = (.ok v, s') ∧ J n s') ∨ ∃ e s', G s k = (.error e, s') ∧ E s') (hm : ∀ n s, J (n + 1) s → J n s) : ∀ {ops : List QO} {xs : List Int} {s : σ}, (∀ o ∈ ops, OpOk inp idx o) → (∀ x ∈ xs, small x) → J ops.length s →
    (∃ zs s', runL G idx ops xs s = (.ok zs, s') ∧ J 0 s') ∨ ∃ e s', runL G idx ops xs s = (.error e, s') ∧ E s' := by
  intro ops
  induction ops with
  | nil => intro xs s _ _ hs; exact Or.inl ⟨xs, s, rfl, hs⟩
  | cons o r ih =>
    intro xs s ho hx hs
    rcases step1_count hG hm (ho o (by simp)) hx (n := r.length) hs with ⟨zs, s', h1, h2⟩ | ⟨e, s', h1, h2⟩
    · have hz := step1_small hsm (ho o (by simp)) hx h1
      unfold runL
      rw [h1]
      exact ih (fun o' h' => ho o' (by simp [h'])) hz h2
    · right
      unfold runL
      rw [h1]
      exact ⟨e, s', rfl, h2⟩
end
/-- is query q up to date? -/
def upTo (s : PS) (q : Nat) : Bool := match aget s.es (1, (q : Int), 0) with
  | some r => r.ver == s.rev
  | none => false
def stale (N : Nat) (s : PS) : Nat := ((List.range N).filter fun q => !upTo s q).length
/-- what an evaluation may cost -/
def pot (N : Nat) (s : PS) : Int := s.clk + 100 * (stale N s : Int)
theorem filter_le {α : Type} {p q : α → Bool} : ∀ {l : List α}, (∀ x ∈ l, q x = true → p x = true) → (l.filter q).length ≤ (l.filter p).length := by
  intro l
  induction l with
  | nil => intro _; simp
  | cons a l ih =>
    intro h
    have := ih fun x hx => h x (by simp [hx])
    simp only [List.filter_cons]
    by_cases h1 : q a = true
    · simp [h1, h a (by simp) h1]; exact this
    · by_cases h2 : p a = true <;> simp [h1, h2] <;> omega
theorem filter_lt' {α : Type} {p q : α → Bool} : ∀ {l : List α}, (∀ x ∈ l, q x = true → p x = true) → (∃ x ∈ l, p x = true ∧ q x = false) → (l.filter q).length < (l.filter p).length := by
  intro l
  induction l with
  | nil => rintro _ ⟨x, hx, _⟩; simp at hx
  | cons a l ih =>
    intro h hx
    have hle := filter_le (l := l) (p := p) (q := q) fun x hx => h x (by simp [hx])
    simp only [List.filter_cons]
    obtain ⟨x, hm, h1, h2⟩ := hx
    rcases List.mem_cons.1 hm with rfl | hm
    · simp [h1, h2]; omega
    · have hlt := ih (fun y hy => h y (by simp [hy])) ⟨x, hm, h1, h2⟩
      by_cases h3 : q a = true
      · simp [h3, h a (by simp) h3]; exact hlt
      · by_cases h4 : p a = true <;> simp [h3, h4] <;> omega
theorem stale_mono {N : Nat} {s s' : PS} (h : ∀ q, upTo s q = true → upTo s' q = true) : stale N s' ≤ stale N s :=
  filter_le fun q _ hq => by
    cases hu : upTo s q
    · rfl
    · rw [h q hu] at hq; exact hq
theorem stale_lt {N q : Nat} {s s' : PS} (h : ∀ q, upTo s q = true → upTo s' q = true) (hq : q < N) (h1 : upTo s q = false) (h2 : upTo s' q = true) : stale N s' < stale N s :=
  filter_lt' (fun q _ hq => by
    cases hu : upTo s q
    · rfl
    · rw [h q hu] at hq; exact hq) ⟨q, by simp [hq], by rw [h1]; rfl, by rw [h2]; rfl⟩
theorem Stp.upTo {p : Prg} {H : Hist} {m : Nat} {s s' : PS} (h : Stp p H m s s') (q : Nat) (hq : upTo s q = true) : upTo s' q = true := by
  unfold Go.Proofs.Ytdeodcomlakpaaa.upTo at hq ⊢
  cases hr : aget s.es (1, (q : Int), 0) with
  | none => rw [hr] at hq; cases hq
  | some r =>
    rw [hr] at hq
    obtain ⟨r1, a1, a2, _⟩ := h.up q r hr (by simpa using hq)
    rw [a1]
    simp [a2, h.rev]
theorem stale_le (N : Nat) (s : PS) : stale N s ≤ N := by
  have h : stale N s ≤ (List.range N).length := List.length_filter_le _ _
  simpa using h
/-- uses are known, no two alike -/
structure Us (s : PS) : Prop where
  bd : ∀ k r, aget s.es k = some r → 1 ≤ r.use ∧ r.use ≤ s.clk
  inj : ∀ k k' r r', aget s.es k = some r → aget s.es k' = some r' → r.use = r'.use → k = k'
  c0 : 0 ≤ s.clk
theorem Us.same {s s' : PS} (h : Us s) (hes : s'.es = s.es) (hc : s'.clk = s.clk) : Us s' := ⟨fun k r hr => by rw [hc]; exact h.bd k r (hes ▸ hr), fun k k' r r' h1 h2 => h.inj k k' r r' (hes ▸ h1) (hes ▸ h2), by rw [hc]; exact h.c0⟩
/-- update's end: the key's use is the latest -/
theorem us_fin {s s2 : PS} {k : QK} (h : Us s) (hes : ∀ k', k' ≠ k → aget s2.es k' = aget s.es k') (hc : s2.clk = s.clk) (hcl : s.clk < 4611686018427387904) : Us (finP s2 k) ∧ (finP s2 k).clk = s.clk + 1 := by
  have hw : wrap64 (s2.clk + 1) = s.clk + 1 := by rw [hc]; have := h.c0; unfold wrap64; omega
  have hclk : (finP s2 k).clk = s.clk + 1 := hw
  have hget : ∀ k' r, aget (finP s2 k).es k' = some r → (k' = k ∧ r.use = s.clk + 1) ∨ (k' ≠ k ∧ aget s.es k' = some r) := fun k' r hr => by
    unfold finP at hr
    simp only [aget_ups] at hr
    by_cases e : k = k'
    · rw [if_pos e] at hr
      cases hr
      exact Or.inl ⟨e.symm, hw⟩
    · rw [if_neg e] at hr
      exact Or.inr ⟨Ne.symm e, (hes k' (Ne.symm e)) ▸ hr⟩
  refine ⟨⟨fun k' r hr => ?_, fun k1 k2 r1 r2 h1 h2 he => ?_, by rw [hclk]; have := h.c0; omega⟩, hclk⟩
  · rw [hclk]
    have := h.c0
    rcases hget k' r hr with ⟨_, e⟩ | ⟨_, e⟩
    · omega
    · have := h.bd k' r e; omega
  · rcases hget k1 r1 h1 with ⟨e1, u1⟩ | ⟨e1, u1⟩
    · rcases hget k2 r2 h2 with ⟨e2, u2⟩ | ⟨e2, u2⟩
      · rw [e1, e2]
      · have := h.bd k2 r2 u2; omega
    · rcases hget k2 r2 h2 with ⟨e2, u2⟩ | ⟨e2, u2⟩
      · have := h.bd k1 r1 u1; omega
      · exact h.inj k1 k2 r1 r2 u1 u2 he
end Go.Proofs.Ytdeodcomlakpaaa
/- What an evaluation costs (plain): the clock and the count stay small. -/
namespace Go.Proofs.Ytdeodcomlakpaaa
open Go.RowKit
set_option linter.unusedVariables false
set_option linter.unusedSimpArgs false
/-- the count is bounded by the clock -/
def Ct (s : PS) : Prop := 0 ≤ s.cnt ∧ s.cnt ≤ s.clk
/-- what s' has cost -/
structure Cst (N : Nat) (s s' : PS) (c : Int) : Prop where
  us : Us s'
  ct : Ct s'
  clk : s.clk ≤ s'.clk
  cnt : s.cnt ≤ s'.cnt
  pot : pot N s' ≤ pot N s + c
theorem Cst.refl {N : Nat} {s : PS} (h : Us s) (hc : Ct s) {c : Int} (h0 : 0 ≤ c) : Cst N s s c := ⟨h, hc, Int.le_refl _, Int.le_refl _, by omega⟩
theorem Cst.trans {N : Nat} {s s1 s2 : PS} {c d e : Int} (h : Cst N s s1 c) (k : Cst N s1 s2 d) (he : c + d ≤ e) : Cst N s s2 e := ⟨k.us, k.ct, Int.le_trans h.clk k.clk, Int.le_trans h.cnt k.cnt, by have := h.pot; have := k.pot; omega⟩
theorem Cst.mono {N : Nat} {s s1 : PS} {c e : Int} (h : Cst N s s1 c) (he : c ≤ e) : Cst N s s1 e := ⟨h.us, h.ct, h.clk, h.cnt, by have := h.pot; omega⟩
theorem Cst.same {N : Nat} {s s1 s2 : PS} {c : Int} (h : Cst N s s1 c) (hes : s2.es = s1.es) (hc : s2.clk = s1.clk) (hn : s2.cnt = s1.cnt) (hr : s2.rev = s1.rev) : Cst N s s2 c :=
  ⟨h.us.same hes hc, by unfold Ct; rw [hn, hc]; exact h.ct, by rw [hc]; exact h.clk, by rw [hn]; exact h.cnt, by
    have : stale N s2 = stale N s1 := by unfold stale upTo; rw [hes, hr]
    unfold Go.Proofs.Ytdeodcomlakpaaa.pot at *
    have := h.pot
    unfold Go.Proofs.Ytdeodcomlakpaaa.pot at this
    rw [hc]; omega⟩
theorem stale_fin {N q : Nat} {s s' : PS} (hq : q < N) (hrev : s'.rev = s.rev) {r : RV} (hr : aget s'.es (1, (q : Int), 0) = some r) (hv : r.ver = s'.rev) (ho : ∀ q' : Nat, q' ≠ q → aget s'.es (1, (q' : Int), 0) = aget s.es (1, (q' : Int), 0)) :
    stale N s' ≤ stale N s ∧ (upTo s q = false → stale N s' + 1 ≤ stale N s) := by
  have hu : upTo s' q = true := by unfold upTo; rw [hr]; simp [hv]
  have hm : ∀ q', upTo s q' = true → upTo s' q' = true := fun q' h => by
    by_cases e : q' = q
    · rw [e]; exact hu
    · unfold upTo at h ⊢
      rw [ho q' e, hrev]; exact h
  exact ⟨stale_mono hm, fun hf => stale_lt hm hq hf hu⟩
/-- the limit -/
def lim : Int := 1152921504606846976
/-- update at what it costs, below n -/
def Cost (p : Prg) (H : Hist) (U : PS → QK → Except Int Unit × PS) (n : Nat) : Prop :=
  ∀ s (q : Nat), q < n → q < p.qs.length → Inv p H s → Idl (q + 1) s → Us s → Ct s → pot p.qs.length s + 100 * ((q : Int) + 1) ≤ lim →
    Cst p.qs.length s (U s (1, (q : Int), 0)).2 (100 * ((q : Int) + 1)) ∧ ((U s (1, (q : Int), 0)).1 = .ok () → Cst p.qs.length s (U s (1, (q : Int), 0)).2 1)
theorem clk_le {N : Nat} {s : PS} : s.clk ≤ pot N s := by unfold pot; omega
section
variable {p : Prg} {H : Hist} {stp : PS → Bool} {U : PS → QK → Except Int Unit × PS} {n : Nat}
theorem get_cost (hp : PrgOk p) (hU : Good p H stp U n) (hc : Cost p H U n) {q : Nat} (hq : q ≤ n) (hqN : q < p.qs.length) {s : PS} (hl : pot p.qs.length s + 20 + 100 * (q : Int) ≤ lim) (m : Nat) (σ : GS) (k : QK)
    (h : Stp p H q s σ.1 ∧ Idl q σ.1 ∧ Cst p.qs.length s σ.1 (20 - (m + 1 : Nat))) (hk : KeyIn p.inp q k) :
    (∃ v σ', gmap (getP U) σ k = (.ok v, σ') ∧ Stp p H q s σ'.1 ∧ Idl q σ'.1 ∧ Cst p.qs.length s σ'.1 (20 - (m : Nat))) ∨
    ∃ e σ', gmap (getP U) σ k = (.error e, σ') ∧ Cst p.qs.length s σ'.1 (20 + 100 * (q : Int)) := by
  obtain ⟨hst, hid, hco⟩ := h
  obtain ⟨a, b, c⟩ := k
  rcases hk with ⟨h0, h1, h2, h3⟩ | ⟨h0, h1, h2, h3⟩
  · simp only at h0
    subst h0
    left
    refine ⟨red ((σ.1.inp (0, b, c)).xs.getD 0 0), (σ.1, addK σ.2.1 (0, b, c), min σ.2.2 (σ.1.inp (0, b, c)).du), ?_, hst, hid, hco.mono (by omega)⟩
    unfold gmap getP
    rw [if_pos rfl]
  · simp only at h0 h1 h2 h3
    subst h0 h3
    obtain ⟨j, rfl⟩ := Int.eq_ofNat_of_zero_le h1
    have hpot := hco.pot
    obtain ⟨c1, c2⟩ := hc σ.1 j (by omega) (by omega) hst.inv (hid.mono (by omega)) hco.us hco.ct (by omega)
    rcases hU σ.1 j (by omega) (by omega) hst.inv (hid.mono (by omega)) with ⟨s1, hu, hs1, hi1, r, hr, hrv⟩ | ⟨s1, hu, hs1, hf⟩
    · left
      rw [hu] at c2
      refine ⟨red (r.xs.getD 0 0), (s1, addK σ.2.1 (1, (j : Int), 0), min σ.2.2 r.dur), ?_, hst.trans hs1 (by omega), hs1.idl hid hi1, hco.trans (c2 rfl) (by omega)⟩
      unfold gmap getP
      rw [if_neg (by simp), hu]
      simp only [res_get hr]
    · right
      rw [hu] at c1
      refine ⟨12, (s1, σ.2), ?_, hco.trans c1 (by omega)⟩
      unfold gmap getP
      rw [if_neg (by simp), hu]
/-- a recomputation and the end of update -/
theorem rec_cost (hp : PrgOk p) (hU : Good p H stp U n) (hc : Cost p H U n) {q : Nat} (hq : q ≤ n) (hqN : q < p.qs.length) {s : PS} (hs : Inv p H s) (hi : Idl q s) (hus : Us s) (hct : Ct s) (hst : upTo s q = false) (hl : pot p.qs.length s + 20 + 100 * (q : Int) ≤ lim) :
    Cst p.qs.length s (thenFin (1, (q : Int), 0) (recompP U (compQ p.qs) stp s (1, (q : Int), 0))).2 (20 + 100 * (q : Int)) ∧
    ((thenFin (1, (q : Int), 0) (recompP U (compQ p.qs) stp s (1, (q : Int), 0))).1 = .ok () → Cst p.qs.length s (thenFin (1, (q : Int), 0) (recompP U (compQ p.qs) stp s (1, (q : Int), 0))).2 (-79)) := by
  have hbad : ∀ {s' : PS} {x : Int}, ((.error x, s') : Except Int Unit × PS).1 = .ok () → False := fun h => by cases h
  unfold recompP
  by_cases hstop : stp s = true
  · rw [if_pos hstop]
    exact ⟨Cst.refl hus hct (by omega), fun h => absurd h (fun h => by cases h)⟩
  · rw [if_neg hstop]
    have hops := (hp.qs q hqN).size
    have hcount := runL_count (G := gmap (getP U)) (inp := p.inp) (idx := q) (J := fun m σ => Stp p H q s σ.1 ∧ Idl q σ.1 ∧ Cst p.qs.length s σ.1 (20 - (m : Nat))) (E := fun σ => Cst p.qs.length s σ.1 (20 + 100 * (q : Int))) (gmap_small _ _ _) (fun m σ k h hk => get_cost hp hU hc hq hqN hl m σ k h hk)
      (fun m σ h => ⟨h.1, h.2.1, h.2.2.mono (by omega)⟩) (ops := p.qs.getD q []) (xs := []) (s := (s, [], 2)) (hp.qs q hqN).each (by simp) ⟨Stp.refl hs q, hi, Cst.refl hus hct (by omega)⟩
    rcases hcount with ⟨zs, ⟨s2, deps, dur⟩, h1, hst2, hi2, hc2⟩ | ⟨e, ⟨s2, dd⟩, h1, hc2⟩
    · simp only at hst2 hi2 hc2
      have hcq : compQ p.qs (1, (q : Int), 0) (getP U) (s, [], 2) = (.ok [zs.getD 0 0], (s2, deps, dur)) := by
        unfold compQ runR
        simp only [Int.toNat_natCast]
        rw [h1]
      rw [hcq]
      simp only
      have hold : aget s2.es (1, (q : Int), 0) = aget s.es (1, (q : Int), 0) := (hst2.above _ fun q' hq' e => by have := key_inj.1 e; omega).1
      generalize newRes s2 (1, (q : Int), 0) s.rev [zs.getD 0 0] deps dur = nr
      unfold thenFin
      simp only
      have hlt : s2.clk < 4611686018427387904 := by
        have h1 := clk_le (N := p.qs.length) (s := s2)
        have h2 := hc2.pot
        unfold lim at hl
        omega
      obtain ⟨u1, u2⟩ := us_fin (s2 := { s2 with es := ups s2.es (1, (q : Int), 0) nr, cnt := wrap64 (s2.cnt + 1) }) (k := (1, (q : Int), 0)) hc2.us (fun k' hk' => by simp only [aget_ups]; rw [if_neg (Ne.symm hk')]) rfl hlt
      have hcn : (finP { s2 with es := ups s2.es (1, (q : Int), 0) nr, cnt := wrap64 (s2.cnt + 1) } (1, (q : Int), 0)).cnt = s2.cnt + 1 := by
        show wrap64 (s2.cnt + 1) = _
        have := hc2.ct
        unfold Ct at this
        unfold wrap64; omega
      have hget : ∀ k' : QK, aget (finP { s2 with es := ups s2.es (1, (q : Int), 0) nr, cnt := wrap64 (s2.cnt + 1) } (1, (q : Int), 0)).es k' = if (1, (q : Int), 0) = k' then some { nr with ver := s2.rev, use := wrap64 (s2.clk + 1) } else aget s2.es k' := fun k' => by
        rw [fin_es (r0 := nr) _ _ ((aget_ups _ _ _ _).trans (if_pos rfl))]
        simp only [aget_ups]
        split <;> rfl
      have hsf := stale_fin (s := s2) (s' := finP { s2 with es := ups s2.es (1, (q : Int), 0) nr, cnt := wrap64 (s2.cnt + 1) } (1, (q : Int), 0)) hqN rfl ((hget _).trans (if_pos rfl)) rfl (fun q' hne => by rw [hget, if_neg (fun e => hne (key_inj.1 e).symm)])
      have hup2 : upTo s2 q = false := by
        unfold upTo at hst ⊢
        rw [hold, hst2.rev]; exact hst
      have hkey : Cst p.qs.length s (finP { s2 with es := ups s2.es (1, (q : Int), 0) nr, cnt := wrap64 (s2.cnt + 1) } (1, (q : Int), 0)) (-79) := by
        refine ⟨u1, ⟨by rw [hcn]; have := hc2.ct.1; omega, by rw [hcn, u2]; have := hc2.ct.2; omega⟩, by rw [u2]; have := hc2.clk; omega, by rw [hcn]; have := hc2.cnt; omega, ?_⟩
        have h3 := hsf.2 hup2
        have h4 := hc2.pot
        unfold pot at h4 ⊢
        rw [u2]
        omega
      exact ⟨hkey.mono (by omega), fun _ => hkey⟩
    · simp only at hc2
      have hcq : compQ p.qs (1, (q : Int), 0) (getP U) (s, [], 2) = (.error e, (s2, dd)) := by
        unfold compQ runR
        simp only [Int.toNat_natCast]
        rw [h1]
      rw [hcq]
      exact ⟨hc2, fun h => by cases h⟩
/-- the dependencies are asked one by one -/
theorem any_cost (hp : PrgOk p) (hU : Good p H stp U n) (hc : Cost p H U n) {q : Nat} (hq : q ≤ n) (hqN : q < p.qs.length) (rev0 : Int) : ∀ (l : List QK) (s : PS), (∀ k ∈ l, KeyIn p.inp q k) → Inv p H s → Idl q s → Us s → Ct s → pot p.qs.length s + l.length + 100 * (q : Int) ≤ lim →
    Cst p.qs.length s (anyChg U rev0 l s).2 ((l.length : Int) + 100 * (q : Int)) ∧ (∀ t, (anyChg U rev0 l s).1 = .ok t → Cst p.qs.length s (anyChg U rev0 l s).2 (l.length : Int)) := by
  intro l
  induction l with
  | nil => intro s _ hs hi hus hct _; exact ⟨Cst.refl hus hct (by simp only [List.length_nil]; omega), fun _ _ => Cst.refl hus hct (by simp)⟩
  | cons k l ih =>
    intro s hl hs hi hus hct hlim
    have hk := hl k (by simp)
    rw [List.length_cons] at hlim ⊢
    have h1 : (∃ s' t, chgSince U s k rev0 = (.ok t, s') ∧ Stp p H q s s' ∧ Idl q s' ∧ Cst p.qs.length s s' 1) ∨ (∃ s' x, chgSince U s k rev0 = (.error x, s') ∧ Cst p.qs.length s s' (100 * (q : Int))) := by
      unfold chgSince
      obtain ⟨a, b, c⟩ := k
      rcases hk with ⟨h0, h1, h2, h3⟩ | ⟨h0, h1, h2, h3⟩
      · simp only at h0
        subst h0
        rw [if_pos rfl]
        exact Or.inl ⟨s, _, rfl, Stp.refl hs q, hi, Cst.refl hus hct (by omega)⟩
      · simp only at h0 h1 h2 h3
        subst h0 h3
        obtain ⟨j, rfl⟩ := Int.eq_ofNat_of_zero_le h1
        rw [if_neg (by simp)]
        obtain ⟨c1, c2⟩ := hc s j (by omega) (by omega) hs (hi.mono (by omega)) hus hct (by omega)
        rcases hU s j (by omega) (by omega) hs (hi.mono (by omega)) with ⟨s1, hu, hst, hid, r, hr, hrv⟩ | ⟨s1, hu, hst, hf⟩
        · rw [hu] at c2 ⊢
          exact Or.inl ⟨s1, _, rfl, hst.mono (by omega), hst.idl hi hid, c2 rfl⟩
        · rw [hu] at c1 ⊢
          exact Or.inr ⟨s1, 12, rfl, c1.mono (by omega)⟩
    rcases h1 with ⟨s1, t, hcs, hst, hid, hco⟩ | ⟨s1, x, hcs, hco⟩
    · cases t with
      | true =>
        have : anyChg U rev0 (k :: l) s = (.ok true, s1) := by unfold anyChg; rw [hcs]
        rw [this]
        exact ⟨hco.mono (by omega), fun _ _ => hco.mono (by omega)⟩
      | false =>
        have : anyChg U rev0 (k :: l) s = anyChg U rev0 l s1 := by rw [anyChg, hcs]
        rw [this]
        have hpot := hco.pot
        obtain ⟨a1, a2⟩ := ih s1 (fun k hk => hl k (by simp [hk])) hst.inv hid hco.us hco.ct (by omega)
        exact ⟨hco.trans a1 (by omega), fun t ht => hco.trans (a2 t ht) (by omega)⟩
    · have : anyChg U rev0 (k :: l) s = (.error x, s1) := by unfold anyChg; rw [hcs]
      rw [this]
      exact ⟨hco.mono (by omega), fun _ h => by cases h⟩
theorem upd_cost (hp : PrgOk p) (hU : Good p H stp U n) (hc : Cost p H U n) {q : Nat} (hq : q ≤ n) (hqN : q < p.qs.length) {s : PS} (hs : Inv p H s) (hi : Idl (q + 1) s) (hus : Us s) (hct : Ct s) (hl : pot p.qs.length s + 100 * ((q : Int) + 1) ≤ lim) :
    Cst p.qs.length s (updP U (compQ p.qs) stp s (1, (q : Int), 0)).2 (100 * ((q : Int) + 1)) ∧ ((updP U (compQ p.qs) stp s (1, (q : Int), 0)).1 = .ok () → Cst p.qs.length s (updP U (compQ p.qs) stp s (1, (q : Int), 0)).2 1) := by
  have hb := stp_beg hs q
  have hib := idl_beg hi
  have h0 := hi q (by omega)
  have hcb : Cst p.qs.length s (begP s (1, (q : Int), 0)) 0 := (Cst.refl hus hct (Int.le_refl 0)).same rfl rfl rfl rfl
  have hpb := hcb.pot
  cases hr : aget s.es (1, (q : Int), 0) with
  | none =>
    rw [updP_none h0 hr]
    obtain ⟨a1, a2⟩ := rec_cost hp hU hc hq hqN hb.inv hib hcb.us hcb.ct (by unfold upTo; rw [show aget (begP s (1, (q : Int), 0)).es (1, (q : Int), 0) = none from hr]) (by omega)
    exact ⟨hcb.trans a1 (by omega), fun h => hcb.trans (a2 h) (by omega)⟩
  | some r =>
    -- the end, where the result is valid
    have hend : ∀ s2, Cst p.qs.length s s2 80 → aget s2.es (1, (q : Int), 0) = some r → Cst p.qs.length s2 (finP s2 (1, (q : Int), 0)) 1 ∧ (upTo s2 q = false → Cst p.qs.length s2 (finP s2 (1, (q : Int), 0)) (-99)) := fun s2 hc2 hr2 => by
      have hlt : s2.clk < 4611686018427387904 := by
        have h1 := clk_le (N := p.qs.length) (s := s2)
        have h2 := hc2.pot
        unfold lim at hl
        omega
      obtain ⟨u1, u2⟩ := us_fin (s2 := s2) (k := (1, (q : Int), 0)) hc2.us (fun _ _ => rfl) rfl hlt
      have hget : ∀ k' : QK, aget (finP s2 (1, (q : Int), 0)).es k' = if (1, (q : Int), 0) = k' then some { r with ver := s2.rev, use := wrap64 (s2.clk + 1) } else aget s2.es k' := fun k' => by
        rw [fin_es (r0 := r) _ _ hr2, aget_ups]
      have hsf := stale_fin (s := s2) (s' := finP s2 (1, (q : Int), 0)) hqN rfl ((hget _).trans (if_pos rfl)) rfl (fun q' hne => by rw [hget, if_neg (fun e => hne (key_inj.1 e).symm)])
      have hcn : (finP s2 (1, (q : Int), 0)).cnt = s2.cnt := rfl
      have hbase : ∀ c, stale p.qs.length (finP s2 (1, (q : Int), 0)) * 100 + 1 ≤ (stale p.qs.length s2 : Int) * 100 + c → Cst p.qs.length s2 (finP s2 (1, (q : Int), 0)) c := fun c h => by
        refine ⟨u1, ⟨by rw [hcn]; exact hc2.ct.1, by rw [hcn, u2]; have := hc2.ct.2; omega⟩, by rw [u2]; omega, by rw [hcn]; omega, ?_⟩
        unfold pot
        rw [u2]
        omega
      exact ⟨hbase 1 (by have := hsf.1; omega), fun hf => hbase (-99) (by have := hsf.2 hf; omega)⟩
    by_cases hv : r.ver = (begP s (1, (q : Int), 0)).rev ∨ (begP s (1, (q : Int), 0)).last r.dur ≤ r.ver
    · rw [updP_yes h0 hr (by unfold validP; rw [if_pos hv])]
      obtain ⟨e1, _⟩ := hend _ (hcb.mono (by omega)) hr
      exact ⟨hcb.trans e1 (by omega), fun _ => hcb.trans e1 (by omega)⟩
    · have hkeys : ∀ k ∈ r.deps, KeyIn p.inp q k := (hs.w.es _ r hr).2.2.1
      have hfew := keys_few (inp := p.inp) (L := q) hp.inp.2 (by have := hp.size; omega) (hs.w.es _ r hr).2.2.2 hkeys
      have hval : ∀ x s2, anyChg U r.ver r.deps (begP s (1, (q : Int), 0)) = (x, s2) → validP U (begP s (1, (q : Int), 0)) r = (match x with | .ok t => .ok (!t) | .error e => .error e, s2) := fun x s2 h => by
        unfold validP
        rw [if_neg hv, h]
        cases x <;> rfl
      obtain ⟨a1, a2⟩ := any_cost hp hU hc hq hqN r.ver r.deps _ hkeys hb.inv hib hcb.us hcb.ct (by omega)
      rcases any_ok hp hU hq hqN r.ver r.deps _ hkeys hb.inv hib with ⟨s2, h1, h2, h3, _⟩ | ⟨s2, h1, h2, h3⟩ | ⟨s2, h1, h2, h3⟩
      all_goals rw [h1] at a1 a2
      · rw [updP_yes h0 hr (hval _ _ h1)]
        have hc2 : Cst p.qs.length s s2 80 := hcb.trans (a2 _ rfl) (by omega)
        have hr2 : aget s2.es (1, (q : Int), 0) = some r := ((h2.above _ fun q' hq' e => by have := key_inj.1 e; omega).1).trans hr
        obtain ⟨_, e2⟩ := hend s2 hc2 hr2
        have e3 := e2 (by
          unfold upTo
          rw [hr2, h2.rev]
          simp only [beq_eq_false_iff_ne, ne_eq]
          exact fun e => hv (Or.inl e))
        exact ⟨hc2.trans e3 (by omega), fun _ => hc2.trans e3 (by omega)⟩
      · rw [updP_no h0 hr (hval _ _ h1)]
        have hc2 : Cst p.qs.length s s2 80 := hcb.trans (a2 _ rfl) (by omega)
        have hr2 : aget s2.es (1, (q : Int), 0) = some r := ((h2.above _ fun q' hq' e => by have := key_inj.1 e; omega).1).trans hr
        have hp2 := hc2.pot
        obtain ⟨b1, b2⟩ := rec_cost hp hU hc hq hqN h2.inv h3 hc2.us hc2.ct (by
          unfold upTo
          rw [hr2, h2.rev]
          simp only [beq_eq_false_iff_ne, ne_eq]
          exact fun e => hv (Or.inl e)) (by omega)
        exact ⟨hc2.trans b1 (by omega), fun h => hc2.trans (b2 h) (by omega)⟩
      · rw [updP_err h0 hr (hval _ _ h1)]
        exact ⟨hcb.trans a1 (by omega), fun h => by cases h⟩
end
theorem cost_UQ {p : Prg} (hp : PrgOk p) (H : Hist) (stp : PS → Bool) : ∀ n, Cost p H (UQ p.qs stp n) n := by
  intro n
  induction n with
  | zero => intro s q hq; omega
  | succ n ih => intro s q hq hqN hs hi hus hct hl; exact upd_cost hp (good_UQ hp H stp n) ih (by omega) hqN hs hi hus hct hl
end Go.Proofs.Ytdeodcomlakpaaa
/- A database under a script: the plain state, the memory, the inputs' row (no walk). -/
namespace Go.Proofs.Ytdeodcomlakpaaa
open Go.RowKit Go.ChangeMaps Go.MapKept
set_option linter.unusedVariables false
set_option linter.unusedSimpArgs false
/-- few results are cached -/
theorem es_few {p : Prg} (hp : PrgOk p) {w : World} {b : Nat} {d : Dm} (h : DmAt w b d) (hi : InvW p d.pl) : d.es.length ≤ 80 := by
  have hnd := h.res.nodup
  have he : (amap Rs.val d.es).map (·.1) = d.es.map (·.1) := by unfold amap; rw [List.map_map]; rfl
  rw [he] at hnd
  have := keys_few (inp := p.inp) (L := p.qs.length) hp.inp.2 hp.size hnd fun k hk => by
    obtain ⟨q, hq, e⟩ := List.mem_map.1 hk
    cases hr : aget d.es k with
    | none => exact absurd e (aget_none hr q hq)
    | some r =>
      obtain ⟨⟨a1, a2, a3, a4⟩, _⟩ := hi.es k r.pl (by rw [Dm.aget_pl, hr]; rfl)
      exact Or.inr ⟨a1, a2, a3, a4⟩
  rwa [List.length_map] at this
/-- what one update costs -/
theorem upd_small {p : Prg} (hp : PrgOk p) {H : Hist} {s : PS} (h : Inv p H s) (ha : s.act = []) (hu : Us s) (hc : Ct s) (hk : s.clk ≤ 1000000000) (stp : PS → Bool) {q : Nat} (hq : q < p.qs.length) :
    Us (upQ p stp s (1, (q : Int), 0)).2.idle ∧ Ct (upQ p stp s (1, (q : Int), 0)).2.idle ∧ s.clk ≤ (upQ p stp s (1, (q : Int), 0)).2.idle.clk ∧ (upQ p stp s (1, (q : Int), 0)).2.idle.clk ≤ s.clk + 8000 ∧ s.cnt ≤ (upQ p stp s (1, (q : Int), 0)).2.idle.cnt := by
  have hst := stale_le p.qs.length s
  have hsz := hp.size
  have hpot : pot p.qs.length s ≤ s.clk + 4000 := by unfold pot; omega
  have hc1 := (cost_UQ hp H stp p.qs.length s q hq hq h (idl_none ha _) hu hc (by unfold lim; omega)).1
  have hc2 := hc1.same (s2 := (upQ p stp s (1, (q : Int), 0)).2.idle) rfl rfl rfl rfl
  have h1 := clk_le (N := p.qs.length) (s := (upQ p stp s (1, (q : Int), 0)).2.idle)
  have h2 := hc2.pot
  exact ⟨hc2.us, hc2.ct, hc2.clk, by omega, hc2.cnt⟩
/-! ### plain -/
structure RunP (p : Prg) (n : Nat) (s : PS) (ins : List Int) : Prop where
  inv : ∃ H, Inv p H s
  act : s.act = []
  inp : InpI p s ins
  us : Us s
  ct : Ct s
  clk : s.clk ≤ 8000 * (n : Int)
  rev : 0 ≤ s.rev ∧ s.rev ≤ n
theorem RunP.mono {p : Prg} {n n' : Nat} {s : PS} {ins : List Int} (h : RunP p n s ins) (hn : n ≤ n') : RunP p n' s ins := ⟨h.inv, h.act, h.inp, h.us, h.ct, by have := h.clk; omega, by have := h.rev; omega⟩
theorem RunP.upd {p : Prg} (hp : PrgOk p) {n : Nat} {s : PS} {ins : List Int} (h : RunP p n s ins) (hn : n ≤ 1000) (stp : PS → Bool) {q : Nat} (hq : q < p.qs.length) : RunP p (n + 1) (upQ p stp s (1, (q : Int), 0)).2.idle ins := by
  obtain ⟨H, hi⟩ := h.inv
  have hk := h.clk
  obtain ⟨c1, c2, c3, c4, c5⟩ := upd_small hp hi h.act h.us h.ct (by omega) stp hq
  obtain ⟨x, s', e, hs, hinv, _⟩ := untilI hp hi h.act stp hq
  rw [e] at c1 c2 c3 c4 c5 ⊢
  have hr := h.rev
  exact ⟨⟨H, hinv⟩, rfl, fun i hi => by rw [← h.inp i hi, ← hs.inp]; rfl, c1, c2, by omega, by
    have h1 : s'.idle.rev = s.rev := hs.rev
    show 0 ≤ s'.idle.rev ∧ s'.idle.rev ≤ ((n + 1 : Nat) : Int)
    rw [h1]
    omega⟩
theorem RunP.set {p : Prg} {n : Nat} {s : PS} {ins : List Int} (h : RunP p n s ins) (i : Nat) (v du : Int) (hi : (i : Int) < p.inp) (hl : (ins.length : Int) = p.inp) (hdu : 0 ≤ du ∧ du < 3) : RunP p (n + 1) (setP s (0, (i : Int), 0) [v] du) (ins.set i v) := by
  obtain ⟨H, hv⟩ := h.inv
  obtain ⟨H', hv', _⟩ := hv.set (0, (i : Int), 0) [v] du hdu
  have hes : (setP s (0, (i : Int), 0) [v] du).es = s.es ∧ (setP s (0, (i : Int), 0) [v] du).act = s.act ∧ (setP s (0, (i : Int), 0) [v] du).clk = s.clk ∧ (setP s (0, (i : Int), 0) [v] du).cnt = s.cnt ∧ ((setP s (0, (i : Int), 0) [v] du).rev = s.rev ∨ (setP s (0, (i : Int), 0) [v] du).rev = s.rev + 1) := by
    unfold setP
    split
    · exact ⟨rfl, rfl, rfl, rfl, Or.inl rfl⟩
    · exact ⟨rfl, rfl, rfl, rfl, Or.inr rfl⟩
  obtain ⟨e1, e2, e3, e4, e5⟩ := hes
  have hr := h.rev
  have hk := h.clk
  refine ⟨⟨H', hv'⟩, e2.trans h.act, fun j hj => ?_, h.us.same e1 e3, by unfold Ct; rw [e3, e4]; exact h.ct, by rw [e3]; omega, by omega⟩
  have hlt : i < ins.length := by omega
  have hget : (ins.set i v).getD j 0 = if i = j then v else ins.getD j 0 := by
    rw [List.getD_eq_getElem?_getD, List.getElem?_set]
    by_cases e : i = j
    · subst e; simp [hlt]
    · rw [if_neg e, if_neg e, List.getD_eq_getElem?_getD]
  rw [hget]
  have hkey : ((0, (i : Int), 0) : QK) = (0, (j : Int), 0) ↔ i = j := by simp only [Prod.mk.injEq, true_and, and_true]; omega
  by_cases hne : (s.inp (0, (i : Int), 0)).du = du ∧ (s.inp (0, (i : Int), 0)).xs = [v]
  · have : setP s (0, (i : Int), 0) [v] du = s := by unfold setP; rw [if_pos hne]
    rw [this]
    by_cases e : i = j
    · subst e; rw [if_pos rfl, hne.2]; rfl
    · rw [if_neg e]; exact h.inp j hj
  · rw [inp_set hne]
    by_cases e : i = j
    · rw [if_pos (hkey.2 e), if_pos e]; rfl
    · rw [if_neg (fun h => e (hkey.1 h)), if_neg e]; exact h.inp j hj
theorem Us.fewer {s s' : PS} (h : Us s) (hes : ∀ k r, aget s'.es k = some r → aget s.es k = some r) (hc : s'.clk = s.clk) : Us s' := ⟨fun k r hr => by rw [hc]; exact h.bd k r (hes k r hr), fun k k' r r' h1 h2 => h.inj k k' r r' (hes _ _ h1) (hes _ _ h2), by rw [hc]; exact h.c0⟩
theorem RunP.forgetAll {p : Prg} {n : Nat} {s : PS} {ins : List Int} (h : RunP p n s ins) (ks : List QK) : RunP p n (forgetAll s ks) ins := by
  have hs : (Go.Proofs.Ytdeodcomlakpaaa.forgetAll s ks).act = s.act ∧ (Go.Proofs.Ytdeodcomlakpaaa.forgetAll s ks).clk = s.clk ∧ (Go.Proofs.Ytdeodcomlakpaaa.forgetAll s ks).cnt = s.cnt ∧ (Go.Proofs.Ytdeodcomlakpaaa.forgetAll s ks).rev = s.rev ∧ ∀ k, (Go.Proofs.Ytdeodcomlakpaaa.forgetAll s ks).inp k = s.inp k := by
    unfold Go.Proofs.Ytdeodcomlakpaaa.forgetAll
    clear h
    induction ks generalizing s with
    | nil => exact ⟨rfl, rfl, rfl, rfl, fun _ => rfl⟩
    | cons k l ih => exact ih (s := forgetP s k)
  obtain ⟨H, hv⟩ := h.inv
  obtain ⟨e1, e2, e3, e4, e5⟩ := hs
  refine ⟨⟨H, hv.forgetAll ks⟩, e1.trans h.act, fun i hi => by rw [e5]; exact h.inp i hi, h.us.fewer (fun k r hr => ?_) e2, by unfold Ct; rw [e2, e3]; exact h.ct, by rw [e2]; exact h.clk, by rw [e4]; exact h.rev⟩
  rw [forgetAll_es] at hr
  split at hr
  · cases hr
  · exact hr
theorem RunP.forget {p : Prg} {n : Nat} {s : PS} {ins : List Int} (h : RunP p n s ins) (k : QK) : RunP p n (forgetP s k) ins := h.forgetAll [k]
theorem RunP.useB {p : Prg} {n : Nat} {d : Dm} {ins : List Int} (h : RunP p n d.pl ins) (hn : n ≤ 1000) : UseB d := fun k r hr => by
  have h1 := h.us.bd k r.pl (by rw [Dm.aget_pl, hr]; rfl)
  have h2 := h.clk
  have h3 : r.pl.use = r.use := rfl
  omega
/-! ### in memory -/
structure RunM (p : Prg) (wb : World) (b gi : Nat) (w : World) (d : Dm) (row : List Int) : Prop where
  db : DbF p wb b w d
  len : (row.length : Int) = p.inp
  row : w.heap[gi]? = some (.cells (row.map (Value.int .i64)).toArray 3 (0, 0))
  off : gi ∉ d.muts b
  offi : gi ∉ d.imms
  gb : b < gi
  gw : wb.heap.size ≤ gi
/-- what a script writes -/
structure RunF (b gi : Nat) (w w' : World) (d d' : Dm) : Prop where
  chg : ChgP (fun g => g ∈ d.muts b ∨ g = gi) w w'
  muts : ∀ g ∈ d'.muts b, g ∈ d.muts b ∨ w.heap.size ≤ g
  imms : ∀ g ∈ d'.imms, g ∈ d.imms ∨ w.heap.size ≤ g
section
variable {p : Prg} {wb w w1 w2 : World} {b gi : Nat} {d d1 d2 : Dm} {row : List Int}
theorem RunF.refl (b gi : Nat) (w : World) (d : Dm) : RunF b gi w w d d := ⟨ChgP.refl _ _, fun _ h => Or.inl h, fun _ h => Or.inl h⟩
theorem RunF.trans (h : RunF b gi w w1 d d1) (k : RunF b gi w1 w2 d1 d2) : RunF b gi w w2 d d2 :=
  ⟨h.chg.comp k.chg fun g hg => hg.elim (fun h' => (h.muts g h').imp Or.inl id) fun e => Or.inl (Or.inr e), fun g hg => (k.muts g hg).elim (h.muts g) fun hs => Or.inr (Nat.le_trans h.chg.size hs), fun g hg => (k.imms g hg).elim (h.imms g) fun hs => Or.inr (Nat.le_trans h.chg.size hs)⟩
theorem RunF.new (h : RunF b gi w w1 d d1) (hc : Chg [] w1 w2) : RunF b gi w w2 d d1 := h.trans ⟨hc.p, fun _ h => Or.inl h, fun _ h => Or.inl h⟩
theorem RunF.after (h : RunF b gi w w1 d d1) (ha : After b w1 w2 d1 d2) : RunF b gi w w2 d d2 := h.trans ⟨ha.chg.mono fun _ h => Or.inl h, ha.muts, ha.imms⟩
theorem RunF.store (h : RunF b gi w w1 d d1) (i : Nat) (v : Value) : RunF b gi w (w1.setCell ⟨gi, i, none⟩ v) d d1 := h.trans ⟨(ChgP.refl _ _).setCell (Or.inl (Or.inr rfl)) v, fun _ h => Or.inl h, fun _ h => Or.inl h⟩
theorem RunM.lt (h : RunM p wb b gi w d row) : gi < w.heap.size := lt_of_obj h.row
theorem RunM.new (h : RunM p wb b gi w d row) (hc : Chg [] w w1) : RunM p wb b gi w1 d row := ⟨h.db.new hc, h.len, (hc.block _ h.lt (by simp)).trans h.row, h.off, h.offi, h.gb, h.gw⟩
theorem RunM.after (h : RunM p wb b gi w d row) (hd : DbF p wb b w1 d1) (ha : After b w w1 d d1) : RunM p wb b gi w1 d1 row :=
  ⟨hd, h.len, (ha.chg.block _ h.lt h.off).trans h.row, fun hm => (ha.muts _ hm).elim h.off fun hs => by have := h.lt; omega, fun hm => (ha.imms _ hm).elim h.offi fun hs => by have := h.lt; omega, h.gb, h.gw⟩
theorem RunM.store (h : RunM p wb b gi w d row) (i : Nat) (v : Int) : RunM p wb b gi (w.setCell ⟨gi, i, none⟩ (.int .i64 v)) d (row.set i v) := by
  obtain ⟨w0, RO, bv, bq, qv, h1, h2, h3, h4⟩ := h.db
  have hc : ChgP (fun g => g = gi) w (w.setCell ⟨gi, i, none⟩ (.int .i64 v)) := (ChgP.refl (fun g => g = gi) w).setCell (p := ⟨gi, i, none⟩) (Or.inl rfl) _
  have h1' := h1.other hc fun g hg => by
    subst hg
    exact ⟨h.off, h.offi, fun hr => by have := h4 _ hr; have := h.gb; omega⟩
  refine ⟨⟨w0, RO, bv, bq, qv, h1', ChgP.toL ((h2.p (S := fun g => g ∈ ([] : List Nat))).comp hc fun g hg => Or.inr (by subst hg; exact h.gw)), h3, h4⟩, by rw [List.length_set]; exact h.len, ?_, h.off, h.offi, h.gb, h.gw⟩
  rw [heap_setCell_same h.row]
  congr 2
  simp [List.map_set]
theorem RunM.cell (h : RunM p wb b gi w d row) {i : Nat} (hi : i < row.length) : w.cell? ⟨gi, i, none⟩ = some (.int .i64 (row.getD i 0)) := cell_of_heap h.row (by simp [hi])
theorem RunM.frozen (h : RunM p wb b gi w d row) (i : Nat) : w.frozen? ⟨gi, i, none⟩ = false := frozen_of_heap (i := i) h.row
end
end Go.Proofs.Ytdeodcomlakpaaa
/- What a law's database answers: Get, GetUntil, over a program and a list of inputs. -/
namespace Go.Proofs.Ytdeodcomlakpaaa
open Go.RowKit Go.ChangeMaps Go.MapKept
set_option linter.unusedVariables false
set_option linter.unusedSimpArgs false
/-- a query that is up to date -/
structure Fresh (p : Prg) (s : PS) (ins : List Int) (q : Nat) (r : RV) : Prop where
  get : aget s.es (1, (q : Int), 0) = some r
  ver : r.ver = s.rev
  xs : r.xs = [val p ins q]
  deps : r.deps = reads p ins q
theorem RunP.fresh {p : Prg} (hp : PrgOk p) {n : Nat} {s : PS} {ins : List Int} (h : RunP p n s ins) {q : Nat} (hq : q < p.qs.length) {r : RV} (hr : aget s.es (1, (q : Int), 0) = some r) (hv : r.ver = s.rev) : Fresh p s ins q r := by
  obtain ⟨H, hi⟩ := h.inv
  have hR := hi.res q r hr
  obtain ⟨a, b⟩ := val_now hp hi h.inp hq
  exact ⟨hr, hv, by rw [hR.xs, hv, a], by rw [hR.deps, hv, b]⟩
/-- Get, where nobody stops it -/
theorem RunP.got {p : Prg} (hp : PrgOk p) {n : Nat} {s : PS} {ins : List Int} (h : RunP p n s ins) (hn : n ≤ 1000) {q : Nat} (hq : q < p.qs.length) :
    ∃ s' r, upQ p (fun _ => false) s (1, (q : Int), 0) = (.ok (), s') ∧ s'.res (1, (q : Int), 0) = r ∧ Fresh p s'.idle ins q r ∧ RunP p (n + 1) s'.idle ins := by
  obtain ⟨H, hi⟩ := h.inv
  obtain ⟨s', r, h1, h2, h3, h4, h5⟩ := getI hp hi h.act hq
  have hu := h.upd hp hn (fun _ => false) hq
  rw [h1] at hu
  have hv : r.ver = s'.idle.rev := h4.trans h2.rev.symm
  exact ⟨s', r, h1, res_get h3, hu.fresh hp hq h3 hv, hu⟩
/-- Get of a query that is up to date, whatever stops it -/
theorem RunP.again {p : Prg} (hp : PrgOk p) {n : Nat} {s : PS} {ins : List Int} (h : RunP p n s ins) (hn : n ≤ 1000) (stp : PS → Bool) {q : Nat} (hq : q < p.qs.length) {r : RV} (hf : Fresh p s ins q r) :
    ∃ s' r', upQ p stp s (1, (q : Int), 0) = (.ok (), s') ∧ s'.res (1, (q : Int), 0) = r' ∧ Fresh p s'.idle ins q r' ∧ RunP p (n + 1) s'.idle ins ∧ s'.cnt = s.cnt := by
  have h1 := Go.Proofs.Ytdeodcomlakpaaa.again hp h.act stp hq hf.get hf.ver
  have hu := h.upd hp hn stp hq
  rw [h1] at hu
  have hes := fin_es (begP s (1, (q : Int), 0)) (1, (q : Int), 0) (r0 := r) hf.get
  have hget : aget (finP (begP s (1, (q : Int), 0)) (1, (q : Int), 0)).es (1, (q : Int), 0) = some { r with ver := (begP s (1, (q : Int), 0)).rev, use := wrap64 ((begP s (1, (q : Int), 0)).clk + 1) } := by
    rw [hes, aget_ups, if_pos rfl]
  exact ⟨_, _, h1, res_get hget, hu.fresh hp hq hget rfl, hu, rfl⟩
def GotPost (p : Prg) (wb : World) (b gi n q : Nat) (w : World) (d : Dm) (ins : List Int) (e : Ending) (w' : World) : Prop :=
  ∃ d' a c r, e = .returned (.tuple #[.agg #[.slice a 1 c, .string ⟨#[]⟩], .int .i64 0]) ∧ Inp.Ints w' (.slice a 1 c) [val p ins q] ∧ RunM p wb b gi w' d' ins ∧ RunP p (n + 1) d'.pl ins ∧ Fresh p d'.pl ins q r ∧ After b w w' d d'
section
variable {p : Prg} {wb : World} {b gi n q : Nat} {w : World} {d : Dm} {ins : List Int}
theorem RunM.get (hp : PrgOk p) (hM : RunM p wb b gi w d ins) (hR : RunP p n d.pl ins) (hn : n ≤ 1000) (hq : q < p.qs.length) :
    Calls Try.prog 19 #[.pointer (some ⟨b, 0, none⟩), i3v (1, (q : Int), 0)] w (GotPost p wb b gi n q w d ins) := by
  refine (hM.db.get hp q hq).mono ?_
  rintro e w' ⟨d', hd, hpl, ha, hm⟩
  obtain ⟨s', r, h1, h2, h3, h4⟩ := hR.got hp hn hq
  rw [h1] at hpl hm
  simp only [h2, h3.xs] at hm
  obtain ⟨a, c, rfl, hi⟩ := hm
  refine ⟨d', a, c, r, rfl, hi, hM.after hd ha, ?_, ?_, ha⟩
  · rw [hpl]; exact h4
  · rw [hpl]; exact h3
/-- GetUntil -/
theorem DbF.until (hp : PrgOk p) (h : DbF p wb b w d) {stp : PS → Bool} (sf : Nat) (sfirst scaps : Array Value) (hs : ∀ w0 RO, SFam w0 RO b sf sfirst scaps stp) (hq : q < p.qs.length) :
    Calls Try.prog 34 #[.pointer (some ⟨b, 0, none⟩), i3v (1, (q : Int), 0), .func (.func sf) sfirst scaps] w (GetPostF p stp wb b (1, (q : Int), 0) w d) := by
  obtain ⟨w0, RO, bv, bq, qv, h1, h2, h3⟩ := h
  refine (h1.until hp sf sfirst scaps (hs _ _) q hq).mono ?_
  rintro e w' ⟨⟨d', ha, hpl, hm⟩, hdb⟩
  exact ⟨d', ⟨w0, RO, bv, bq, qv, h1.after ha (hdb d' hpl ha), grow h2 h3 ha⟩, hpl, ha, hm⟩
def AgainPost (p : Prg) (wb : World) (b gi n q : Nat) (w : World) (d : Dm) (ins : List Int) (e : Ending) (w' : World) : Prop :=
  ∃ d' a c r, e = .returned (.tuple #[.agg #[.slice a 1 c, .string ⟨#[]⟩], .int .i64 0]) ∧ Inp.Ints w' (.slice a 1 c) [val p ins q] ∧ RunM p wb b gi w' d' ins ∧ RunP p (n + 1) d'.pl ins ∧ Fresh p d'.pl ins q r ∧ After b w w' d d' ∧ d'.cnt = d.cnt
theorem AgainPost.mk (hp : PrgOk p) (hM : RunM p wb b gi w d ins) (hR : RunP p n d.pl ins) (hn : n ≤ 1000) (hq : q < p.qs.length) {r : RV} (hf : Fresh p d.pl ins q r) {stp : PS → Bool} {e : Ending} {w' : World} (hg : GetPostF p stp wb b (1, (q : Int), 0) w d e w') : AgainPost p wb b gi n q w d ins e w' := by
  obtain ⟨d', hd, hpl, ha, hm⟩ := hg
  obtain ⟨s', r', h1, h2, h3, h4, h5⟩ := hR.again hp hn stp hq hf
  rw [h1] at hpl hm
  simp only [h2, h3.xs] at hm
  obtain ⟨a, c, rfl, hi⟩ := hm
  refine ⟨d', a, c, r', rfl, hi, hM.after hd ha, ?_, ?_, ha, ?_⟩
  · rw [hpl]; exact h4
  · rw [hpl]; exact h3
  · have : d'.pl.cnt = s'.idle.cnt := by rw [hpl]
    exact this.trans h5
/-- the inputs' row as a slice -/
theorem RunM.ints (h : RunM p wb b gi w d ins) (hp : PrgOk p) : IntsP (fun g => g < w.heap.size) w (.slice (some ⟨gi, 0, none⟩) ins.length ins.length) ins := by
  refine ⟨_, _, rfl, Nat.le_refl _, by have h1 := h.len; have := hp.inp; unfold maxLen; omega, fun _ => ⟨gi, 0, rfl, h.lt, fun j hj => ?_⟩⟩
  have := h.cell hj
  show w.cell? ⟨gi, 0 + j * 1, none⟩ = _
  rw [Nat.zero_add, Nat.mul_one, this]
  simp [hj]
end
end Go.Proofs.Ytdeodcomlakpaaa
