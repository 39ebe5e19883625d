/- An unrelated change (plain): while nothing is forgotten, a query whose inputs have not changed is not computed. -/
import Derived.Test.YtdeodcomlakpaaaNbc
namespace Go.Proofs.Ytdeodcomlakpaaa
open Go.RowKit
set_option linter.unusedVariables false
set_option linter.unusedSimpArgs false
variable {p : Prg} {H : Hist} {ins : List Int}
/-! ### steps with what holds at their ends -/
theorem SeqR.imp {R R' : Bool → PS → Nat → PS → Prop} (hR : ∀ b s q s', R b s q s' → R' b s q s') {b : Bool} {s s' : PS} {l : List QK} (h : SeqR R b s l s') : SeqR R' b s l s' := by
  induction h with
  | nil => exact .nil
  | inp h0 _ ih => exact .inp h0 ih
  | qry hr _ ih => exact .qry (hR _ _ _ _ hr) ih
  | halt hr => exact .halt (hR _ _ _ _ hr)
theorem Rlt.imp {R R' : Bool → PS → Nat → PS → Prop} (hR : ∀ b s q s', R b s q s' → R' b s q s') {m : Nat} : ∀ b s q s', Rlt R m b s q s' → Rlt R' m b s q s' := fun b s q s' h => ⟨h.1, hR _ _ _ _ h.2⟩
theorem Bad.imp {R R' : Bool → PS → Nat → PS → Prop} (hR : ∀ b s q s', R b s q s' → R' b s q s') {s s2 : PS} {q : Nat} (h : Bad R s q s2) : Bad R' s q s2 := by
  rcases h with h | ⟨r, l1, d, l2, h1, h2, h3, h4, h5⟩
  · exact .inl h
  · exact .inr ⟨r, l1, d, l2, h1, h2, h3, h4.imp (Rlt.imp hR), h5⟩
theorem StepR.imp {R R' : Bool → PS → Nat → PS → Prop} (hR : ∀ b s q s', R b s q s' → R' b s q s') {b : Bool} {s s' : PS} {q : Nat} (h : StepR p ins R b s q s') : StepR p ins R' b s q s' := by
  cases h with
  | skip h1 h2 => exact .skip h1 h2
  | check h1 h2 h3 h4 => exact .check h1 h2 (h3.imp (Rlt.imp hR)) h4
  | half h1 h2 h3 h4 h5 => exact .half h1 h2 h3 (h4.imp (Rlt.imp hR)) h5
  | redo h1 h2 h3 => exact .redo (h1.imp hR) (h2.imp (Rlt.imp hR)) h3
  | stop h1 => exact .stop (h1.imp hR)
  | rhalf h1 h2 h3 => exact .rhalf (h1.imp hR) (h2.imp (Rlt.imp hR)) h3
/-- an update, with what holds ahead of it and behind it -/
def UpdI (p : Prg) (H : Hist) (ins : List Int) : Nat → Bool → PS → Nat → PS → Prop
  | 0 => fun _ _ _ _ => False
  | n + 1 => fun b s q s' => StepR p ins (UpdI p H ins n) b s q s' ∧ Inv p H s ∧ Inv p H s' ∧ insH p H s.rev = ins ∧ q < p.qs.length
theorem UpdI.r : ∀ (n : Nat) (b : Bool) (s : PS) (q : Nat) (s' : PS), UpdI p H ins n b s q s' → UpdR p ins n b s q s' := by
  intro n
  induction n with
  | zero => intro b s q s' h; exact h
  | succ n ih => intro b s q s' h; exact h.1.imp ih
theorem big_UI (hp : PrgOk p) {stp : PS → Bool} : ∀ n, BigG p H ins (UQ p.qs stp n) (UpdI p H ins n) n := by
  intro n
  induction n with
  | zero => intro s q hq; omega
  | succ n ih =>
    intro s q hq hqN hs hins hi
    obtain ⟨h1, h2⟩ := upd_big hp (good_UQ hp H stp n) ih (by omega) hqN hs hins hi
    have h3 := upd_ok hp (good_UQ hp H stp n) (by omega) hqN hs hi
    refine ⟨fun s' h => ⟨h1 s' h, hs, ?_, hins, hqN⟩, fun e s' h => ⟨h2 e s' h, hs, ?_, hins, hqN⟩⟩
    · rcases h3 with ⟨s2, g1, g2, _⟩ | ⟨s2, g1, g2, _⟩
      · have e := h.symm.trans g1
        simp only [Prod.mk.injEq, true_and] at e
        rw [e]; exact g2.inv
      · have e := h.symm.trans g1
        simp at e
    · rcases h3 with ⟨s2, g1, g2, _⟩ | ⟨s2, g1, g2, _⟩
      · have e := h.symm.trans g1
        simp at e
      · have e := h.symm.trans g1
        simp only [Prod.mk.injEq] at e
        rw [e.2]; exact g2.inv
/-! ### inputs that have not changed -/
def Cl (p : Prg) (H : Hist) (q : Nat) (v v' : Int) : Prop := ∀ k, k.1 = 0 → TR p (insH p H v) q k → ∀ u, v ≤ u → u ≤ v' → H u k = H v k
theorem Cl.at (hp : PrgOk p) {q : Nat} (hq : q < p.qs.length) {v v' : Int} (h : Cl p H q v v') {u : Int} (h1 : v ≤ u) (h2 : u ≤ v') : reads p (insH p H v) q = reads p (insH p H u) q ∧ ∀ k, TR p (insH p H v) q k ↔ TR p (insH p H u) q k := by
  have := val_same hp (ins := insH p H v) (ins' := insH p H u) (q + 1) q (by omega) hq fun i hi => by
    have hk : (i : Int) < p.inp := by
      rcases hi.key hp hq with ⟨_, _, a, _⟩ | ⟨a, _⟩
      · exact a
      · simp at a
    rw [insH_get hk, insH_get hk, h _ rfl hi u h1 h2]
  exact this.2
theorem Cl.sub {q q' : Nat} {v v' : Int} (h : Cl p H q v v') (hm : qk q' ∈ reads p (insH p H v) q) : Cl p H q' v v' := fun k hk ht u h1 h2 => h k hk (TR.step hm ht) u h1 h2
theorem Cl.comp (hp : PrgOk p) {q : Nat} (hq : q < p.qs.length) {v1 v2 v3 : Int} (h : Cl p H q v1 v2) (k : Cl p H q v2 v3) (h12 : v1 ≤ v2) : Cl p H q v1 v3 := by
  intro x hx ht u h1 h2
  by_cases hu : u ≤ v2
  · exact h x hx ht u h1 hu
  · have ht2 := ((h.at hp hq h12 (Int.le_refl _)).2 x).1 ht
    rw [k x hx ht2 u (by omega) h2, h x hx ht v2 h12 (Int.le_refl _)]
theorem Cl.tail (hp : PrgOk p) {q : Nat} (hq : q < p.qs.length) {v v' u : Int} (h : Cl p H q v v') (h1 : v ≤ u) (h2 : u ≤ v') : Cl p H q u v' := by
  intro x hx ht u' a1 a2
  have ht1 := ((h.at hp hq h1 h2).2 x).2 ht
  rw [h x hx ht1 u' (by omega) a2, h x hx ht1 u h1 h2]
theorem Cl.now {q : Nat} {v v' : Int} (h : v' ≤ v) : Cl p H q v v' := fun k _ _ u h1 h2 => by rw [show u = v by omega]
/-- a chain of what was seen at v1 and what holds since v2 -/
theorem Cl.join (hp : PrgOk p) {q : Nat} (hq : q < p.qs.length) {v1 v2 v3 : Int} (h : Cl p H q v1 v2) (k : Cl p H q v2 v3) (h13 : v1 ≤ v3) : Cl p H q v1 v3 := by
  by_cases h12 : v1 ≤ v2
  · exact h.comp hp hq k h12
  · exact k.tail hp hq (by omega) h13
/-! ### what holds while nothing is forgotten -/
structure Inv2 (p : Prg) (H : Hist) (s : PS) : Prop where
  a : ∀ q r, aget s.es (qk q) = some r → ∀ q', qk q' ∈ r.deps → (aget s.es (qk q')).isSome
  b : ∀ q r q' r', aget s.es (qk q) = some r → qk q' ∈ r.deps → aget s.es (qk q') = some r' → Cl p H q' r'.ver r.ver
  c : ∀ q r q' r', aget s.es (qk q) = some r → qk q' ∈ r.deps → aget s.es (qk q') = some r' → Cl p H q' r.ver s.rev → r'.chg ≤ r.ver
  d : ∀ v k, 0 ≤ v → v ≤ s.rev → (H v k).ch ≤ v
  ver : ∀ q r, aget s.es (qk q) = some r → 0 ≤ r.ver
  rev : 0 ≤ s.rev
theorem Inv2.beg {s : PS} (h : Inv2 p H s) (k : QK) : Inv2 p H (begP s k) := ⟨h.a, h.b, h.c, h.d, h.ver, h.rev⟩
theorem Inv2.idle {s : PS} (h : Inv2 p H s) : Inv2 p H s.idle := ⟨h.a, h.b, h.c, h.d, h.ver, h.rev⟩
/-- nothing has been computed -/
structure NoRe (s s' : PS) : Prop where
  cnt : s'.cnt = s.cnt
  rev : s'.rev = s.rev
  inp : ∀ k, s'.inp k = s.inp k
  es : ∀ k r, aget s.es k = some r → ∃ r', aget s'.es k = some r' ∧ r'.chg = r.chg ∧ r'.xs = r.xs ∧ (r'.ver = r.ver ∨ r'.ver = s.rev)
theorem NoRe.refl (s : PS) : NoRe s s := ⟨rfl, rfl, fun _ => rfl, fun _ r h => ⟨r, h, rfl, rfl, .inl rfl⟩⟩
theorem NoRe.trans {s s1 s2 : PS} (h : NoRe s s1) (k : NoRe s1 s2) : NoRe s s2 := by
  refine ⟨k.cnt.trans h.cnt, k.rev.trans h.rev, fun x => (k.inp x).trans (h.inp x), fun x r hr => ?_⟩
  obtain ⟨r1, a1, a2, a3, a4⟩ := h.es x r hr
  obtain ⟨r2, b1, b2, b3, b4⟩ := k.es x r1 a1
  refine ⟨r2, b1, b2.trans a2, b3.trans a3, ?_⟩
  rcases b4 with b4 | b4
  · rcases a4 with a4 | a4
    · exact .inl (b4.trans a4)
    · exact .inr (b4.trans a4)
  · exact .inr (b4.trans h.rev)
theorem nore_beg (s : PS) (k : QK) : NoRe s (begP s k) := ⟨rfl, rfl, fun _ => rfl, fun _ r h => ⟨r, h, rfl, rfl, .inl rfl⟩⟩
theorem nore_fin {s : PS} {k : QK} {r : RV} (hr : aget s.es k = some r) : NoRe s (finP s k) := by
  refine ⟨rfl, rfl, fun _ => rfl, fun x r' hx => ?_⟩
  by_cases e : k = x
  · subst e
    rw [hr] at hx
    cases hx
    refine ⟨_, (aget_ups _ _ _ _).trans (if_pos rfl), ?_⟩
    rw [res_get hr]
    exact ⟨rfl, rfl, .inr rfl⟩
  · exact ⟨r', ((aget_ups _ _ _ _).trans (if_neg e)).trans hx, rfl, rfl, .inl rfl⟩
/-- what is up to date stays so; what has been asked is -/
theorem upd_up : ∀ (n : Nat) (b : Bool) (s : PS) (q : Nat) (s' : PS), UpdR p ins n b s q s' → s'.rev = s.rev ∧ ∀ k r, aget s.es k = some r → r.ver = s.rev → ∃ r', aget s'.es k = some r' ∧ r'.ver = s.rev := by
  intro n
  induction n with
  | zero => intro b s q s' h; exact h.elim
  | succ n ih =>
    intro b s q s' h
    let P : PS → PS → Prop := fun s s' => s'.rev = s.rev ∧ ∀ k r, aget s.es k = some r → r.ver = s.rev → ∃ r', aget s'.es k = some r' ∧ r'.ver = s.rev
    have h0 : ∀ s, P s s := fun s => ⟨rfl, fun k r hr hv => ⟨r, hr, hv⟩⟩
    have ht : ∀ {a b c}, P a b → P b c → P a c := fun h k => ⟨k.1.trans h.1, fun x r hr hv => by
      obtain ⟨r1, a1, a2⟩ := h.2 x r hr hv
      obtain ⟨r2, b1, b2⟩ := k.2 x r1 a1 (a2.trans h.1.symm)
      exact ⟨r2, b1, b2.trans h.1⟩⟩
    have hb : ∀ s k, P s (begP s k) := fun s k => ⟨rfl, fun x r hr hv => ⟨r, hr, hv⟩⟩
    have hf : ∀ s k, P s (finP s k) := fun s k => ⟨rfl, fun x r hr hv => by
      by_cases e : k = x
      · subst e
        exact ⟨_, (aget_ups _ _ _ _).trans (if_pos rfl), rfl⟩
      · exact ⟨r, ((aget_ups _ _ _ _).trans (if_neg e)).trans hr, hv⟩⟩
    have hseq : ∀ {b s l s'}, SeqR (Rlt (UpdR p ins n) q) b s l s' → P s s' := fun h => SeqR.pres h0 ht (fun b s q' s' h => ih b s q' s' h.2) h
    have hbad : ∀ {s s2}, Bad (UpdR p ins n) s q s2 → P s s2 := fun h => bad_pres h0 ht (fun b s q' s' _ h => ih b s q' s' h) (fun s => hb s _) h
    cases h with
    | skip h1 h2 => exact ht (hb s _) (hf _ _)
    | check h1 h2 h3 h4 => exact ht (ht (hb s _) (hseq h3)) (hf _ _)
    | half h1 h2 h3 h4 h5 => exact ht (hb s _) (hseq h4)
    | stop h1 => exact hbad h1
    | rhalf h1 h2 h3 => exact ht (hbad h1) (hseq h2)
    | @redo _ _ s2 ks s3 h1 h2 h3 =>
      have h12 := ht (hbad h1) (hseq h2)
      have hput : P s3 (putP s3 q s.rev [val p ins q] (reads p ins q)) := ⟨rfl, fun x r hr hv => by
        by_cases e : qk q = x
        · subst e
          exact ⟨_, (aget_ups _ _ _ _).trans (if_pos rfl), h12.1.symm⟩
        · exact ⟨r, ((aget_ups _ _ _ _).trans (if_neg e)).trans hr, hv⟩⟩
      exact ht (ht h12 hput) (hf _ _)
theorem upd_here {n : Nat} {s : PS} {q : Nat} {s' : PS} (h : UpdR p ins n true s q s') : ∃ r, aget s'.es (qk q) = some r ∧ r.ver = s.rev := by
  have hrev := (upd_up n true s q s' h).1
  have hf : ∀ s2 : PS, s2.rev = s.rev → ∃ r, aget (finP s2 (qk q)).es (qk q) = some r ∧ r.ver = s.rev := fun s2 e => ⟨_, (aget_ups _ _ _ _).trans (if_pos rfl), e⟩
  cases n with
  | zero => exact h.elim
  | succ n =>
    cases h with
    | skip h1 h2 => exact hf _ rfl
    | check h1 h2 h3 h4 => exact hf _ hrev
    | redo h1 h2 h3 => exact hf _ hrev
theorem seq_up {n q : Nat} {b : Bool} {s s' : PS} {l : List QK} (h : SeqR (Rlt (UpdR p ins n) q) b s l s') (hb : b = true) : s'.rev = s.rev ∧ (∀ k r, aget s.es k = some r → r.ver = s.rev → ∃ r', aget s'.es k = some r' ∧ r'.ver = s.rev) ∧ ∀ q', qk q' ∈ l → ∃ r, aget s'.es (qk q') = some r ∧ r.ver = s.rev := by
  induction h with
  | nil => exact ⟨rfl, fun k r hr hv => ⟨r, hr, hv⟩, by simp⟩
  | @inp b s k l s' h0 _ ih =>
    obtain ⟨i1, i2, i3⟩ := ih hb
    refine ⟨i1, i2, fun q' hq' => ?_⟩
    rcases List.mem_cons.1 hq' with e | hq'
    · rw [← e] at h0; simp at h0
    · exact i3 q' hq'
  | @qry b s q0 s1 l s' hr hs ih =>
    obtain ⟨i1, i2, i3⟩ := ih hb
    obtain ⟨u1, u2⟩ := upd_up n true s q0 s1 hr.2
    refine ⟨i1.trans u1, fun k r hr' hv => ?_, fun q' hq' => ?_⟩
    · obtain ⟨r1, a1, a2⟩ := u2 k r hr' hv
      obtain ⟨r2, b1, b2⟩ := i2 k r1 a1 (a2.trans u1.symm)
      exact ⟨r2, b1, b2.trans u1⟩
    · rcases List.mem_cons.1 hq' with e | hq'
      · have e' := qk_inj.1 e
        subst e'
        obtain ⟨r1, a1, a2⟩ := upd_here hr.2
        obtain ⟨r2, b1, b2⟩ := i2 _ r1 a1 (a2.trans u1.symm)
        exact ⟨r2, b1, b2.trans u1⟩
      · obtain ⟨r2, b1, b2⟩ := i3 q' hq'
        exact ⟨r2, b1, b2.trans u1⟩
  | halt _ => cases hb
/-! ### the induction -/
theorem UpdI.ends {n : Nat} {b : Bool} {s : PS} {q : Nat} {s' : PS} (h : UpdI p H ins n b s q s') : Inv p H s ∧ Inv p H s' ∧ insH p H s.rev = ins ∧ q < p.qs.length := by
  cases n with
  | zero => exact h.elim
  | succ n => exact h.2
def Keeps2 (p : Prg) (H : Hist) (s : PS) (q : Nat) (s' : PS) : Prop :=
  Inv2 p H s → Inv2 p H s' ∧ ∀ r, aget s.es (qk q) = some r → Cl p H q r.ver s.rev → NoRe s s'
def CleanAt (p : Prg) (H : Hist) (s : PS) (q : Nat) : Prop := ∃ r, aget s.es (qk q) = some r ∧ Cl p H q r.ver s.rev
theorem clean_nore {s s' : PS} {q : Nat} (h : CleanAt p H s q) (k : NoRe s s') : CleanAt p H s' q := by
  obtain ⟨r, a1, a2⟩ := h
  obtain ⟨r', b1, _, _, b4⟩ := k.es _ r a1
  refine ⟨r', b1, ?_⟩
  rw [k.rev]
  rcases b4 with e | e
  · rw [e]; exact a2
  · rw [e]; exact Cl.now (Int.le_refl _)
theorem seqJ {n q : Nat} (ih : ∀ s q s', UpdI p H ins n true s q s' → Keeps2 p H s q s') {b : Bool} {s s' : PS} {l : List QK} (h : SeqR (Rlt (UpdI p H ins n) q) b s l s') (hb : b = true) :
    Inv p H s → Inv2 p H s → Inv p H s' ∧ Inv2 p H s' ∧ ((∀ q', qk q' ∈ l → CleanAt p H s q') → NoRe s s') := by
  induction h with
  | nil => intro h1 h2; exact ⟨h1, h2, fun _ => NoRe.refl _⟩
  | @inp b s k l s' h0 _ ih2 =>
    intro h1 h2
    obtain ⟨a1, a2, a3⟩ := ih2 hb h1 h2
    exact ⟨a1, a2, fun hc => a3 fun q' hq' => hc q' (by simp [hq'])⟩
  | @qry b s q0 s1 l s' hr _ ih2 =>
    intro h1 h2
    obtain ⟨k1, k2⟩ := ih s q0 s1 hr.2 h2
    obtain ⟨a1, a2, a3⟩ := ih2 hb hr.2.ends.2.1 k1
    refine ⟨a1, a2, fun hc => ?_⟩
    obtain ⟨r, c1, c2⟩ := hc q0 List.mem_cons_self
    have hn := k2 r c1 c2
    exact hn.trans (a3 fun q' hq' => clean_nore (hc q' (by simp [hq'])) hn)
  | halt _ => cases hb
theorem inv_beg {s : PS} (h : Inv p H s) (q : Nat) : Inv p H (begP s (qk q)) := (stp_beg h q).inv
theorem qN {s : PS} (h : Inv p H s) {q : Nat} {r : RV} (hr : aget s.es (qk q) = some r) : q < p.qs.length := qryN h.w hr
theorem dep_lt {s : PS} (h : Inv p H s) {q q' : Nat} {r : RV} (hr : aget s.es (qk q) = some r) (hm : qk q' ∈ r.deps) : q' < q := by
  rcases (h.w.es _ r hr).2.2.1 _ hm with ⟨e, _⟩ | ⟨_, _, e, _⟩
  · simp at e
  · simp only at e; omega
/-- the dependencies of a query whose inputs have not changed -/
theorem clean_deps (hp : PrgOk p) {s : PS} (h : Inv p H s) (h2 : Inv2 p H s) {q : Nat} {r : RV} (hr : aget s.es (qk q) = some r) (hc : Cl p H q r.ver s.rev) : ∀ q', qk q' ∈ r.deps → CleanAt p H s q' := by
  intro q' hm
  have hR := h.res q r hr
  obtain ⟨r', hr'⟩ := Option.isSome_iff_exists.1 (h2.a q r hr q' hm)
  have hq' := qN h hr'
  refine ⟨r', hr', Cl.join hp hq' (h2.b q r q' r' hr hm hr') (hc.sub (by rw [← hR.deps]; exact hm)) (h.res q' r' hr').ver⟩
/-- a query whose inputs have not changed is not computed -/
theorem noBad (hp : PrgOk p) {n q : Nat} (ih : ∀ s q s', UpdI p H ins n true s q s' → Keeps2 p H s q s') {s s2 : PS} (hb : Bad (UpdI p H ins n) s q s2) (h : Inv p H s) (h2 : Inv2 p H s) (hc : CleanAt p H s q) : False := by
  obtain ⟨r, hr, hcl⟩ := hc
  rcases hb with ⟨hn, _⟩ | ⟨r0, l1, d, l2, hr0, hv, hl, hs, _, hlt⟩
  · rw [hr] at hn; cases hn
  · rw [hr] at hr0
    cases hr0
    have hR := h.res q r hr
    have hcd := clean_deps hp h h2 hr hcl
    have hdm : d ∈ r.deps := by rw [hl]; simp
    obtain ⟨_, _, hno⟩ := seqJ ih hs rfl (inv_beg h q) (h2.beg _)
    have hn := hno fun q' hq' => hcd q' (by rw [hl]; simp only [List.mem_append, List.mem_cons, List.mem_singleton, List.not_mem_nil, or_false] at hq' ⊢; rcases hq' with h | h; exact .inl h; exact .inr (.inl h))
    rcases keyIn_form ((h.w.es _ r hr).2.2.1 d hdm) with h0 | ⟨j, rfl, _⟩
    · unfold keyChg at hlt
      rw [if_pos h0, hn.inp] at hlt
      have e1 : s.inp d = H r.ver d := by
        rw [← h.hist.now]
        exact hcl d h0 (TR.base (by rw [← hR.deps]; exact hdm)) s.rev hR.ver (Int.le_refl _)
      have e2 := h2.d r.ver d (h2.ver q r hr) hR.ver
      have e3 : (begP s (qk q)).inp d = s.inp d := rfl
      rw [e3, e1] at hlt
      omega
    · obtain ⟨r', hr', hcl'⟩ := hcd j hdm
      obtain ⟨r2, a1, a2, _⟩ := hn.es (qk j) r' hr'
      unfold keyChg at hlt
      rw [if_neg (by simp), res_get a1, a2] at hlt
      have := h2.c q r j r' hr hdm hr' (hcl.sub (by rw [← hR.deps]; exact hdm))
      omega
/-- nothing of its durability has changed -/
theorem skipCl (hp : PrgOk p) {s : PS} (h : Inv p H s) {q : Nat} {r : RV} (hr : aget s.es (qk q) = some r) (hv : r.ver = s.rev ∨ s.last r.dur ≤ r.ver) : Cl p H q r.ver s.rev := by
  rcases hv with hv | hv
  · exact Cl.now (by omega)
  · have hR := h.res q r hr
    obtain ⟨h0, h2⟩ := (h.w.es _ r hr).2.1
    intro k hk ht u h1 hu
    exact (h.hist.unch hp (qN h hr) h0 h2 hv hR.ver hR.low h1 hu).2.2.2 k hk ht
/-- another result at q -/
theorem Inv2.put {s s' : PS} (h : Inv p H s) (h2 : Inv2 p H s) {q : Nat} {r : RV} (hes : ∀ k, aget s'.es k = if qk q = k then some r else aget s.es k) (hrev : s'.rev = s.rev) (hv : r.ver = s.rev) (hd : ∀ q', qk q' ∈ r.deps → q' < q ∧ CleanAt p H s q')
    (hc : ∀ q1 r1, aget s.es (qk q1) = some r1 → qk q ∈ r1.deps → Cl p H q r1.ver s.rev → r.chg ≤ r1.ver) : Inv2 p H s' := by
  have hrr := h2.rev
  refine ⟨fun q1 r1 hr1 q' hm => ?_, fun q1 r1 q' r' hr1 hm hr' => ?_, fun q1 r1 q' r' hr1 hm hr' hcl => ?_, fun v k h1 h3 => h2.d v k h1 (by omega), fun q1 r1 hr1 => ?_, by omega⟩
  · rw [hes] at hr1 ⊢
    split at hr1
    · cases hr1
      obtain ⟨_, r', a1, _⟩ := hd q' hm
      split
      · rfl
      · rw [a1]; rfl
    · split
      · rfl
      · exact h2.a q1 r1 hr1 q' hm
  · rw [hes] at hr1 hr'
    split at hr1
    · cases hr1
      obtain ⟨hlt, r2, a1, a2⟩ := hd q' hm
      rw [if_neg (fun e => by have := qk_inj.1 e; omega), a1] at hr'
      cases hr'
      rw [hv]; exact a2
    · split at hr'
      · rename_i e
        cases hr'
        refine Cl.now ?_
        have := (h.res q1 r1 hr1).ver
        omega
      · exact h2.b q1 r1 q' r' hr1 hm hr'
  · rw [hes] at hr1 hr'
    rw [hrev] at hcl
    split at hr1
    · cases hr1
      obtain ⟨hlt, r2, a1, a2⟩ := hd q' hm
      rw [if_neg (fun e => by have := qk_inj.1 e; omega), a1] at hr'
      have := h.res q' r2 a1
      cases hr'
      have h1 := this.chg
      have h3 := this.ver
      omega
    · split at hr'
      · rename_i e
        cases hr'
        have e' := qk_inj.1 e
        subst e'
        exact hc q1 r1 hr1 hm hcl
      · exact h2.c q1 r1 q' r' hr1 hm hr' hcl
  · rw [hes] at hr1
    split at hr1
    · cases hr1; omega
    · exact h2.ver q1 r1 hr1
theorem fin_get (s : PS) (q : Nat) (k : QK) : aget (finP s (qk q)).es k = if qk q = k then some { s.res (qk q) with ver := s.rev, use := wrap64 (s.clk + 1) } else aget s.es k := aget_ups _ _ _ _
theorem keeps2 (hp : PrgOk p) : ∀ (n : Nat) (s : PS) (q : Nat) (s' : PS), UpdI p H ins n true s q s' → Keeps2 p H s q s' := by
  intro n
  induction n with
  | zero => intro s q s' h; exact h.elim
  | succ n ih =>
    intro s q s' h h2
    obtain ⟨hstep, hI, hI', hins, hqN⟩ := h
    cases hstep with
    | @skip _ _ r g1 g2 =>
      have hcl := skipCl hp hI g1 g2
      refine ⟨?_, fun _ _ _ => (nore_beg s _).trans (nore_fin (s := begP s (qk q)) g1)⟩
      refine Inv2.put (q := q) (inv_beg hI q) (h2.beg _) (r := { r with ver := s.rev, use := wrap64 (s.clk + 1) }) (fun k => ?_) rfl rfl (fun q' hm => ⟨dep_lt hI g1 hm, clean_deps hp hI h2 g1 hcl q' hm⟩) (fun q1 r1 hr1 hm hc => h2.c q1 r1 q r hr1 hm g1 hc)
      rw [fin_get]
      rw [show (begP s (qk q)).res (qk q) = r from res_get g1]
      rfl
    | @check _ _ r s2 g1 g2 g3 g4 =>
      obtain ⟨j1, j2, j3⟩ := seqJ ih g3 rfl (inv_beg hI q) (h2.beg _)
      have habv := seq_abv (g3.imp (Rlt.imp (UpdI.r n)))
      obtain ⟨u1, u2, u3⟩ := seq_up (g3.imp (Rlt.imp (UpdI.r n))) rfl
      have hr2 : aget s2.es (qk q) = some r := (habv.es _ fun q' hq' e => by have := qk_inj.1 e; omega).trans g1
      have hrev2 : s2.rev = s.rev := u1
      refine ⟨?_, fun r0 hr0 hc0 => ?_⟩
      · refine Inv2.put (q := q) j1 j2 (r := { r with ver := s2.rev, use := wrap64 (s2.clk + 1) }) (fun k => ?_) rfl rfl (fun q' hm => ⟨dep_lt hI g1 hm, ?_⟩) (fun q1 r1 hr1 hm hc => j2.c q1 r1 q r hr1 hm hr2 hc)
        · rw [fin_get, res_get hr2]
        · obtain ⟨r', a1, a2⟩ := u3 q' hm
          exact ⟨r', a1, by rw [a2, hrev2]; exact Cl.now (Int.le_refl _)⟩
      · rw [g1] at hr0
        cases hr0
        exact ((nore_beg s _).trans (j3 (clean_deps hp hI h2 g1 hc0))).trans (nore_fin hr2)
    | @redo _ _ s2 ks s3 g1 g2 g3 =>
      have hnb := fun hc => noBad hp ih g1 hI h2 hc
      have hs2 : Inv p H s2 ∧ Inv2 p H s2 ∧ s2.rev = s.rev := by
        rcases g1 with ⟨_, rfl⟩ | ⟨r0, l1, d, l2, _, _, _, hs, _, _⟩
        · exact ⟨inv_beg hI q, h2.beg _, rfl⟩
        · obtain ⟨j1, j2, _⟩ := seqJ ih hs rfl (inv_beg hI q) (h2.beg _)
          exact ⟨j1, j2, (seq_up (hs.imp (Rlt.imp (UpdI.r n))) rfl).1⟩
      obtain ⟨j1, j2, _⟩ := seqJ ih g2 rfl hs2.1 hs2.2.1
      obtain ⟨u1, u2, u3⟩ := seq_up (g2.imp (Rlt.imp (UpdI.r n))) rfl
      have habv := (bad_abv (g1.imp (UpdI.r n))).trans (seq_abv (g2.imp (Rlt.imp (UpdI.r n))))
      have hrev3 : s3.rev = s.rev := u1.trans hs2.2.2
      refine ⟨?_, fun r0 hr0 hc0 => (hnb ⟨r0, hr0, hc0⟩).elim⟩
      refine Inv2.put (q := q) j1 j2 (r := { newRes s3 (qk q) s.rev [val p ins q] (reads p ins q) (durOf s3 (reads p ins q)) with ver := s3.rev, use := wrap64 (s3.clk + 1) }) (fun k => ?_) rfl rfl (fun q' hm => ?_) (fun q1 r1 hr1 hm hc => ?_)
      · rw [fin_get]
        have e1 : (putP s3 q s.rev [val p ins q] (reads p ins q)).res (qk q) = newRes s3 (qk q) s.rev [val p ins q] (reads p ins q) (durOf s3 (reads p ins q)) := res_get ((aget_ups _ _ _ _).trans (if_pos rfl))
        rw [e1]
        split
        · rfl
        · rename_i hne
          exact (aget_ups _ _ _ _).trans (if_neg hne)
      · have hm' : qk q' ∈ reads p ins q := hm
        obtain ⟨r', a1, a2⟩ := u3 q' ((g3 _).2 hm')
        exact ⟨sub_lt hp hqN hm', r', a1, by rw [a2, hrev3, hs2.2.2]; exact Cl.now (Int.le_refl _)⟩
      · exfalso
        have hlt := dep_lt j1 hr1 hm
        have hr1s : aget s.es (qk q1) = some r1 := by
          rw [← habv.es (qk q1) fun q' hq' e => by have := qk_inj.1 e; omega]
          exact hr1
        obtain ⟨r0, hr0⟩ := Option.isSome_iff_exists.1 (h2.a q1 r1 hr1s q hm)
        rw [hrev3] at hc
        exact hnb ⟨r0, hr0, Cl.join hp hqN (h2.b q1 r1 q r0 hr1s hm hr0) hc (hI.res q r0 hr0).ver⟩
end Go.Proofs.Ytdeodcomlakpaaa
