/- An evaluation's end, whatever it was cut into (plain). -/
import Derived.Test.YtdeodcomlakpaaaNbf
namespace Go.Proofs.Ytdeodcomlakpaaa
open Go.RowKit
set_option linter.unusedVariables false
set_option linter.unusedSimpArgs false
section
variable (p : Prg) (ins : List Int) (s : PS)
/-! ### what every query comes to -/
def chgW (q : Nat) (rec : ∀ d, d < q → RV × Bool) (k : QK) : Int := if k.1 = 0 then (s.inp k).ch else if h : k.2.1.toNat < q then (rec k.2.1.toNat h).1.chg else 0
def durW (q : Nat) (rec : ∀ d, d < q → RV × Bool) (k : QK) : Int := if k.1 = 0 then (s.inp k).du else if h : k.2.1.toNat < q then (rec k.2.1.toNat h).1.dur else 0
def durL (f : QK → Int) (ks : List QK) : Int := ks.foldl (fun d k => min d (f k)) 2
def newF (q : Nat) (dur : Int) : RV := { newRes s (qk q) s.rev [val p ins q] (reads p ins q) dur with ver := s.rev }
def SkipAt (r : RV) : Prop := r.ver = s.rev ∨ s.last r.dur ≤ r.ver
instance (r : RV) : Decidable (SkipAt s r) := by unfold SkipAt; infer_instance
def finF (q : Nat) (rec : ∀ d, d < q → RV × Bool) : RV × Bool :=
  match aget s.es (qk q) with
  | none => (newF p ins s q (durL (durW s q rec) (reads p ins q)), true)
  | some r => if SkipAt s r then ({ r with ver := s.rev }, false) else if r.deps.all (fun k => decide (chgW s q rec k ≤ r.ver)) then ({ r with ver := s.rev }, false) else (newF p ins s q (durL (durW s q rec) (reads p ins q)), true)
def FF : Nat → RV × Bool := WellFounded.fix Nat.lt_wfRel.wf (fun q rec => finF p ins s q rec)
theorem FF_eq (q : Nat) : FF p ins s q = finF p ins s q (fun d _ => FF p ins s d) := WellFounded.fix_eq _ _ _
def chgF (k : QK) : Int := if k.1 = 0 then (s.inp k).ch else (FF p ins s k.2.1.toNat).1.chg
def durF (k : QK) : Int := if k.1 = 0 then (s.inp k).du else (FF p ins s k.2.1.toNat).1.dur
def Vis (q : Nat) (k : QK) : Prop :=
  ((FF p ins s q).2 = true ∧ k ∈ reads p ins q) ∨ ∃ r l1 l2, aget s.es (qk q) = some r ∧ ¬ SkipAt s r ∧ r.deps = l1 ++ k :: l2 ∧ ∀ x ∈ l1, chgF p ins s x ≤ r.ver
inductive Rch : Nat → Nat → Prop
  | refl (q : Nat) : Rch q q
  | step {q y x : Nat} : Vis p ins s q (qk y) → Rch y x → Rch q x
def EqU (r r' : RV) : Prop := r.xs = r'.xs ∧ r.ver = r'.ver ∧ r.chg = r'.chg ∧ r.dur = r'.dur ∧ r.deps = r'.deps
def cntF (D : List Nat) : Nat := (D.filter fun x => (FF p ins s x).2).length
/-- t is s behind the evaluation of the queries of D -/
structure Desc (D : List Nat) (t : PS) : Prop where
  rev : t.rev = s.rev
  last : ∀ d, t.last d = s.last d
  inp : ∀ k, t.inp k = s.inp k
  done : ∀ x ∈ D, ∃ r, aget t.es (qk x) = some r ∧ EqU r (FF p ins s x).1
  rest : ∀ x, x ∉ D → aget t.es (qk x) = aget s.es (qk x)
  cnt : t.cnt = s.cnt + cntF p ins s D
  closed : ∀ x ∈ D, ∀ y, Vis p ins s x (qk y) → y ∈ D
  nd : D.Nodup
  lt : ∀ x ∈ D, x < p.qs.length
end
/-- what s is supposed to be -/
structure Base (p : Prg) (ins : List Int) (s : PS) : Prop where
  deps : ∀ q r, aget s.es (qk q) = some r → q < p.qs.length ∧ ∀ k ∈ r.deps, KeyIn p.inp q k
  cnt : 0 ≤ s.cnt ∧ s.cnt ≤ 1000000000
variable {p : Prg} {ins : List Int} {s : PS}
theorem chgW_eq {q : Nat} {k : QK} (h : k.1 = 0 ∨ ∃ y : Nat, k = qk y ∧ y < q) : chgW s q (fun d _ => FF p ins s d) k = chgF p ins s k := by
  unfold chgW chgF
  rcases h with h0 | ⟨y, rfl, hy⟩
  · rw [if_pos h0, if_pos h0]
  · rw [if_neg (by simp), if_neg (by simp), dif_pos (by simpa using hy)]
theorem durW_eq {q : Nat} {k : QK} (h : k.1 = 0 ∨ ∃ y : Nat, k = qk y ∧ y < q) : durW s q (fun d _ => FF p ins s d) k = durF p ins s k := by
  unfold durW durF
  rcases h with h0 | ⟨y, rfl, hy⟩
  · rw [if_pos h0, if_pos h0]
  · rw [if_neg (by simp), if_neg (by simp), dif_pos (by simpa using hy)]
theorem keyLt {inp : Int} {q : Nat} {k : QK} (h : KeyIn inp q k) : k.1 = 0 ∨ ∃ y : Nat, k = qk y ∧ y < q := (keyIn_form h).imp id fun ⟨y, e, hy⟩ => ⟨y, e, by omega⟩
theorem vis_lt (hp : PrgOk p) (hb : Base p ins s) {q y : Nat} (hq : q < p.qs.length) (h : Vis p ins s q (qk y)) : y < q := by
  rcases h with ⟨_, h⟩ | ⟨r, l1, l2, hr, _, hd, _⟩
  · exact sub_lt hp hq h
  · rcases keyLt ((hb.deps q r hr).2 (qk y) (by rw [hd]; simp)) with h | ⟨z, e, hz⟩
    · simp at h
    · rw [qk_inj.1 e]; exact hz
theorem rch_le (hp : PrgOk p) (hb : Base p ins s) {q x : Nat} (h : Rch p ins s q x) : q < p.qs.length → x ≤ q := by
  induction h with
  | refl q => intro _; exact Nat.le_refl _
  | step hv _ ih =>
    intro hq
    have := vis_lt hp hb hq hv
    have := ih (by omega)
    omega
/-- the keys of done queries -/
theorem Desc.chg {D : List Nat} {t : PS} (h : Desc p ins s D t) {k : QK} (hk : k.1 = 0 ∨ ∃ y : Nat, k = qk y ∧ y ∈ D) : keyChg t k = chgF p ins s k ∧ keyDur t k = durF p ins s k := by
  unfold keyChg chgF keyDur durF
  rcases hk with h0 | ⟨y, rfl, hy⟩
  · rw [if_pos h0, if_pos h0, if_pos h0, if_pos h0, h.inp]
    exact ⟨rfl, rfl⟩
  · obtain ⟨r, a1, a2, a3, a4, a5, a6⟩ := h.done y hy
    rw [if_neg (by simp), if_neg (by simp), if_neg (by simp), if_neg (by simp), res_get a1]
    simp only [Int.toNat_natCast]
    exact ⟨a4, a5⟩
theorem Desc.beg {D : List Nat} {t : PS} (h : Desc p ins s D t) (k : QK) : Desc p ins s D (begP t k) := ⟨h.rev, h.last, h.inp, h.done, h.rest, h.cnt, h.closed, h.nd, h.lt⟩
theorem Desc.idle {D : List Nat} {t : PS} (h : Desc p ins s D t) : Desc p ins s D t.idle := ⟨h.rev, h.last, h.inp, h.done, h.rest, h.cnt, h.closed, h.nd, h.lt⟩
/-- one more query is done -/
theorem Desc.put {D : List Nat} {t t' : PS} (h : Desc p ins s D t) {q : Nat} (hq : q ∉ D) (hqN : q < p.qs.length) {r : RV} (hes : ∀ k, aget t'.es k = if qk q = k then some r else aget t.es k) (hr : EqU r (FF p ins s q).1) (h1 : t'.rev = t.rev) (h2 : ∀ d, t'.last d = t.last d) (h3 : ∀ k, t'.inp k = t.inp k)
    (h4 : t'.cnt = t.cnt + (if (FF p ins s q).2 then 1 else 0)) (hv : ∀ y, Vis p ins s q (qk y) → y ∈ D) : Desc p ins s (q :: D) t' := by
  refine ⟨h1.trans h.rev, fun d => (h2 d).trans (h.last d), fun k => (h3 k).trans (h.inp k), fun x hx => ?_, fun x hx => ?_, ?_, fun x hx y hy => ?_, List.nodup_cons.2 ⟨hq, h.nd⟩, fun x hx => ?_⟩
  · rcases List.mem_cons.1 hx with rfl | hx
    · exact ⟨r, by rw [hes, if_pos rfl], hr⟩
    · obtain ⟨r', a1, a2⟩ := h.done x hx
      exact ⟨r', by rw [hes, if_neg (fun e => hq (by rw [qk_inj.1 e]; exact hx)), a1], a2⟩
  · rw [hes, if_neg (fun e => hx (by rw [qk_inj.1 e]; simp))]
    exact h.rest x fun hx' => hx (by simp [hx'])
  · rw [h4, h.cnt]
    unfold cntF
    rw [List.filter_cons]
    split
    · simp only [List.length_cons]; omega
    · simp
  · rcases List.mem_cons.1 hx with rfl | hx
    · exact List.mem_cons_of_mem _ (hv y hy)
    · exact List.mem_cons_of_mem _ (h.closed x hx y hy)
  · rcases List.mem_cons.1 hx with rfl | hx
    · exact hqN
    · exact h.lt x hx
/-- an evaluation brings D to D' -/
structure Brings (p : Prg) (ins : List Int) (s : PS) (D : List Nat) (P : Nat → Prop) (D' : List Nat) (t' : PS) : Prop where
  desc : Desc p ins s D' t'
  sub : ∀ x ∈ D, x ∈ D'
  new : ∀ x ∈ D', x ∈ D ∨ ∃ y, P y ∧ Rch p ins s y x
def UpdD (p : Prg) (ins : List Int) (s : PS) (R : Bool → PS → Nat → PS → Prop) : Prop :=
  ∀ b t q t' D, R b t q t' → q < p.qs.length → Desc p ins s D t → ∃ D', Brings p ins s D (fun y => y = q) D' t' ∧ (b = true → q ∈ D')
theorem seq_desc {R : Bool → PS → Nat → PS → Prop} (hR : UpdD p ins s R) {q : Nat} (hqN : q < p.qs.length) {b : Bool} {t t' : PS} {l : List QK} (h : SeqR (Rlt R q) b t l t') : ∀ D, Desc p ins s D t →
    ∃ D', Brings p ins s D (fun y => qk y ∈ l) D' t' ∧ (b = true → ∀ y, qk y ∈ l → y ∈ D') ∧ ∀ y, qk y ∈ l.dropLast → y ∈ D' := by
  induction h with
  | nil => intro D hD; exact ⟨D, ⟨hD, fun _ h => h, fun x hx => .inl hx⟩, fun _ y hy => by simp at hy, fun y hy => by simp at hy⟩
  | @inp b t k l t' h0 hs ih =>
    intro D hD
    obtain ⟨D', ⟨a1, a2, a3⟩, a4, a5⟩ := ih D hD
    have hne : ∀ y, qk y ∈ k :: l → qk y ∈ l := fun y hy => (List.mem_cons.1 hy).elim (fun e => by rw [← e] at h0; simp at h0) id
    refine ⟨D', ⟨a1, a2, fun x hx => (a3 x hx).imp id fun ⟨y, b1, b2⟩ => ⟨y, by simp [b1], b2⟩⟩, fun hb y hy => a4 hb y (hne y hy), fun y hy => a5 y ?_⟩
    cases l with
    | nil => simp at hy
    | cons z l =>
      rw [List.dropLast_cons_of_ne_nil (by simp)] at hy
      exact (List.mem_cons.1 hy).elim (fun e => by rw [← e] at h0; simp at h0) id
  | @qry b t q0 t1 l t' hr hs ih =>
    intro D hD
    obtain ⟨D1, ⟨c1, c2, c3⟩, c4⟩ := hR _ _ _ _ D hr.2 (by have := hr.1; omega) hD
    obtain ⟨D', ⟨a1, a2, a3⟩, a4, a5⟩ := ih D1 c1
    refine ⟨D', ⟨a1, fun x hx => a2 x (c2 x hx), fun x hx => ?_⟩, fun hb y hy => ?_, fun y hy => ?_⟩
    · rcases a3 x hx with hx | ⟨y, b1, b2⟩
      · rcases c3 x hx with hx | ⟨y, rfl, b2⟩
        · exact .inl hx
        · exact .inr ⟨y, by simp, b2⟩
      · exact .inr ⟨y, by simp [b1], b2⟩
    · rcases List.mem_cons.1 hy with e | hy
      · rw [qk_inj.1 e]; exact a2 _ (c4 rfl)
      · exact a4 hb y hy
    · cases l with
      | nil => simp at hy
      | cons z l =>
        rw [List.dropLast_cons_of_ne_nil (by simp)] at hy
        rcases List.mem_cons.1 hy with e | hy
        · rw [qk_inj.1 e]; exact a2 _ (c4 rfl)
        · exact a5 y hy
  | @halt t q0 t1 hr =>
    intro D hD
    obtain ⟨D1, ⟨c1, c2, c3⟩, c4⟩ := hR _ _ _ _ D hr.2 (by have := hr.1; omega) hD
    exact ⟨D1, ⟨c1, c2, fun x hx => (c3 x hx).imp id fun ⟨y, e, b2⟩ => ⟨y, by rw [e]; simp, b2⟩⟩, fun hb => by simp at hb, fun y hy => by simp at hy⟩
theorem not_new (hp : PrgOk p) (hb : Base p ins s) {q : Nat} (hqN : q < p.qs.length) {D D' : List Nat} {P : Nat → Prop} {t' : PS} (h : Brings p ins s D P D' t') (hP : ∀ y, P y → y < q) (hq : q ∉ D) : q ∉ D' := fun hx => by
  rcases h.new q hx with hx | ⟨y, b1, b2⟩
  · exact hq hx
  · have h1 := hP y b1
    have h2 := rch_le hp hb b2 (by omega)
    omega
theorem qk_mem_lt (hb : Base p ins s) {q : Nat} {r : RV} (hr : aget s.es (qk q) = some r) {y : Nat} (hy : qk y ∈ r.deps) : y < q := by
  rcases keyLt ((hb.deps q r hr).2 _ hy) with h | ⟨z, e, hz⟩
  · simp at h
  · rw [qk_inj.1 e]; exact hz
/-- the check that says: compute -/
theorem bad_desc (hp : PrgOk p) (hb : Base p ins s) {R : Bool → PS → Nat → PS → Prop} (hR : UpdD p ins s R) {t t2 : PS} {q : Nat} (hqN : q < p.qs.length) {D : List Nat} (hD : Desc p ins s D t) (hq : q ∉ D) (h : Bad R t q t2) :
    ∃ D1, Brings p ins s D (fun y => Vis p ins s q (qk y)) D1 t2 ∧ q ∉ D1 ∧ FF p ins s q = (newF p ins s q (durL (durF p ins s) (reads p ins q)), true) ∧ ∀ y, (∃ r l1 l2, aget s.es (qk q) = some r ∧ ¬ SkipAt s r ∧ r.deps = l1 ++ qk y :: l2 ∧ ∀ x ∈ l1, chgF p ins s x ≤ r.ver) → y ∈ D1 := by
  have hdur : durL (durW s q (fun d _ => FF p ins s d)) (reads p ins q) = durL (durF p ins s) (reads p ins q) := by
    have hk : ∀ k ∈ reads p ins q, durW s q (fun d _ => FF p ins s d) k = durF p ins s k := fun k hk => durW_eq (keyLt (reads_in hp ins q hqN k hk))
    unfold durL
    generalize (2 : Int) = d
    generalize reads p ins q = ks at hk
    induction ks generalizing d with
    | nil => rfl
    | cons x l ih => simp only [List.foldl_cons]; rw [hk x (by simp)]; exact ih _ fun k h => hk k (by simp [h])
  rcases h with ⟨hn, rfl⟩ | ⟨r, l1, d, l2, hr, hsk, hl, hs, hle, hlt⟩
  · rw [hD.rest q hq] at hn
    refine ⟨D, ⟨hD.beg _, fun _ h => h, fun x hx => .inl hx⟩, hq, ?_, fun y ⟨r, _, _, hr, _⟩ => by rw [hn] at hr; cases hr⟩
    rw [FF_eq]
    unfold finF
    rw [hn]
    simp only
    rw [hdur]
  · rw [hD.rest q hq] at hr
    have hsk' : ¬ SkipAt s r := fun h => hsk (by rw [hD.rev, hD.last]; exact h)
    obtain ⟨D1, hB, h1, h2⟩ := seq_desc hR hqN hs D (hD.beg _)
    have hmem : ∀ k ∈ l1 ++ [d], k ∈ r.deps := fun k hk => by
      rw [hl]
      rcases List.mem_append.1 hk with hk | hk
      · exact List.mem_append_left _ hk
      · rw [List.mem_singleton.1 hk]; simp
    have hform : ∀ k ∈ l1 ++ [d], k.1 = 0 ∨ ∃ y : Nat, k = qk y ∧ y ∈ D1 := fun k hk => (keyIn_form ((hb.deps q r hr).2 k (hmem k hk))).imp id fun ⟨y, e, _⟩ => ⟨y, e, h1 rfl y (e ▸ hk)⟩
    have hle' : ∀ k ∈ l1, chgF p ins s k ≤ r.ver := fun k hk => by
      rw [← (hB.desc.chg (hform k (by simp [hk]))).1]; exact hle k hk
    have hlt' : r.ver < chgF p ins s d := by rw [← (hB.desc.chg (hform d (by simp))).1]; exact hlt
    have hq1 : q ∉ D1 := not_new hp hb hqN hB (fun y hy => qk_mem_lt hb hr (hmem _ hy)) hq
    have hvis : ∀ k ∈ l1 ++ [d], Vis p ins s q k := fun k b1 => by
      rcases List.mem_append.1 b1 with hm | hm
      · obtain ⟨a, c, e⟩ := List.append_of_mem hm
        exact .inr ⟨r, a, c ++ d :: l2, hr, hsk', by rw [hl, e]; simp, fun x hx => hle' x (by rw [e]; simp [hx])⟩
      · exact .inr ⟨r, l1, l2, hr, hsk', by rw [hl, List.mem_singleton.1 hm], hle'⟩
    refine ⟨D1, ⟨hB.desc, hB.sub, fun x hx => (hB.new x hx).imp id fun ⟨y, b1, b2⟩ => ⟨y, hvis _ b1, b2⟩⟩, hq1, ?_, fun y hy => ?_⟩
    · rw [FF_eq]
      unfold finF
      rw [hr]
      simp only
      rw [if_neg hsk', if_neg, hdur]
      intro hall
      have := List.all_eq_true.1 hall d (by rw [hl]; simp)
      rw [decide_eq_true_eq, chgW_eq (keyLt ((hb.deps q r hr).2 d (by rw [hl]; simp)))] at this
      omega
    · obtain ⟨r', a, c, hr', _, e, hx⟩ := hy
      rw [hr] at hr'
      cases hr'
      refine h1 rfl y ?_
      rw [hl] at e
      rcases List.append_eq_append_iff.1 e with ⟨z, e1, e2⟩ | ⟨z, e1, e2⟩
      · cases z with
        | nil => simp only [List.nil_append, List.cons.injEq] at e2; rw [e2.1]; simp
        | cons z0 z =>
          simp only [List.cons_append, List.cons.injEq] at e2
          have := hx d (by rw [e1, e2.1]; simp)
          omega
      · cases z with
        | nil => simp only [List.nil_append, List.cons.injEq] at e2; rw [e2.1]; simp
        | cons z0 z =>
          simp only [List.cons_append, List.cons.injEq] at e2
          rw [e1, e2.1]
          simp
end Go.Proofs.Ytdeodcomlakpaaa
