/- Snapshots (plain): versions of inputs, results that hold for an interval of revisions, what an evaluation at a revision does. -/
import Derived.Test.YtggiddhhbilcjaaGi
namespace Go.Proofs.Ytggiddhhbilcjaa.Sn
open Go.RowKit
set_option linter.unusedVariables false
set_option linter.unusedSimpArgs false
def fev : Int := 1152921504606846976
/-- a stored result -/
structure RR where
  first : Int
  last : Int
  xs : List Int
  ins : List QK
/-- a history -/
structure HS where
  vers : QK → List (Int × List Int)
  res : QK → List RR
  lat : Int
  old : Int
  cnt : Int
def upd {V : Type} (f : QK → V) (k : QK) (v : V) : QK → V := fun x => if x = k then v else f x
def inpL (rev : Int) : List (Int × List Int) → List Int → Int → List Int × Int × Int
  | [], x, f => (x, f, fev)
  | e :: l, x, f => if rev < e.1 then (x, f, e.1 - 1) else inpL rev l e.2 e.1
def HS.inp (s : HS) (k : QK) (rev : Int) : List Int × Int × Int := inpL rev (s.vers k) [] 0
abbrev GT := HS × Int × Int × List QK
def addKs (l : List QK) (ks : List QK) : List QK := ks.foldl addK l
def getP (U : HS → QK → RR × HS) (rev : Int) (σ : GT) (k : QK) : Except Int (List Int) × GT :=
  if k.1 = 0 then (.ok (σ.1.inp k rev).1, (σ.1, max σ.2.1 (σ.1.inp k rev).2.1, min σ.2.2.1 (σ.1.inp k rev).2.2, addK σ.2.2.2 k))
  else (.ok (U σ.1 k).1.xs, ((U σ.1 k).2, max σ.2.1 (U σ.1 k).1.first, min σ.2.2.1 (U σ.1 k).1.last, addKs σ.2.2.2 (U σ.1 k).1.ins))
def putR (s : HS) (k : QK) (r : RR) : HS := { s with cnt := wrap64 (s.cnt + 1), res := upd s.res k (s.res k ++ [r]) }
def compP (qs : List (List QO)) (U : HS → QK → RR × HS) (rev : Int) (s : HS) (k : QK) : RR × HS :=
  match compQ qs k (getP U rev) (s, 0, fev, []) with
  | (.ok xs, σ) => (⟨σ.2.1, σ.2.2.1, xs, σ.2.2.2⟩, putR σ.1 k ⟨σ.2.1, σ.2.2.1, xs, σ.2.2.2⟩)
  | (.error _, σ) => (⟨0, 0, [], []⟩, σ.1)
def fits (rev : Int) (r : RR) : Bool := decide (r.first ≤ rev ∧ rev ≤ r.last)
def resP (qs : List (List QO)) (U : HS → QK → RR × HS) (rev : Int) (s : HS) (k : QK) : RR × HS :=
  match (s.res k).find? (fits rev) with
  | some r => (r, s)
  | none => compP qs U rev s k
def RQ (qs : List (List QO)) (rev : Int) : Nat → HS → QK → RR × HS
  | 0, s, _ => (⟨0, 0, [], []⟩, s)
  | n + 1, s, k => resP qs (RQ qs rev n) rev s k
/-! ### lists of keys -/
theorem sub_addKs (l ks : List QK) : ∀ x ∈ l, x ∈ addKs l ks := by
  induction ks generalizing l with
  | nil => exact fun x h => h
  | cons k ks ih => exact fun x h => ih _ x (sub_addK l k x h)
theorem mem_addKs (l ks : List QK) : ∀ x ∈ ks, x ∈ addKs l ks := by
  induction ks generalizing l with
  | nil => simp
  | cons k ks ih =>
    intro x h
    rcases List.mem_cons.1 h with rfl | h
    · exact sub_addKs _ ks _ (mem_addK l _)
    · exact ih _ x h
theorem mem_addKs_iff {l ks : List QK} {x : QK} (h : x ∈ addKs l ks) : x ∈ l ∨ x ∈ ks := by
  induction ks generalizing l with
  | nil => exact Or.inl h
  | cons k ks ih =>
    rcases ih h with h | h
    · rcases mem_addK_iff h with h | rfl
      · exact Or.inl h
      · exact Or.inr (by simp)
    · exact Or.inr (by simp [h])
theorem addKs_nodup {l : List QK} (h : l.Nodup) (ks : List QK) : (addKs l ks).Nodup := by
  induction ks generalizing l with
  | nil => exact h
  | cons k ks ih => exact ih (addK_nodup h k)
/-! ### versions -/
structure VOk (l : List (Int × List Int)) (lat : Int) : Prop where
  inc : l.Pairwise fun a b => a.1 < b.1
  bd : ∀ e ∈ l, 1 ≤ e.1 ∧ e.1 ≤ lat
theorem inpL_bd {rev : Int} (hr : rev ≤ fev) : ∀ {l : List (Int × List Int)} {x : List Int} {f : Int}, l.Pairwise (fun a b => a.1 < b.1) → (∀ e ∈ l, f < e.1) → f ≤ rev →
    f ≤ (inpL rev l x f).2.1 ∧ (inpL rev l x f).2.1 ≤ rev ∧ rev ≤ (inpL rev l x f).2.2 ∧ ((inpL rev l x f).2.2 = fev ∨ ∃ e ∈ l, rev < e.1 ∧ (inpL rev l x f).2.2 = e.1 - 1) ∧ ((inpL rev l x f).2.1 = f ∨ ∃ e ∈ l, e.1 ≤ rev ∧ (inpL rev l x f).2.1 = e.1) := by
  intro l
  induction l with
  | nil => intro x f _ _ hf; exact ⟨Int.le_refl _, hf, hr, Or.inl rfl, Or.inl rfl⟩
  | cons e l ih =>
    intro x f hi hb hf
    rw [List.pairwise_cons] at hi
    unfold inpL
    split
    · rename_i hlt
      exact ⟨Int.le_refl _, hf, by simp only; omega, Or.inr ⟨e, by simp, hlt, rfl⟩, Or.inl rfl⟩
    · rename_i hge
      obtain ⟨h1, h2, h3, h4, h5⟩ := ih (x := e.2) (f := e.1) hi.2 (fun e' h' => hi.1 e' h') (by omega)
      have := hb e (by simp)
      refine ⟨by omega, h2, h3, h4.imp id fun ⟨e', a, b⟩ => ⟨e', by simp [a], b⟩, Or.inr ?_⟩
      rcases h5 with h5 | ⟨e', a, b⟩
      · exact ⟨e, by simp, by omega, h5⟩
      · exact ⟨e', by simp [a], b⟩
theorem inpL_const {rev rev' : Int} (hr : rev ≤ fev) : ∀ {l : List (Int × List Int)} {x : List Int} {f : Int}, l.Pairwise (fun a b => a.1 < b.1) → (∀ e ∈ l, f < e.1) → f ≤ rev →
    (inpL rev l x f).2.1 ≤ rev' → rev' ≤ (inpL rev l x f).2.2 → inpL rev' l x f = inpL rev l x f := by
  intro l
  induction l with
  | nil => intro x f _ _ _ _ _; rfl
  | cons e l ih =>
    intro x f hi hb hf h1 h2
    rw [List.pairwise_cons] at hi
    unfold inpL at h1 h2 ⊢
    by_cases hlt : rev < e.1
    · rw [if_pos hlt] at h1 h2 ⊢
      simp only at h2
      rw [if_pos (by omega)]
    · rw [if_neg hlt] at h1 h2 ⊢
      have := (inpL_bd hr (x := e.2) hi.2 (fun e' h' => hi.1 e' h') (show e.1 ≤ rev by omega)).1
      rw [if_neg (by omega)]
      exact ih hi.2 (fun e' h' => hi.1 e' h') (by omega) h1 h2
/-- a later version does not matter at a former revision -/
theorem inpL_snoc {rev : Int} {e : Int × List Int} (hr : rev < e.1) : ∀ {l : List (Int × List Int)} {x : List Int} {f : Int}, (inpL rev (l ++ [e]) x f).1 = (inpL rev l x f).1 ∧ (inpL rev (l ++ [e]) x f).2.1 = (inpL rev l x f).2.1 := by
  intro l
  induction l with
  | nil => intro x f; unfold inpL; simp [hr, inpL]
  | cons e' l ih =>
    intro x f
    rw [List.cons_append]
    unfold inpL
    split
    · exact ⟨rfl, rfl⟩
    · exact ih
theorem inpL_snoc_ge {rev : Int} {e : Int × List Int} (hr : e.1 ≤ rev) : ∀ {l : List (Int × List Int)} {x : List Int} {f : Int}, (∀ e' ∈ l, e'.1 ≤ rev) → inpL rev (l ++ [e]) x f = (e.2, e.1, fev) := by
  intro l
  induction l with
  | nil =>
    intro x f _
    show (if rev < e.1 then _ else _) = _
    rw [if_neg (by omega)]
    rfl
  | cons e' l ih =>
    intro x f h
    rw [List.cons_append]
    unfold inpL
    have := h e' (by simp)
    rw [if_neg (by omega)]
    exact ih fun e'' h' => h e'' (by simp [h'])
theorem inpL_past {rev rev' : Int} : ∀ {l : List (Int × List Int)} {x : List Int} {f : Int}, (∀ e ∈ l, e.1 ≤ rev) → rev ≤ rev' → inpL rev' l x f = inpL rev l x f := by
  intro l
  induction l with
  | nil => intro x f _ _; rfl
  | cons e l ih =>
    intro x f h hr
    have := h e (by simp)
    unfold inpL
    rw [if_neg (by omega), if_neg (by omega)]
    exact ih (fun e' h' => h e' (by simp [h'])) hr
/-! ### the inputs at a revision -/
def insS (p : Prg) (s : HS) (v : Int) : List Int := (List.range p.inp.toNat).map fun (i : Nat) => (s.inp (0, (i : Int), 0) v).1.getD 0 0
theorem insS_get {p : Prg} {s : HS} {v : Int} {i : Nat} (hi : (i : Int) < p.inp) : (insS p s v).getD i 0 = (s.inp (0, (i : Int), 0) v).1.getD 0 0 := by
  unfold insS
  have : i < p.inp.toNat := by omega
  simp [List.getD_eq_getElem?_getD, this]
theorem insS_of_vers {p : Prg} {s s' : HS} (h : s'.vers = s.vers) (v : Int) : insS p s' v = insS p s v := by
  unfold insS HS.inp
  rw [h]
/-- an input's key -/
def InK (p : Prg) (k : QK) : Prop := k.1 = 0 ∧ 0 ≤ k.2.1 ∧ k.2.1 < p.inp ∧ k.2.2 = 0
/-- a result that may be relied on -/
structure ROk (p : Prg) (s : HS) (q : Nat) (r : RR) : Prop where
  val : ∀ v, 0 ≤ v → v ≤ s.lat → r.first ≤ v → v ≤ r.last → r.xs = [val p (insS p s v) q] ∧ ∀ k, TR p (insS p s v) q k → k.1 = 0 → k ∈ r.ins
  cst : ∀ k ∈ r.ins, ∀ v v', 0 ≤ v → v ≤ s.lat → r.first ≤ v → v ≤ r.last → 0 ≤ v' → v' ≤ s.lat → r.first ≤ v' → v' ≤ r.last → (s.inp k v).1 = (s.inp k v').1
  last : r.last = fev ∨ r.last < s.lat
  first : 0 ≤ r.first ∧ r.first ≤ s.lat
  ink : ∀ k ∈ r.ins, InK p k
  nd : r.ins.Nodup
theorem tr_zero {p : Prg} (hp : PrgOk p) {ins : List Int} {q : Nat} (hq : q < p.qs.length) {k : QK} (h : TR p ins q k) (h0 : k.1 = 0) : InK p k := by
  rcases h.key hp hq with ⟨a, b, c, d⟩ | ⟨a, _⟩
  · exact ⟨a, b, c, d⟩
  · omega
theorem ROk.move {p : Prg} (hp : PrgOk p) {s s' : HS} {q : Nat} (hq : q < p.qs.length) {r r' : RR} (h : ROk p s q r) (hx : r'.xs = r.xs) (hi : r'.ins = r.ins) (hl : r'.last = fev ∨ r'.last < s'.lat) (hf : 0 ≤ r'.first ∧ r'.first ≤ s'.lat)
    (hm : ∀ v, 0 ≤ v → v ≤ s'.lat → r'.first ≤ v → v ≤ r'.last → ∃ u, (0 ≤ u ∧ u ≤ s.lat ∧ r.first ≤ u ∧ u ≤ r.last) ∧ ∀ k ∈ r.ins, (s'.inp k v).1 = (s.inp k u).1) : ROk p s' q r' := by
  refine ⟨fun v h0 h1 h2 h3 => ?_, fun k hk v v' h0 h1 h2 h3 h4 h5 h6 h7 => ?_, hl, hf, by rw [hi]; exact h.ink, by rw [hi]; exact h.nd⟩
  · obtain ⟨u, ⟨u0, u1, u2, u3⟩, hu⟩ := hm v h0 h1 h2 h3
    obtain ⟨a1, a2⟩ := h.val u u0 u1 u2 u3
    have hag : ∀ i : Nat, TR p (insS p s u) q (0, (i : Int), 0) → red ((insS p s u).getD i 0) = red ((insS p s' v).getD i 0) := fun i hi => by
      have hk := a2 _ hi rfl
      have hn := (tr_zero hp hq hi rfl).2.2.1
      simp only at hn
      rw [insS_get hn, insS_get hn, hu _ hk]
    obtain ⟨b1, _, b3⟩ := val_same hp _ q (Nat.lt_succ_self q) hq hag
    exact ⟨by rw [hx, a1, b1], fun k hk h0 => by rw [hi]; exact a2 k ((b3 k).2 hk) h0⟩
  · rw [hi] at hk
    obtain ⟨u, ⟨u0, u1, u2, u3⟩, hu⟩ := hm v h0 h1 h2 h3
    obtain ⟨u', ⟨u0', u1', u2', u3'⟩, hu'⟩ := hm v' h4 h5 h6 h7
    rw [hu k hk, hu' k hk]
    exact h.cst k hk u u' u0 u1 u2 u3 u0' u1' u2' u3'
/-- each result was made at a revision of its own -/
def Sep (l : List RR) (lat : Int) : Prop := ∃ vs : List Int, vs.Nodup ∧ (∀ v ∈ vs, 0 ≤ v ∧ v ≤ lat) ∧ vs.length = l.length ∧ ∀ i (h : i < l.length) (h' : i < vs.length), l[i].first ≤ vs[i] ∧ vs[i] ≤ l[i].last
theorem Sep.add {l : List RR} {lat rev : Int} {r : RR} (h : Sep l lat) (hno : l.find? (fits rev) = none) (h0 : 0 ≤ rev) (h1 : rev ≤ lat) (hr : r.first ≤ rev ∧ rev ≤ r.last) : Sep (l ++ [r]) lat := by
  obtain ⟨vs, a, b, c, e⟩ := h
  refine ⟨vs ++ [rev], ?_, fun v hv => ?_, by simp [c], fun i hi hi' => ?_⟩
  · refine List.nodup_append.2 ⟨a, by simp, fun x hx y hy hxy => ?_⟩
    rw [List.mem_singleton] at hy
    subst hy hxy
    obtain ⟨i, hi, hx⟩ := List.getElem_of_mem hx
    have := e i (by omega) hi
    rw [List.find?_eq_none] at hno
    exact hno l[i] (List.getElem_mem _) (by unfold fits; rw [hx] at this; exact decide_eq_true this)
  · rcases List.mem_append.1 hv with hv | hv
    · exact b v hv
    · rw [List.mem_singleton] at hv; omega
  · by_cases hlt : i < l.length
    · rw [List.getElem_append_left hlt, List.getElem_append_left (by omega)]
      exact e i hlt (by omega)
    · have hi2 : i = l.length := by simp at hi; omega
      subst hi2
      rw [List.getElem_append_right (by omega), List.getElem_append_right (by omega)]
      simpa [c] using hr
theorem Sep.len {l : List RR} {lat : Int} (h : Sep l lat) : (l.length : Int) ≤ lat + 1 ∨ l = [] := by
  obtain ⟨vs, a, b, c, _⟩ := h
  by_cases h0 : l = []
  · exact Or.inr h0
  · left
    have hlat : 0 ≤ lat := by
      have : 0 < vs.length := by rw [c]; exact List.length_pos_iff.2 h0
      have := b vs[0] (List.getElem_mem this)
      omega
    have := nodup_below (lat.toNat + 1) (P := vs.map Int.toNat) (by
      refine List.pairwise_map.2 (a.imp_of_mem fun {x y} hx hy hne e => hne ?_)
      have h1 := b x hx
      have h2 := b y hy
      omega) (fun x hx => by
      obtain ⟨y, hy, rfl⟩ := List.mem_map.1 hx
      have := b y hy
      omega)
    rw [List.length_map, c] at this
    omega
structure HInv (p : Prg) (s : HS) : Prop where
  vers : ∀ k, VOk (s.vers k) s.lat
  lat : 0 ≤ s.lat ∧ s.lat < fev
  sep : ∀ k, Sep (s.res k) s.lat
  res : ∀ k r, r ∈ s.res k → ∃ q : Nat, q < p.qs.length ∧ k = (1, (q : Int), 0) ∧ ROk p s q r
theorem HInv.inp_bd {p : Prg} {s : HS} (h : HInv p s) (k : QK) {v : Int} (h0 : 0 ≤ v) (h1 : v ≤ s.lat) :
    0 ≤ (s.inp k v).2.1 ∧ (s.inp k v).2.1 ≤ v ∧ v ≤ (s.inp k v).2.2 ∧ ((s.inp k v).2.2 = fev ∨ (s.inp k v).2.2 < s.lat) := by
  have hl := h.lat
  obtain ⟨a, b, c, d, _⟩ := inpL_bd (rev := v) (by omega) (x := []) (f := 0) (h.vers k).inc (fun e he => by have := ((h.vers k).bd e he).1; omega) h0
  refine ⟨a, b, c, d.imp id fun ⟨e, he, _, h'⟩ => ?_⟩
  have := ((h.vers k).bd e he).2
  unfold HS.inp
  omega
theorem HInv.inp_const {p : Prg} {s : HS} (h : HInv p s) (k : QK) {v v' : Int} (h0 : 0 ≤ v) (h1 : v ≤ s.lat) (h2 : (s.inp k v).2.1 ≤ v') (h3 : v' ≤ (s.inp k v).2.2) : s.inp k v' = s.inp k v := by
  have hl := h.lat
  exact inpL_const (by omega) (h.vers k).inc (fun e he => by have := ((h.vers k).bd e he).1; omega) h0 h2 h3
theorem ROk.of_vers {p : Prg} {s s' : HS} {q : Nat} {r : RR} (h : ROk p s q r) (hv : s'.vers = s.vers) (hl : s'.lat = s.lat) : ROk p s' q r := by
  have e : ∀ k v, s'.inp k v = s.inp k v := fun k v => by unfold HS.inp; rw [hv]
  refine ⟨fun v => ?_, fun k hk v v' => ?_, by rw [hl]; exact h.last, by rw [hl]; exact h.first, h.ink, h.nd⟩
  · rw [insS_of_vers hv, hl]; exact h.val v
  · rw [e, e, hl]; exact h.cst k hk v v'
/-! ### evaluation -/
/-- results that are as long as they can be -/
def MX (p : Prg) (s : HS) (rev : Int) : Prop := ∀ (q : Nat) r, r ∈ s.res (1, (q : Int), 0) →
  (r.first = 0 ∨ ∃ k ∈ r.ins, r.first = (s.inp k rev).2.1) ∧ (r.last = fev ∨ ∃ k ∈ r.ins, r.last = (s.inp k rev).2.2) ∧ ∀ k ∈ r.ins, TR p (insS p s rev) q k
/-- what an evaluation leaves -/
structure Stp (p : Prg) (rev : Int) (s s' : HS) : Prop where
  inv : HInv p s'
  vers : s'.vers = s.vers
  lat : s'.lat = s.lat
  old : s'.old = s.old
  res : ∀ k r, r ∈ s.res k → r ∈ s'.res k
  mx : MX p s rev → MX p s' rev
theorem Stp.refl {p : Prg} {rev : Int} {s : HS} (h : HInv p s) : Stp p rev s s := ⟨h, rfl, rfl, rfl, fun _ _ h => h, id⟩
theorem Stp.trans {p : Prg} {rev : Int} {s s1 s2 : HS} (h : Stp p rev s s1) (k : Stp p rev s1 s2) : Stp p rev s s2 :=
  ⟨k.inv, k.vers.trans h.vers, k.lat.trans h.lat, k.old.trans h.old, fun x r hr => k.res x r (h.res x r hr), k.mx ∘ h.mx⟩
theorem Stp.inp {p : Prg} {rev : Int} {s s' : HS} (h : Stp p rev s s') (k : QK) (v : Int) : s'.inp k v = s.inp k v := by unfold HS.inp; rw [h.vers]
/-- what result brings -/
structure RPost (p : Prg) (rev : Int) (q : Nat) (s : HS) (x : RR × HS) : Prop where
  stp : Stp p rev s x.2
  abv : ∀ q' : Nat, q < q' → x.2.res (1, (q' : Int), 0) = s.res (1, (q' : Int), 0)
  mem : x.1 ∈ x.2.res (1, (q : Int), 0)
  bd : x.1.first ≤ rev ∧ rev ≤ x.1.last
def Good (p : Prg) (rev : Int) (U : HS → QK → RR × HS) (n : Nat) : Prop :=
  ∀ s (q : Nat), q < n → q < p.qs.length → HInv p s → 0 ≤ rev → rev ≤ s.lat → RPost p rev q s (U s (1, (q : Int), 0))
theorem key_inj {q q' : Nat} : ((1, (q : Int), 0) : QK) = (1, (q' : Int), 0) ↔ q = q' := by
  constructor
  · intro h
    have := congrArg (fun k : QK => k.2.1) h
    simp only at this
    omega
  · rintro rfl; rfl
theorem RPost.rok {p : Prg} {rev : Int} {q : Nat} {s : HS} {x : RR × HS} (h : RPost p rev q s x) : ROk p x.2 q x.1 := by
  obtain ⟨q', _, h1, h2⟩ := h.stp.inv.res _ _ h.mem
  obtain rfl := key_inj.1 h1
  exact h2
/-- a get under way -/
structure GJ (p : Prg) (rev : Int) (q : Nat) (s : HS) (σ : GT) (ks : List QK) : Prop where
  stp : Stp p rev s σ.1
  abv : ∀ q' : Nat, q ≤ q' → σ.1.res (1, (q' : Int), 0) = s.res (1, (q' : Int), 0)
  f0 : 0 ≤ σ.2.1 ∧ σ.2.1 ≤ rev
  l0 : rev ≤ σ.2.2.1
  ll : σ.2.2.1 = fev ∨ σ.2.2.1 < s.lat
  t0 : ∀ k ∈ ks, k.1 = 0 → k ∈ σ.2.2.2
  t1 : ∀ (q' : Nat) k, (1, (q' : Int), 0) ∈ ks → TR p (insS p s rev) q' k → k.1 = 0 → k ∈ σ.2.2.2
  cst : ∀ k ∈ σ.2.2.2, ∀ v v', 0 ≤ v → v ≤ s.lat → σ.2.1 ≤ v → v ≤ σ.2.2.1 → 0 ≤ v' → v' ≤ s.lat → σ.2.1 ≤ v' → v' ≤ σ.2.2.1 → (s.inp k v).1 = (s.inp k v').1
  ink : ∀ k ∈ σ.2.2.2, InK p k
  nd : σ.2.2.2.Nodup
  mf : MX p s rev → σ.2.1 = 0 ∨ ∃ k ∈ σ.2.2.2, σ.2.1 = (s.inp k rev).2.1
  ml : MX p s rev → σ.2.2.1 = fev ∨ ∃ k ∈ σ.2.2.2, σ.2.2.1 = (s.inp k rev).2.2
  mt : MX p s rev → ∀ k ∈ σ.2.2.2, k ∈ ks ∨ ∃ q' : Nat, (1, (q' : Int), 0) ∈ ks ∧ TR p (insS p s rev) q' k
section
variable {p : Prg} {rev : Int} {U : HS → QK → RR × HS} {n : Nat}
theorem getJ (hp : PrgOk p) (hU : Good p rev U n) {q : Nat} (hq : q ≤ n) (hqN : q < p.qs.length) {s : HS} (hs : HInv p s) (h0 : 0 ≤ rev) (h1 : rev ≤ s.lat) {σ : GT} {ks : List QK} {k : QK} (h : GJ p rev q s σ ks) (hk : KeyIn p.inp q k) :
    ∃ v σ', gmap (getP U rev) σ k = (.ok v, σ') ∧ (GR (insS p s rev) (val p (insS p s rev)) ks k).1 = .ok v ∧ GJ p rev q s σ' (GR (insS p s rev) (val p (insS p s rev)) ks k).2 := by
  obtain ⟨a, b, c⟩ := k
  rcases hk with ⟨e0, e1, e2, e3⟩ | ⟨e0, e1, e2, e3⟩
  · simp only at e0 e1 e2 e3
    subst e0 e3
    obtain ⟨i, rfl⟩ := Int.eq_ofNat_of_zero_le e1
    have hi : (σ.1.inp (0, (i : Int), 0) rev) = s.inp (0, (i : Int), 0) rev := h.stp.inp _ _
    obtain ⟨b0, b1, b2, b3⟩ := hs.inp_bd (0, (i : Int), 0) h0 h1
    refine ⟨red ((s.inp (0, (i : Int), 0) rev).1.getD 0 0), _, by unfold gmap getP; rw [if_pos rfl, hi], ?_, ?_⟩
    · unfold GR kvalOf
      simp only [if_pos]
      rw [show ((0 : Int), (i : Int), (0 : Int)).2.1.toNat = i from rfl, insS_get e2]
    · have f0 := h.f0
      have l0 := h.l0
      have ll := h.ll
      refine ⟨h.stp, h.abv, by simp only; omega, by simp only; omega, by simp only; omega, fun k hk hk0 => ?_, fun q' k hk ht hk0 => ?_, fun k hk v v' a0 a1 a2 a3 a4 a5 a6 a7 => ?_, fun k hk => ?_, addK_nodup h.nd _, fun hm => ?_, fun hm => ?_, fun hm k hk => ?_⟩
      · rcases mem_addK_iff hk with hk | rfl
        · exact sub_addK _ _ _ (h.t0 k hk hk0)
        · exact mem_addK _ _
      · rcases mem_addK_iff hk with hk | hk
        · exact sub_addK _ _ _ (h.t1 q' k hk ht hk0)
        · exact absurd (congrArg Prod.fst hk) (by simp)
      · simp only at a2 a3 a6 a7
        rcases mem_addK_iff hk with hk | rfl
        · exact h.cst k hk v v' a0 a1 (by omega) (by omega) a4 a5 (by omega) (by omega)
        · rw [hs.inp_const _ h0 h1 (v' := v) (by omega) (by omega), hs.inp_const _ h0 h1 (v' := v') (by omega) (by omega)]
      · rcases mem_addK_iff hk with hk | rfl
        · exact h.ink k hk
        · exact ⟨rfl, e1, e2, rfl⟩
      · simp only
        by_cases hc : (s.inp (0, (i : Int), 0) rev).2.1 ≤ σ.2.1
        · rw [Int.max_eq_left hc]
          exact (h.mf hm).imp id fun ⟨k, hk, e⟩ => ⟨k, sub_addK _ _ _ hk, e⟩
        · rw [Int.max_eq_right (by omega)]
          exact Or.inr ⟨_, mem_addK _ _, rfl⟩
      · simp only
        by_cases hc : σ.2.2.1 ≤ (s.inp (0, (i : Int), 0) rev).2.2
        · rw [Int.min_eq_left hc]
          exact (h.ml hm).imp id fun ⟨k, hk, e⟩ => ⟨k, sub_addK _ _ _ hk, e⟩
        · rw [Int.min_eq_right (by omega)]
          exact Or.inr ⟨_, mem_addK _ _, rfl⟩
      · rcases mem_addK_iff hk with hk | rfl
        · rcases h.mt hm k hk with hk | ⟨q', a, b⟩
          · exact Or.inl (sub_addK _ _ _ hk)
          · exact Or.inr ⟨q', sub_addK _ _ _ a, b⟩
        · exact Or.inl (mem_addK _ _)
  · simp only at e0 e1 e2 e3
    subst e0 e3
    obtain ⟨j, rfl⟩ := Int.eq_ofNat_of_zero_le e1
    have hR := hU σ.1 j (by omega) (by omega) h.stp.inv h0 (by rw [h.stp.lat]; exact h1)
    obtain ⟨r, s1, hu⟩ : ∃ r s1, U σ.1 (1, (j : Int), 0) = (r, s1) := ⟨_, _, rfl⟩
    rw [hu] at hR
    have hrk0 := hR.rok
    obtain ⟨hst, habv, hmem, hbd⟩ := hR
    simp only at hst habv hmem hbd hrk0
    have hss := h.stp.trans hst
    have hrk : ROk p s j r := hrk0.of_vers hss.vers.symm hss.lat.symm
    obtain ⟨v1, v2⟩ := hrk.val rev h0 h1 hbd.1 hbd.2
    refine ⟨red (r.xs.getD 0 0), _, by unfold gmap getP; rw [if_neg (by simp), hu], ?_, ?_⟩
    · unfold GR kvalOf
      simp only
      rw [if_neg (by simp), v1]
      show Except.ok (val p (insS p s rev) j) = Except.ok (red (val p (insS p s rev) j))
      rw [red_id (val_small p _ j)]
    · have f0 := h.f0
      have l0 := h.l0
      have ll := h.ll
      have rf := hrk.first
      have rl := hrk.last
      have hmx : MX p s rev → _ := fun hm => hss.mx hm j r hmem
      have hin : ∀ k, s1.inp k rev = s.inp k rev := fun k => hss.inp k rev
      refine ⟨hss, fun q' hq' => (habv q' (by omega)).trans (h.abv q' hq'), by simp only; omega, by simp only; omega, by simp only; omega, fun k hk hk0 => ?_, fun q' k hk ht hk0 => ?_, fun k hk v v' a0 a1 a2 a3 a4 a5 a6 a7 => ?_, fun k hk => ?_, addKs_nodup h.nd _, fun hm => ?_, fun hm => ?_, fun hm k hk => ?_⟩
      · rcases mem_addK_iff hk with hk | rfl
        · exact sub_addKs _ _ _ (h.t0 k hk hk0)
        · exact absurd hk0 (by simp)
      · rcases mem_addK_iff hk with hk | hk
        · exact sub_addKs _ _ _ (h.t1 q' k hk ht hk0)
        · obtain rfl := key_inj.1 hk
          exact mem_addKs _ _ _ (v2 k ht hk0)
      · simp only at a2 a3 a6 a7
        rcases mem_addKs_iff hk with hk | hk
        · exact h.cst k hk v v' a0 a1 (by omega) (by omega) a4 a5 (by omega) (by omega)
        · exact hrk.cst k hk v v' a0 a1 (by omega) (by omega) a4 a5 (by omega) (by omega)
      · rcases mem_addKs_iff hk with hk | hk
        · exact h.ink k hk
        · exact hrk.ink k hk
      · simp only
        by_cases hc : r.first ≤ σ.2.1
        · rw [Int.max_eq_left hc]
          exact (h.mf hm).imp id fun ⟨k, hk, e⟩ => ⟨k, sub_addKs _ _ _ hk, e⟩
        · rw [Int.max_eq_right (by omega)]
          exact (hmx hm).1.imp id fun ⟨k, hk, e⟩ => ⟨k, mem_addKs _ _ _ hk, by rw [e, hin]⟩
      · simp only
        by_cases hc : σ.2.2.1 ≤ r.last
        · rw [Int.min_eq_left hc]
          exact (h.ml hm).imp id fun ⟨k, hk, e⟩ => ⟨k, sub_addKs _ _ _ hk, e⟩
        · rw [Int.min_eq_right (by omega)]
          exact (hmx hm).2.1.imp id fun ⟨k, hk, e⟩ => ⟨k, mem_addKs _ _ _ hk, by rw [e, hin]⟩
      · rcases mem_addKs_iff hk with hk | hk
        · rcases h.mt hm k hk with hk | ⟨q', a, b⟩
          · exact Or.inl (sub_addK _ _ _ hk)
          · exact Or.inr ⟨q', sub_addK _ _ _ a, b⟩
        · refine Or.inr ⟨j, mem_addK _ _, ?_⟩
          have := (hmx hm).2.2 k hk
          rw [insS_of_vers hss.vers] at this
          exact this
theorem upd_same {V : Type} (f : QK → V) (k : QK) (v : V) : upd f k v k = v := by unfold upd; rw [if_pos rfl]
theorem upd_ne {V : Type} (f : QK → V) {k x : QK} (v : V) (h : x ≠ k) : upd f k v x = f x := by unfold upd; rw [if_neg h]
theorem comp_ok (hp : PrgOk p) (hU : Good p rev U n) {q : Nat} (hq : q ≤ n) (hqN : q < p.qs.length) {s : HS} (hs : HInv p s) (h0 : 0 ≤ rev) (h1 : rev ≤ s.lat) (hno : (s.res (1, (q : Int), 0)).find? (fits rev) = none) :
    RPost p rev q s (compP p.qs U rev s (1, (q : Int), 0)) ∧ ∃ σ, compQ p.qs (1, (q : Int), 0) (getP U rev) (s, 0, fev, []) = (.ok [val p (insS p s rev) q], σ) ∧ Stp p rev s σ.1 ∧ (∀ k ∈ σ.2.2.2, InK p k) ∧ σ.2.2.2.Nodup ∧ σ.1.res (1, (q : Int), 0) = s.res (1, (q : Int), 0) := by
  have hl := hs.lat
  have hJ0 : GJ p rev q s (s, 0, fev, []) [] := ⟨Stp.refl hs, fun _ _ => rfl, ⟨Int.le_refl _, h0⟩, by simp only; omega, Or.inl rfl, by simp, by simp, by simp, by simp, by simp, fun _ => Or.inl rfl, fun _ => Or.inl rfl, by simp⟩
  have hsim := runL_sim (G := gmap (getP U rev)) (G' := GR (insS p s rev) (Go.Proofs.Ytggiddhhbilcjaa.val p (insS p s rev))) (inp := p.inp) (idx := q) (R := GJ p rev q s) (E := fun _ _ => False) (gmap_small _ _ _) (fun σ ks k h hk => Or.inl (getJ hp hU hq hqN hs h0 h1 h hk)) (ops := p.qs.getD q []) (xs := []) (hp.qs q hqN).each (by simp) hJ0
  have hgr := runR_GR hp (insS p s rev) q hqN
  rcases hsim with ⟨zs, σ, a1, a2, a3⟩ | ⟨e, σ, _, hf⟩
  · have hval : zs.getD 0 0 = val p (insS p s rev) q ∧ (runL (GR (insS p s rev) (val p (insS p s rev))) (q : Int) (p.qs.getD q []) [] []).2 = reads p (insS p s rev) q := by
      unfold runR at hgr
      rcases hA : runL (GR (insS p s rev) (val p (insS p s rev))) (q : Int) (p.qs.getD q []) [] [] with ⟨a, b⟩
      rw [hA] at hgr a2
      simp only at a2
      subst a2
      simp only [Prod.mk.injEq, Except.ok.injEq] at hgr
      exact hgr
    rw [hval.2] at a3
    have hc : compQ p.qs (1, (q : Int), 0) (getP U rev) (s, 0, fev, []) = (.ok [val p (insS p s rev) q], σ) := by
      unfold compQ runR
      simp only [Int.toNat_natCast]
      rw [a1, ← hval.1]
    refine ⟨?_, σ, hc, a3.stp, a3.ink, a3.nd, a3.abv q (Nat.le_refl _)⟩
    unfold compP
    rw [hc]
    obtain ⟨s1, f, l, ins⟩ := σ
    simp only
    have S := a3.stp
    have f0 := a3.f0
    have l0 := a3.l0
    simp only at S f0 l0
    have htr : ∀ k, TR p (insS p s rev) q k → k.1 = 0 → k ∈ ins := fun k ht hk0 => by
      cases ht with
      | base hm => exact a3.t0 k hm hk0
      | step hm ht => exact a3.t1 _ k hm ht hk0
    have hrok : ROk p s q ⟨f, l, [val p (insS p s rev) q], ins⟩ := by
      have hcst := a3.cst
      refine ⟨fun v v0 v1 v2 v3 => ?_, hcst, a3.ll, ⟨f0.1, by simp only; omega⟩, a3.ink, a3.nd⟩
      simp only at v2 v3
      have hag : ∀ i : Nat, TR p (insS p s rev) q (0, (i : Int), 0) → red ((insS p s rev).getD i 0) = red ((insS p s v).getD i 0) := fun i hi => by
        have hk := htr _ hi rfl
        have hn := (tr_zero hp hqN hi rfl).2.2.1
        simp only at hn
        rw [insS_get hn, insS_get hn, hcst _ hk rev v h0 h1 f0.2 l0 v0 v1 v2 v3]
      obtain ⟨b1, _, b3⟩ := val_same hp _ q (Nat.lt_succ_self q) hqN hag
      exact ⟨by rw [b1], fun k hk hk0 => htr k ((b3 k).2 hk) hk0⟩
    have hin : ∀ k, s1.inp k rev = s.inp k rev := fun k => S.inp k rev
    have hput : Stp p rev s (putR s1 (1, (q : Int), 0) ⟨f, l, [val p (insS p s rev) q], ins⟩) := by
      refine ⟨⟨S.inv.vers, S.inv.lat, fun k => ?_, fun k r hr => ?_⟩, S.vers, S.lat, S.old, fun k r hr => ?_, fun hm q' r hr => ?_⟩
      · by_cases e : k = (1, (q : Int), 0)
        · subst e
          rw [show (putR s1 (1, (q : Int), 0) _).res (1, (q : Int), 0) = _ from upd_same _ _ _]
          have habv := a3.abv q (Nat.le_refl _)
          simp only at habv
          exact (S.inv.sep _).add (by rw [habv]; exact hno) h0 (by show rev ≤ s1.lat; rw [S.lat]; exact h1) ⟨f0.2, l0⟩
        · rw [show (putR s1 (1, (q : Int), 0) _).res k = _ from upd_ne _ _ e]
          exact S.inv.sep k
      · by_cases e : k = (1, (q : Int), 0)
        · subst e
          rw [show (putR s1 (1, (q : Int), 0) _).res (1, (q : Int), 0) = _ from upd_same _ _ _] at hr
          rcases List.mem_append.1 hr with hr | hr
          · obtain ⟨q', x1, x2, x3⟩ := S.inv.res _ r hr
            exact ⟨q', x1, x2, x3.of_vers rfl rfl⟩
          · rw [List.mem_singleton] at hr
            subst hr
            exact ⟨q, hqN, rfl, (hrok.of_vers S.vers S.lat).of_vers rfl rfl⟩
        · rw [show (putR s1 (1, (q : Int), 0) _).res k = _ from upd_ne _ _ e] at hr
          obtain ⟨q', x1, x2, x3⟩ := S.inv.res _ r hr
          exact ⟨q', x1, x2, x3.of_vers rfl rfl⟩
      · by_cases e : k = (1, (q : Int), 0)
        · subst e
          rw [show (putR s1 (1, (q : Int), 0) _).res (1, (q : Int), 0) = _ from upd_same _ _ _]
          exact List.mem_append_left _ (S.res _ r hr)
        · rw [show (putR s1 (1, (q : Int), 0) _).res k = _ from upd_ne _ _ e]
          exact S.res _ r hr
      · have hm1 := S.mx hm
        have hins : insS p (putR s1 (1, (q : Int), 0) ⟨f, l, [val p (insS p s rev) q], ins⟩) rev = insS p s1 rev := insS_of_vers rfl rev
        have hinp : ∀ k, (putR s1 (1, (q : Int), 0) ⟨f, l, [val p (insS p s rev) q], ins⟩).inp k rev = s1.inp k rev := fun k => rfl
        simp only [hins, hinp]
        by_cases e : ((1, (q' : Int), 0) : QK) = (1, (q : Int), 0)
        · rw [e, show (putR s1 (1, (q : Int), 0) _).res (1, (q : Int), 0) = _ from upd_same _ _ _] at hr
          rcases List.mem_append.1 hr with hr | hr
          · exact hm1 q' r (by rw [e]; exact hr)
          · rw [List.mem_singleton] at hr
            subst hr
            obtain rfl := key_inj.1 e
            have m1 := a3.mf hm
            have m2 := a3.ml hm
            have m3 := a3.mt hm
            simp only at m1 m2 m3
            refine ⟨m1.imp id fun ⟨k, hk, e⟩ => ⟨k, hk, by rw [hin]; exact e⟩, m2.imp id fun ⟨k, hk, e⟩ => ⟨k, hk, by rw [hin]; exact e⟩, fun k hk => ?_⟩
            rw [insS_of_vers S.vers]
            rcases m3 k hk with hk | ⟨q1, x, y⟩
            · exact TR.base hk
            · exact TR.step x y
        · rw [show (putR s1 (1, (q : Int), 0) _).res (1, (q' : Int), 0) = _ from upd_ne _ _ e] at hr
          exact hm1 q' r hr
    refine ⟨hput, fun q' hq' => ?_, ?_, by simp only; omega⟩
    · rw [show (putR s1 (1, (q : Int), 0) _).res (1, (q' : Int), 0) = _ from upd_ne _ _ (fun e => by have := key_inj.1 e; omega)]
      exact a3.abv q' (by omega)
    rw [show (putR s1 (1, (q : Int), 0) _).res (1, (q : Int), 0) = _ from upd_same _ _ _]
    simp
  · exact hf.elim
theorem res_ok (hp : PrgOk p) (hU : Good p rev U n) {q : Nat} (hq : q ≤ n) (hqN : q < p.qs.length) {s : HS} (hs : HInv p s) (h0 : 0 ≤ rev) (h1 : rev ≤ s.lat) : RPost p rev q s (resP p.qs U rev s (1, (q : Int), 0)) := by
  unfold resP
  cases hf : (s.res (1, (q : Int), 0)).find? (fits rev) with
  | none => exact (comp_ok hp hU hq hqN hs h0 h1 hf).1
  | some r =>
    have := List.find?_some hf
    unfold fits at this
    exact ⟨Stp.refl hs, fun _ _ => rfl, List.mem_of_find?_eq_some hf, by simpa using this⟩
end
theorem good_RQ {p : Prg} (hp : PrgOk p) (rev : Int) : ∀ n, Good p rev (RQ p.qs rev n) n := by
  intro n
  induction n with
  | zero => intro s q hq; omega
  | succ n ih => exact fun s q hq hqN hs h0 h1 => res_ok hp ih (by omega) hqN hs h0 h1
end Go.Proofs.Ytggiddhhbilcjaa.Sn
