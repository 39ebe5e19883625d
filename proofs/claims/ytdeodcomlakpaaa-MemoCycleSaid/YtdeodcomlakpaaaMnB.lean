/- What an evaluation does, plainly; what it leaves of the database in memory. -/
import Derived.Test.YtdeodcomlakpaaaMnA
namespace Go.Proofs.Ytdeodcomlakpaaa
open Go.RowKit
set_option linter.unusedVariables false
/-! ### plain -/
section
variable (U : PS → QK → Except Int Unit × PS)
def PS.res (s : PS) (k : QK) : RV := (aget s.es k).getD ⟨[], 0, 0, 0, [], 0⟩
/-- has key changed since rev? -/
def chgSince (s : PS) (k : QK) (rev : Int) : Except Int Bool × PS :=
  if k.1 = 0 then (.ok (decide (rev < (s.inp k).ch)), s)
  else match U s k with
    | (.ok _, s') => (.ok (decide (rev < (s'.res k).chg)), s')
    | (.error x, s') => (.error x, s')
def anyChg (rev : Int) : List QK → PS → Except Int Bool × PS
  | [], s => (.ok false, s)
  | k :: l, s => match chgSince U s k rev with
    | (.ok true, s') => (.ok true, s')
    | (.ok false, s') => anyChg rev l s'
    | (.error x, s') => (.error x, s')
def validP (s : PS) (r : RV) : Except Int Bool × PS :=
  if r.ver = s.rev ∨ s.last r.dur ≤ r.ver then (.ok true, s)
  else match anyChg U r.ver r.deps s with
    | (.ok t, s') => (.ok (!t), s')
    | (.error x, s') => (.error x, s')
/-- a get under way: the database, the dependencies so far, the durability so far -/
abbrev GS := PS × List QK × Int
def getP (σ : GS) (k : QK) : Except Int (List Int) × GS :=
  if k.1 = 0 then (.ok (σ.1.inp k).xs, (σ.1, addK σ.2.1 k, min σ.2.2 (σ.1.inp k).du))
  else match U σ.1 k with
    | (.ok _, s') => (.ok (s'.res k).xs, (s', addK σ.2.1 k, min σ.2.2 (s'.res k).dur))
    | (.error x, s') => (.error x, (s', σ.2))
variable (C : QK → (GS → QK → Except Int (List Int) × GS) → GS → Except Int (List Int) × GS) (stop : PS → Bool)
def newRes (s : PS) (k : QK) (rev : Int) (xs : List Int) (deps : List QK) (dur : Int) : RV :=
  ⟨xs, rev, match aget s.es k with
    | some old => if old.dur ≤ dur ∧ old.xs = xs then old.chg else rev
    | none => rev, dur, deps, 0⟩
def recompP (s : PS) (k : QK) : Except Int Unit × PS :=
  if stop s = true then (.error 12, s)
  else match C k (getP U) (s, [], 2) with
    | (.ok xs, (s', deps, dur)) => (.ok (), { s' with es := ups s'.es k (newRes s' k s.rev xs deps dur), cnt := wrap64 (s'.cnt + 1) })
    | (.error x, (s', _)) => (.error x, s')
/-- the end of update -/
def finP (s : PS) (k : QK) : PS :=
  { s with es := ups s.es k { s.res k with ver := s.rev, use := wrap64 (s.clk + 1) }, clk := wrap64 (s.clk + 1), act := adel s.act k }
def thenFin (k : QK) : Except Int Unit × PS → Except Int Unit × PS
  | (.ok _, s) => (.ok (), finP s k)
  | (.error x, s) => (.error x, s)
def updP (s : PS) (k : QK) : Except Int Unit × PS :=
  if s.busy k ≠ 0 then (.error 8, s)
  else
    let s1 : PS := { s with act := ups s.act k 1 }
    match aget s1.es k with
    | none => thenFin k (recompP U C stop s1 k)
    | some r => match validP U s1 r with
      | (.ok true, s2) => (.ok (), finP s2 k)
      | (.ok false, s2) => thenFin k (recompP U C stop s2 k)
      | (.error x, s2) => (.error x, s2)
end
/-! ### in memory -/
/-- what an evaluation leaves -/
structure Next (b : Nat) (w w' : World) (d d' : Dm) : Prop where
  mem : DmAt w' b d'
  chg : ChgP (fun g => g ∈ d.muts b) w w'
  muts : ∀ g ∈ d'.muts b, g ∈ d.muts b ∨ w.heap.size ≤ g
  imms : ∀ g ∈ d'.imms, g ∈ d.imms ∨ w.heap.size ≤ g
  comp : d'.comp = d.comp
  stop : d'.stop = d.stop
  store : d'.S = d.S
  bs : d'.bs = d.bs
  bsm : d'.bsm = d.bsm
  br : d'.br = d.br
  ba : d'.ba = d.ba
  busy : ∀ k v, aget d.act k = some v → aget d'.act k = some v ∧ aget d'.es k = aget d.es k
theorem Next.new {b : Nat} {w w' : World} {d : Dm} (h : DmAt w b d) (hc : Chg [] w w') : Next b w w' d d :=
  ⟨h.new hc, hc.p, fun _ h => .inl h, fun _ h => .inl h, rfl, rfl, rfl, rfl, rfl, rfl, rfl, fun _ _ h => ⟨h, rfl⟩⟩
theorem Next.refl {b : Nat} {w : World} {d : Dm} (h : DmAt w b d) : Next b w w d d := Next.new h (Chg.refl _ _)
theorem Next.trans {b : Nat} {w w1 w2 : World} {d d1 d2 : Dm} (h : Next b w w1 d d1) (k : Next b w1 w2 d1 d2) : Next b w w2 d d2 where
  mem := k.mem
  chg := h.chg.comp k.chg h.muts
  muts g hg := (k.muts g hg).elim (h.muts g) fun hs => .inr (Nat.le_trans h.chg.size hs)
  imms g hg := (k.imms g hg).elim (h.imms g) fun hs => .inr (Nat.le_trans h.chg.size hs)
  comp := k.comp.trans h.comp
  stop := k.stop.trans h.stop
  store := k.store.trans h.store
  bs := k.bs.trans h.bs
  bsm := k.bsm.trans h.bsm
  br := k.br.trans h.br
  ba := k.ba.trans h.ba
  busy x v hx := by
    obtain ⟨h1, h2⟩ := h.busy x v hx
    obtain ⟨k1, k2⟩ := k.busy x v h1
    exact ⟨k1, k2.trans h2⟩
theorem Next.thenNew {b : Nat} {w w1 w2 : World} {d d1 : Dm} (h : Next b w w1 d d1) (hc : Chg [] w1 w2) : Next b w w2 d d1 := h.trans (Next.new h.mem hc)
theorem Next.afterNew {b : Nat} {w w1 w2 : World} {d d2 : Dm} (h : DmAt w b d) (hc : Chg [] w w1) (k : Next b w1 w2 d d2) : Next b w w2 d d2 := (Next.new h hc).trans k
/-- a block that is none of the database's stays -/
theorem Next.other {b : Nat} {w w' : World} {d d' : Dm} (h : Next b w w' d d') {g : Nat} (hg : g < w.heap.size) (hn : g ∉ d.muts b) : w'.heap[g]? = w.heap[g]? ∧ g ∉ d'.muts b ∧ g < w'.heap.size :=
  ⟨h.chg.block g hg hn, fun hm => (h.muts g hm).elim hn fun hs => absurd hg (Nat.not_lt.2 hs), Nat.lt_of_lt_of_le hg h.chg.size⟩
/-- the ground of an evaluation: blocks that nobody writes -/
structure Env (w0 : World) (RO : Nat → Prop) (b : Nat) (w : World) (d : Dm) : Prop where
  mem : DmAt w b d
  ro : ∀ g, RO g → g < w.heap.size ∧ w.heap[g]? = w0.heap[g]? ∧ g ∉ d.muts b
theorem Env.next {w0 : World} {RO : Nat → Prop} {b : Nat} {w w' : World} {d d' : Dm} (h : Env w0 RO b w d) (k : Next b w w' d d') : Env w0 RO b w' d' :=
  ⟨k.mem, fun g hg => by
    obtain ⟨h1, h2, h3⟩ := h.ro g hg
    obtain ⟨k1, k2, k3⟩ := k.other h1 h3
    exact ⟨k3, k1.trans h2, k2⟩⟩
theorem Env.new {w0 : World} {RO : Nat → Prop} {b : Nat} {w w' : World} {d : Dm} (h : Env w0 RO b w d) (hc : Chg [] w w') : Env w0 RO b w' d := h.next (Next.new h.mem hc)
/-- what update brings -/
def UPost (U : PS → QK → Except Int Unit × PS) (ch : Int → List PanicEntry) (b : Nat) (k : QK) (w : World) (d : Dm) (e : Ending) (w' : World) : Prop :=
  ∃ d', Next b w w' d d' ∧ d'.pl = (U d.pl k).2 ∧ match (U d.pl k).1 with
    | .ok _ => ∃ r, aget d'.es k = some r ∧ e = .returned r.val
    | .error x => e = .panicked (ch x)
/-- what a test brings -/
def BPost (R : PS → Except Int Bool × PS) (ch : Int → List PanicEntry) (b : Nat) (w : World) (d : Dm) (e : Ending) (w' : World) : Prop :=
  ∃ d', Next b w w' d d' ∧ d'.pl = (R d.pl).2 ∧ match (R d.pl).1 with
    | .ok t => e = .returned (.bool t)
    | .error x => e = .panicked (ch x)
theorem UPost.ok {U : PS → QK → Except Int Unit × PS} {ch : Int → List PanicEntry} {b : Nat} {k : QK} {w w' : World} {d : Dm} {e : Ending} (h : UPost U ch b k w d e w') {u : Unit} {s' : PS} (hu : U d.pl k = (.ok u, s')) :
    ∃ d' r, e = .returned r.val ∧ Next b w w' d d' ∧ d'.pl = s' ∧ aget d'.es k = some r := by
  obtain ⟨d', h1, h2, h3⟩ := h
  rw [hu] at h2 h3
  obtain ⟨r, h4, h5⟩ := h3
  exact ⟨d', r, h5, h1, h2, h4⟩
theorem UPost.err {U : PS → QK → Except Int Unit × PS} {ch : Int → List PanicEntry} {b : Nat} {k : QK} {w w' : World} {d : Dm} {e : Ending} (h : UPost U ch b k w d e w') {x : Int} {s' : PS} (hu : U d.pl k = (.error x, s')) :
    ∃ d', e = .panicked (ch x) ∧ Next b w w' d d' ∧ d'.pl = s' := by
  obtain ⟨d', h1, h2, h3⟩ := h
  rw [hu] at h2 h3
  exact ⟨d', h3, h1, h2⟩
theorem UPost.mkOk {U : PS → QK → Except Int Unit × PS} {ch : Int → List PanicEntry} {b : Nat} {k : QK} {w w' : World} {d d' : Dm} {e : Ending} {r : Rs} {u : Unit} (hu : U d.pl k = (.ok u, d'.pl)) (hn : Next b w w' d d') (hr : aget d'.es k = some r) (he : e = .returned r.val) : UPost U ch b k w d e w' := by
  refine ⟨d', hn, by rw [hu], ?_⟩
  rw [hu]
  exact ⟨r, hr, he⟩
theorem UPost.mkErr {U : PS → QK → Except Int Unit × PS} {ch : Int → List PanicEntry} {b : Nat} {k : QK} {w w' : World} {d d' : Dm} {e : Ending} {x : Int} (hu : U d.pl k = (.error x, d'.pl)) (hn : Next b w w' d d') (he : e = .panicked (ch x)) : UPost U ch b k w d e w' := by
  refine ⟨d', hn, by rw [hu], ?_⟩
  rw [hu]
  exact he
theorem BPost.ok {R : PS → Except Int Bool × PS} {ch : Int → List PanicEntry} {b : Nat} {w w' : World} {d : Dm} {e : Ending} (h : BPost R ch b w d e w') {t : Bool} {s' : PS} (hu : R d.pl = (.ok t, s')) :
    ∃ d', e = .returned (.bool t) ∧ Next b w w' d d' ∧ d'.pl = s' := by
  obtain ⟨d', h1, h2, h3⟩ := h
  rw [hu] at h2 h3
  exact ⟨d', h3, h1, h2⟩
theorem BPost.err {R : PS → Except Int Bool × PS} {ch : Int → List PanicEntry} {b : Nat} {w w' : World} {d : Dm} {e : Ending} (h : BPost R ch b w d e w') {x : Int} {s' : PS} (hu : R d.pl = (.error x, s')) :
    ∃ d', e = .panicked (ch x) ∧ Next b w w' d d' ∧ d'.pl = s' := by
  obtain ⟨d', h1, h2, h3⟩ := h
  rw [hu] at h2 h3
  exact ⟨d', h3, h1, h2⟩
theorem BPost.mkOk {R : PS → Except Int Bool × PS} {ch : Int → List PanicEntry} {b : Nat} {w w' : World} {d d' : Dm} {e : Ending} {t : Bool} (hu : R d.pl = (.ok t, d'.pl)) (hn : Next b w w' d d') (he : e = .returned (.bool t)) : BPost R ch b w d e w' := by
  refine ⟨d', hn, by rw [hu], ?_⟩
  rw [hu]
  exact he
theorem BPost.mkErr {R : PS → Except Int Bool × PS} {ch : Int → List PanicEntry} {b : Nat} {w w' : World} {d d' : Dm} {e : Ending} {x : Int} (hu : R d.pl = (.error x, d'.pl)) (hn : Next b w w' d d') (he : e = .panicked (ch x)) : BPost R ch b w d e w' := by
  refine ⟨d', hn, by rw [hu], ?_⟩
  rw [hu]
  exact he
/-- an update that may be relied on, at the keys of K -/
structure UFam (w0 : World) (RO : Nat → Prop) (b : Nat) (comp stop : Value) (K : PS → QK → Prop) (U : PS → QK → Except Int Unit × PS) (ch : Int → List PanicEntry) : Prop where
  call : ∀ w d k, Env w0 RO b w d → d.comp = comp → d.stop = stop → K d.pl k → Calls Try.prog 68 #[.pointer (some ⟨b, 0, none⟩), i3v k] w (UPost U ch b k w d)
  keep : ∀ s k k', K s k → K s k' → K (U s k).2 k'
  kind : ∀ s k, K s k → k.1 ≠ 0 ∧ Inp.QKok k
/-- facts on the database's parts -/
theorem Dm.aget_pl {d : Dm} (k : QK) : aget d.pl.es k = (aget d.es k).map Rs.pl := aget_amap _ _ _
theorem Dm.res_pl {d : Dm} {k : QK} {r : Rs} (h : aget d.es k = some r) : d.pl.res k = r.pl := by
  unfold PS.res
  rw [Dm.aget_pl, h]
  rfl
theorem Dm.inp_pl {d : Dm} (k : QK) : d.pl.inp k = ivOf (d.S.at k) := by
  unfold PS.inp Inp.St.at
  rw [show d.pl.cells = amap ivOf d.S.es from rfl, aget_amap]
  cases aget d.S.es k <;> rfl
theorem DmAt.tx {w : World} {b : Nat} {d : Dm} (h : DmAt w b d) (k : QK) : (d.S.at k).tx = ⟨#[]⟩ := by
  unfold Inp.St.at
  cases hk : aget d.S.es k with
  | none => rfl
  | some c => exact h.text _ (aget_mem hk)
theorem DmAt.rs {w : World} {b : Nat} {d : Dm} (h : DmAt w b d) {k : QK} {r : Rs} (hr : aget d.es k = some r) : RsAt w r := h.each _ (aget_mem hr)
end Go.Proofs.Ytdeodcomlakpaaa
