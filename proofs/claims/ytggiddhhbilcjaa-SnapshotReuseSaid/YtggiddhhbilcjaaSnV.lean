/- Contracts over the laws' history. -/
import Derived.Test.YtggiddhhbilcjaaSnU
namespace Go.Proofs.Ytggiddhhbilcjaa.Sn
open Go.RowKit Go.ChangeMaps Go.MapKept Go.MuLone
set_option linter.unusedVariables false
set_option linter.unusedSimpArgs false
section
variable {p : Prg} {W0 w w' : World} {B : Nat} {d : Hm} {rows : List (List Int)} {tg : Nat → Nat}
/-- a snapshot's block -/
def SnapAt (w : World) (d : Hm) (sb : Nat) (rev : Int) : Prop := w.heap[sb]? = some (.cells #[.pointer (some ⟨d.b, 0, none⟩), .int .i64 rev] 82 (0, 0))
theorem SnapAt.new {sb : Nat} {rev : Int} (h : SnapAt w d sb rev) (hc : Chg [] w w') : SnapAt w' d sb rev := (hc.block _ (lt_of_obj h) (by simp)).trans h
theorem SnapAt.after {sb : Nat} {rev : Int} {d' : Hm} (h : SnapAt w d sb rev) (hm : HmAt w d) (k : AfterH w w' d d') : SnapAt w' d' sb rev := by
  have := (k.other (lt_of_obj h) (ne_tyM (by decide) hm (tyAt_cells h))).1.trans h
  unfold SnapAt
  rw [k.b]
  exact this
/-- a value, kept -/
theorem ints_after {d' : Hm} {a : Option Addr} {n c : Nat} {xs : List Int} (h : Inp.Ints w (.slice a n c) xs) (hm : HmAt w d) (k : AfterH w w' d d') : Inp.Ints w' (.slice a n c) xs :=
  intsKept' h fun g hg => k.chg.block g (tyAt_lt (tyAt_ints h hg)) (ne_tyM (by decide) hm (tyAt_ints h hg))
/-- a box of a value, kept -/
theorem box_after {d' : Hm} {g : Nat} {c : Array Value} (h : w.heap[g]? = some (.cells c 39 (0, 0))) (hm : HmAt w d) (k : AfterH w w' d d') : w'.heap[g]? = some (.cells c 39 (0, 0)) :=
  (k.other (lt_of_obj h) (ne_tyM (by decide) hm (tyAt_cells h))).1.trans h
def AtL (p : Prg) (W0 : World) (B : Nat) (d : Hm) (rev : Int) (w : World) (e : Ending) (w' : World) : Prop :=
  LawH p W0 B w' d ∧ AfterH w w' d d ∧ ((d.old ≤ rev ∧ rev ≤ d.lat ∧ ∃ sb, e = .returned (.tuple #[.pointer (some ⟨sb, 0, none⟩), .int .i64 0]) ∧ SnapAt w' d sb rev) ∨ (¬ (d.old ≤ rev ∧ rev ≤ d.lat) ∧ e = .returned (.tuple #[.pointer none, .int .i64 5])))
theorem LawH.atR (h : LawH p W0 B w d) (rev : Int) : Calls Try.prog 10 #[.pointer (some ⟨d.b, 0, none⟩), .int .i64 rev] w (AtL p W0 B d rev w) := by
  refine (at_any w d rev h.mem h.mu).mono ?_
  rintro e w' ⟨ha, hc⟩
  exact ⟨h.after ha h.mu, ha, hc.imp (fun ⟨a, b, sb, c, _, e⟩ => ⟨a, b, sb, c, e⟩) id⟩
def GetL (p : Prg) (W0 : World) (B : Nat) (rev : Int) (q : Nat) (w : World) (d : Hm) (e : Ending) (w' : World) : Prop :=
  ∃ d' a c, e = .returned (.tuple #[.agg #[.slice a 1 c, .string ⟨#[]⟩], .int .i64 0]) ∧ Inp.Ints w' (.slice a 1 c) [val p (insS p d.pl rev) q] ∧ LawH p W0 B w' d' ∧ AfterH w w' d d' ∧ d'.pl = (RQ p.qs rev p.qs.length d.pl (1, (q : Int), 0)).2 ∧ Stp p rev d.pl d'.pl
theorem LawH.get (hp : PrgOk p) (h : LawH p W0 B w d) (hinv : HInv p d.pl) {q : Nat} (hq : q < p.qs.length) {rev : Int} {sb : Nat} (hsb : SnapAt w d sb rev) (h0 : 0 ≤ rev) (h1 : rev ≤ d.lat) (hl : d.lat ≤ 100) (hold : d.old ≤ rev) :
    Calls Try.prog 11 #[.pointer (some ⟨sb, 0, none⟩), .agg #[.int .i64 1, .int .i64 (q : Int), .int .i64 0]] w (GetL p W0 B rev q w d) := by
  obtain ⟨W1, RO, bv, bq, qv, e1, e2, e3, e4⟩ := h.ex
  have hS : StOk p rev d.pl := ⟨hinv, h0, h1, by have : d.pl.lat = d.lat := rfl; omega⟩
  refine (get_any hp e2 w d q rev sb e1 e3 hq hS h.mu hsb (by omega)).mono ?_
  rintro e w' ⟨d', a, c, ha, hpl, hmu, rfl, hi, _⟩
  obtain ⟨hv, hst⟩ := get_val hp hinv h0 (show rev ≤ d.pl.lat from h1) hq
  rw [hv] at hi
  exact ⟨d', a, c, by rw [hv]; rfl, hi, h.after ha hmu, ha, hpl, by rw [hpl]; exact hst⟩
def StaleL (p : Prg) (W0 : World) (B : Nat) (d : Hm) (w : World) (e : Ending) (w' : World) : Prop := e = .returned (.tuple #[.agg #[.slice none 0 0, .string ⟨#[]⟩], .int .i64 11]) ∧ LawH p W0 B w' d ∧ AfterH w w' d d
theorem LawH.stale (h : LawH p W0 B w d) (q : Nat) {rev : Int} {sb : Nat} (hsb : SnapAt w d sb rev) (hold : rev < d.old) :
    Calls Try.prog 11 #[.pointer (some ⟨sb, 0, none⟩), .agg #[.int .i64 1, .int .i64 (q : Int), .int .i64 0]] w (StaleL p W0 B d w) := by
  refine (get_stale w d q rev sb h.mem h.mu hsb hold).mono ?_
  rintro e w' ⟨he, ha⟩
  exact ⟨he, h.after ha h.mu, ha⟩
def DiscL (p : Prg) (W0 : World) (B : Nat) (d : Hm) (rev : Int) (w : World) (e : Ending) (w' : World) : Prop :=
  e = .returned (.int .i64 (max d.old (min rev d.lat) - d.old)) ∧ LawH p W0 B w' { d with old := max d.old (min rev d.lat) } ∧ AfterH w w' d { d with old := max d.old (min rev d.lat) }
theorem LawH.discard (h : LawH p W0 B w d) (hRL : d.RL = []) {rev : Int} (hold : 0 ≤ d.old ∧ d.old ≤ 1000000) (hlat : 0 ≤ d.lat ∧ d.lat ≤ 1000000) (hrev : 0 ≤ rev ∧ rev ≤ 1000000) :
    Calls Try.prog 20 #[.pointer (some ⟨d.b, 0, none⟩), .int .i64 rev] w (DiscL p W0 B d rev w) := by
  refine (discard_any w d rev h.mem h.mu hRL hold hlat hrev).mono ?_
  rintro e w' ⟨he, ha⟩
  exact ⟨he, h.after ha h.mu, ha⟩
theorem LawH.comps (h : LawH p W0 B w d) : Calls Try.prog 19 #[.pointer (some ⟨d.b, 0, none⟩)] w fun e w' => e = .returned (.int .i64 d.cnt) ∧ LawH p W0 B w' d ∧ AfterH w w' d d := by
  refine (comps_any w d h.mem h.mu).mono ?_
  rintro e w' ⟨he, ha⟩
  exact ⟨he, h.after ha h.mu, ha⟩
end
end Go.Proofs.Ytggiddhhbilcjaa.Sn
