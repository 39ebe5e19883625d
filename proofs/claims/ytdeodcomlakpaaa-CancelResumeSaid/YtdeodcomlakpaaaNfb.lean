/- The database's Fork, over a program and its inputs. -/
import Derived.Test.YtdeodcomlakpaaaNfa
namespace Go.Proofs.Ytdeodcomlakpaaa
open Go.RowKit Go.ChangeMaps Go.MapKept
set_option linter.unusedVariables false
set_option linter.unusedSimpArgs false
/-- a state with the same results -/
structure SameR (s s2 : PS) : Prop where
  rev : s2.rev = s.rev
  last : ∀ d, s2.last d = s.last d
  cells : s2.cells = s.cells
  es : ∀ k, aget s2.es k = aget s.es k
  act : s2.act = []
  cnt : s2.cnt = s.cnt
  clk : s2.clk = s.clk
theorem SameR.inp {s s2 : PS} (h : SameR s s2) (k : QK) : s2.inp k = s.inp k := by unfold PS.inp; rw [h.cells]
theorem SameR.invW {p : Prg} {s s2 : PS} (h : SameR s s2) (hi : InvW p s) : InvW p s2 :=
  ⟨fun k r hr => hi.es k r (by rw [← h.es]; exact hr), fun k v hv => by rw [h.act] at hv; simp [aget_nil] at hv, fun k => by rw [h.inp]; exact hi.du k⟩
theorem RunP.same {p : Prg} {n : Nat} {s s2 : PS} {ins : List Int} (h : RunP p n s ins) (hs : SameR s s2) : RunP p n s2 ins := by
  obtain ⟨H, hI⟩ := h.inv
  exact ⟨⟨H, hI.fewer hs.rev hs.last hs.inp (fun q r hr => by rw [← hs.es]; exact hr) (hs.invW hI.w)⟩, hs.act, fun i hi => by rw [hs.inp]; exact h.inp i hi, h.us.fewer (fun k r hr => by rw [← hs.es]; exact hr) hs.clk, by unfold Ct; rw [hs.cnt, hs.clk]; exact h.ct, by rw [hs.clk]; exact h.clk, by rw [hs.rev]; exact h.rev⟩
variable {p : Prg} {wb : World} {b gi n : Nat} {w w' : World} {d : Dm} {ins : List Int}
/-- blocks of nobody's change -/
theorem DbF.past {S : Nat → Prop} (h : DbF p wb b w d) (hc : ChgP S w w') (hS : ∀ g, S g → g ∉ d.muts b ∧ g ∉ d.imms ∧ b < g ∧ wb.heap.size ≤ g) : DbF p wb b w' d := by
  obtain ⟨w0, RO, bv, bq, qv, g1, g2, g3, g4⟩ := h
  exact ⟨w0, RO, bv, bq, qv, g1.other hc fun g hg => ⟨(hS g hg).1, (hS g hg).2.1, fun hr => by have := g4 _ hr; have := (hS g hg).2.2.1; omega⟩, ChgP.toL ((g2.p (S := fun g => g ∈ ([] : List Nat))).comp hc fun g hg => Or.inr (hS g hg).2.2.2), g3, g4⟩
theorem RunM.past {S : Nat → Prop} (h : RunM p wb b gi w d ins) (hc : ChgP S w w') (hS : ∀ g, S g → g ∉ d.muts b ∧ g ∉ d.imms ∧ gi < g) : RunM p wb b gi w' d ins :=
  ⟨h.db.past hc fun g hg => ⟨(hS g hg).1, (hS g hg).2.1, by have := h.gb; have := (hS g hg).2.2; omega, by have := h.gw; have := (hS g hg).2.2; omega⟩, h.len, (hc.block gi h.lt (fun hg => by have := (hS gi hg).2.2; omega)).trans h.row, h.off, h.offi, h.gb, h.gw⟩
/-- a fork beside its original -/
structure Fk (p : Prg) (wb : World) (b gi : Nat) (w : World) (d : Dm) (nb : Nat) (w1 : World) (d2 : Dm) : Prop where
  db : DbF p wb nb w1 d2
  new : ∀ g ∈ d2.muts nb, w.heap.size ≤ g
  imm : ∀ g ∈ d2.imms, g ∈ d.imms
  chg : Chg [] w w1
  same : SameR d.pl d2.pl
  past : ∀ w2 w3, Chg [] w1 w2 → ChgP (fun g => g ∈ d.muts b ∨ g = gi) w2 w3 → Chg [] wb w3 → DbF p wb nb w3 d2
def ForkPostR (p : Prg) (wb : World) (b gi n : Nat) (w : World) (d : Dm) (ins : List Int) (e : Ending) (w' : World) : Prop :=
  ∃ nb d2, e = .returned (.pointer (some ⟨nb, 0, none⟩)) ∧ RunM p wb b gi w' d ins ∧ RunP p n d2.pl ins ∧ Fk p wb b gi w d nb w' d2
theorem RunM.fork (hp : PrgOk p) (hM : RunM p wb b gi w d ins) (hR : RunP p n d.pl ins) :
    Calls Try.prog 46 #[.pointer (some ⟨b, 0, none⟩)] w (ForkPostR p wb b gi n w d ins) := by
  obtain ⟨w0, RO, bv, bq, qv, g1, g2, g3, g4⟩ := hM.db
  have hlt := hM.db.lt
  refine (memoFork_any w b d hM.db.mem _ _ g1.comp fun k r hr => qryKok ((hM.db.inv.es k r.pl (by rw [Dm.aget_pl, hr]; rfl)).1) hp.size).mono ?_
  rintro e w1 ⟨nb, d2, rfl, hdm, hc, e1, e2, e3, e4, e5, e6, e7, hnew, himm⟩
  have hsame : SameR d.pl d2.pl := ⟨by show d2.S.rev = d.S.rev; rw [e3], fun dd => by show (if dd = 0 then d2.S.l0 else if dd = 1 then d2.S.l1 else d2.S.l2) = _; rw [e3]; rfl, by show amap ivOf d2.S.es = _; rw [e3]; rfl, e7, e4, e5, e6⟩
  have hnb : w.heap.size ≤ nb := hnew nb (by simp [Dm.muts])
  have hro : ∀ g, RO g → g < w.heap.size ∧ w.heap[g]? = w0.heap[g]? ∧ g ∉ d.muts b := g1.env.ro
  have hq : DbQ p w0 RO nb bv bq qv w1 d2 := ⟨⟨hdm, fun g hg => ⟨Nat.lt_of_lt_of_le (hro g hg).1 hc.size, (hc.block g (hro g hg).1 (by simp)).trans (hro g hg).2.1, fun hm => by have := hnew g hm; have := (hro g hg).1; omega⟩⟩, g1.mem, e1.trans g1.comp, e2, hsame.invW g1.inv⟩
  have hF : DbF p wb nb w1 d2 := ⟨w0, RO, bv, bq, qv, hq, g2.trans hc, fun g hg => by have := hnew g hg; omega, fun g hg => by have := (hro g hg).1; omega⟩
  refine ⟨nb, d2, rfl, hM.new hc, hR.same hsame, hF, hnew, himm, hc, hsame, fun w2 w3 c2 c3 cb => ?_⟩
  have hq2 := (hq.new c2).other c3 fun g hg => ?_
  · exact ⟨w0, RO, bv, bq, qv, hq2, cb, fun g hg => by have := hnew g hg; omega, fun g hg => by have := (hro g hg).1; omega⟩
  · have hgl : g < w.heap.size := by
      rcases hg with hg | rfl
      · exact hM.db.mem.lt g hg
      · exact hM.lt
    refine ⟨fun hm => by have := hnew g hm; omega, fun hm => ?_, fun hr => ?_⟩
    · rcases hg with hg | rfl
      · exact hM.db.mem.apart g (himm g hm) hg
      · exact hM.offi (himm g hm)
    · rcases hg with hg | rfl
      · exact (hro g hr).2.2 hg
      · have := g4 _ hr; have := hM.gb; omega
end Go.Proofs.Ytdeodcomlakpaaa
