/- The laws' history: its states in memory, Commit in it. -/
import Derived.Test.YtggiddhhbilcjaaSnS
import Derived.Test.YtggiddhhbilcjaaNra
import Derived.Test.YtggiddhhbilcjaaNbh
namespace Go.Proofs.Ytggiddhhbilcjaa.Sn
open Go.RowKit Go.ChangeMaps Go.MapKept Go.MuLone
set_option linter.unusedVariables false
set_option linter.unusedSimpArgs false
/-- a row of ints of one's own -/
def RowI (w : World) (v : Value) (xs : List Int) : Prop := w.ownsRow 0 3 1 v xs.length (xs.map (Value.int .i64))
theorem RowI.kept {S : Nat → Prop} {w w' : World} {v : Value} {xs : List Int} (h : RowI w v xs) (hc : ChgP S w w') (hS : ∀ g, v.ownBlock = some g → ¬ S g) : RowI w' v xs := ownsRow_kept h fun g hg hl => hc.block g hl (hS g hg)
theorem RowI.set {w : World} {g cap : Nat} {xs : List Int} {n : Nat} (h : w.ownsRow 0 3 1 (.slice (some ⟨g, 0, none⟩) n cap) n (xs.map (Value.int .i64))) (i : Nat) (x : Int) : (w.setCell ⟨g, i, none⟩ (.int .i64 x)).ownsRow 0 3 1 (.slice (some ⟨g, 0, none⟩) n cap) n ((xs.set i x).map (Value.int .i64)) := by
  have := (World.ownsRow.stored h i (.int .i64 x)).1
  rwa [← List.map_set] at this
/-- the states of the inputs -/
def StAt (B : Nat) (w : World) (v : Value) (rows : List (List Int)) : Prop :=
  ∃ vs : List Value, vs.length = rows.length ∧ w.ownsRow B 37 1 v rows.length vs ∧ ∀ j (h : j < rows.length), RowI w (vs.getD j undef) rows[j]
theorem StAt.kept {B : Nat} {S : Nat → Prop} {w w' : World} {v : Value} {rows : List (List Int)} (h : StAt B w v rows) (hc : ChgP S w w') (hS : ∀ g, (tyAt w g = some (some 3) ∨ tyAt w g = some (some 37)) → ¬ S g) : StAt B w' v rows := by
  obtain ⟨vs, h1, h2, h3⟩ := h
  exact ⟨vs, h1, ownsRow_kept h2 fun g hg hl => hc.block g hl (hS g (Or.inr (tyAt_own h2 hg))), fun j hj => (h3 j hj).kept hc fun g hg => hS g (Or.inl (tyAt_own (h3 j hj) hg))⟩
theorem StAt.new {B : Nat} {w w' : World} {v : Value} {rows : List (List Int)} (h : StAt B w v rows) (hc : Chg [] w w') : StAt B w' v rows := h.kept (S := fun _ => False) hc.p (fun _ _ h => h)
theorem StAt.after {B : Nat} {w w' : World} {d d' : Hm} {v : Value} {rows : List (List Int)} (h : StAt B w v rows) (hm : HmAt w d) (k : AfterH w w' d d') : StAt B w' v rows :=
  h.kept k.chg fun g hg => by
    rcases hg with hg | hg
    · exact ne_tyM (by decide) hm hg
    · exact ne_tyM (by decide) hm hg
/-- one state, read -/
theorem StAt.at_ {B : Nat} {w : World} {v : Value} {rows : List (List Int)} (h : StAt B w v rows) {j : Nat} (hj : j < rows.length) :
    ∃ g cap u, v = .slice (some ⟨g, 0, none⟩) rows.length cap ∧ rows.length ≤ cap ∧ cap ≤ maxLen ∧ w.cell? ⟨g, j, none⟩ = some u ∧ RowI w u rows[j] := by
  obtain ⟨vs, h1, h2, h3⟩ := h
  rcases h2.2 with ⟨rfl, h0⟩ | ⟨g, cap, cur, rfl, _, hg, hnc, hcm, _⟩
  · omega
  · have hj' : j < vs.length := by omega
    have c0 := h2.cells (g := g) rfl j vs[j] (by rw [List.getElem?_eq_getElem hj'])
    rw [Addr.add_lit] at c0
    have hr := h3 j hj
    rw [List.getD_eq_getElem?_getD, List.getElem?_eq_getElem hj', Option.getD_some] at hr
    exact ⟨g, cap, _, rfl, hnc, hcm, by simpa using c0, hr⟩
theorem infoIs : (Try.prog.info? 37).map (fun i => (i.zero, i.size, i.bytes)) = some (some (.slice none 0 0), 1, 24) := by kernel_rfl
/-- a state is added -/
theorem StAt.push {B : Nat} {w : World} {v u : Value} {rows : List (List Int)} {xs : List Int} {n7 : Nat} (h : StAt B w v rows) (hu : RowI w u xs) (hb : w.heap[n7]? = some (.cells #[u] 37 (0, 0))) (hlen : rows.length ≤ 1000) (hB : B ≤ w.heap.size) (ty : TypeId) :
    ∃ a8 c8 w8, (Builtin.append_ #[29, 29] ty #[v, .slice (some ⟨n7, 0, none⟩) 1 1]).run Try.prog w = .ok (.slice a8 (rows.length + 1) c8) w8 ∧ StAt B w8 (.slice a8 (rows.length + 1) c8) (rows ++ [xs]) ∧ ChgP (fun g => v.ownBlock = some g) w w8 := by
  obtain ⟨vs, hl, ho, hk⟩ := h
  obtain ⟨i0, hi, hz0, hz1, hz2⟩ := info_parts infoIs
  have hone : ∀ x ∈ [u], x.oneCell' = true := by
    intro x hx
    obtain ⟨a, c, rfl⟩ := ownsRow_shape hu
    rw [List.mem_singleton.1 hx]
    rfl
  obtain ⟨v', w8, hrun, h2, h3, _, h5⟩ := run_append_own_at (P := Try.prog) w B 29 ty 37 i0 (.slice none 0 0) 1 24 Try.underlying29 hi hz0 hz1 hz2 rfl (by decide) v rows.length vs ho ⟨n7, 0, none⟩ 1 1 [u] rfl (fun j x hj => by
    cases j with
    | zero =>
      simp only [List.getElem?_cons_zero, Option.some.injEq] at hj
      subst hj
      rw [Addr.add_lit]
      exact cell_of_heap hb rfl
    | succ j => simp at hj) hone (by unfold maxLen; omega) (by omega) hB
  obtain ⟨a8, c8, rfl⟩ := ownsRow_shape h2
  have hch : ChgP (fun g => v.ownBlock = some g) w w8 := (ChgP.refl _ w).grown h3 (fun k hk => Or.inl hk)
  have hoff : ∀ {x : Value} {l : List Int}, RowI w x l → RowI w8 x l := fun {x l} hx => hx.kept hch fun g hg hS => by
    have h1 := tyAt_own hx hg
    rw [tyAt_own ho hS] at h1
    cases h1
  refine ⟨a8, c8, w8, hrun, ⟨vs ++ [u], by simp [hl], by simpa using h2, fun j hj => ?_⟩, hch⟩
  by_cases hlt : j < rows.length
  · have := hoff (hk j hlt)
    rw [List.getElem_append_left hlt, List.getD_eq_getElem?_getD, List.getElem?_append_left (by omega), ← List.getD_eq_getElem?_getD]
    exact this
  · obtain rfl : j = rows.length := by simp at hj; omega
    have e1 : (vs ++ [u]).getD rows.length undef = u := by rw [← hl]; simp
    have e2 : (rows ++ [xs])[rows.length]'hj = xs := by simp
    rw [e1, e2]
    exact hoff hu
/-- the laws' history, above its program; nothing of what was before is its own -/
structure LawH (p : Prg) (W0 : World) (B : Nat) (w : World) (d : Hm) : Prop where
  ex : ∃ W1 RO bv bq qv, EnvH W1 RO w d ∧ CompMem RO bv bq qv p.qs W1 ∧ d.comp = compV bv bq ∧ ∀ g, RO g → g < B
  mu : d.mu = 0
  chg : Chg [] W0 w
  new : ∀ g, d.M g ∨ d.I g → W0.heap.size ≤ g
section
variable {p : Prg} {W0 w w' : World} {B : Nat} {d d' : Hm}
theorem LawH.mem (h : LawH p W0 B w d) : HmAt w d := by obtain ⟨W1, RO, bv, bq, qv, h1, _⟩ := h.ex; exact h1.mem
theorem LawH.after (h : LawH p W0 B w d) (k : AfterH w w' d d') (hmu : d'.mu = 0) : LawH p W0 B w' d' := by
  obtain ⟨W1, RO, bv, bq, qv, h1, h2, h3, h4⟩ := h.ex
  have hs := h.chg.size
  refine ⟨⟨W1, RO, bv, bq, qv, h1.after k, h2, k.comp.trans h3, h4⟩, hmu, ChgP.toL ((h.chg.p (S := fun g => g ∈ ([] : List Nat))).comp k.chg fun g hg => Or.inr (h.new g (Or.inl hg))), fun g hg => ?_⟩
  rcases hg with hg | hg
  · exact (k.muts g hg).elim (fun h' => h.new g (Or.inl h')) fun h' => by omega
  · exact (k.imm g hg).elim (fun h' => h.new g (Or.inr h')) fun h' => by omega
theorem LawH.newW (h : LawH p W0 B w d) (hc : Chg [] w w') : LawH p W0 B w' d := h.after (AfterH.new h.mem hc) h.mu
/-- blocks of nobody's are changed -/
theorem LawH.other {S : Nat → Prop} (h : LawH p W0 B w d) (hc : ChgP S w w') (hS : ∀ g, S g → ¬ d.M g ∧ ¬ d.I g ∧ W0.heap.size ≤ g ∧ B ≤ g) : LawH p W0 B w' d := by
  obtain ⟨W1, RO, bv, bq, qv, h1, h2, h3, h4⟩ := h.ex
  refine ⟨⟨W1, RO, bv, bq, qv, ⟨h.mem.kept hc (fun g hg hs => (hS g hs).1 hg) (fun g hg hs => (hS g hs).2.1 hg), fun g hg => ?_⟩, h2, h3, h4⟩, h.mu, ChgP.toL ((h.chg.p (S := fun g => g ∈ ([] : List Nat))).comp hc fun g hg => Or.inr (hS g hg).2.2.1), h.new⟩
  obtain ⟨z1, z2, z3⟩ := h1.ro g hg
  exact ⟨Nat.lt_of_lt_of_le z1 hc.size, (hc.block _ z1 fun hs => by have := (hS g hs).2.2.2; have := h4 g hg; omega).trans z2, z3⟩
theorem LawH.start {w1 w2 w3 : World} {bv bq : Nat} {qv : Value} (hc1 : Chg [] W0 w1) (hm : CompMem (fun g => w1.heap.size ≤ g ∧ g < w2.heap.size) bv bq qv p.qs w2) (hc2 : Chg [] w1 w2) (hh : HmAt w3 d) (hcomp : d.comp = compV bv bq) (hmu : d.mu = 0) (hc3 : Chg [] w2 w3) (hn : ∀ g, (d.M g ∨ d.I g) → w2.heap.size ≤ g) : LawH p W0 w2.heap.size w3 d := by
  have hs1 := hc1.size
  have hs2 := hc2.size
  refine ⟨⟨w2, _, bv, bq, qv, ⟨hh, fun g hg => ⟨Nat.lt_of_lt_of_le hg.2 hc3.size, hc3.block _ hg.2 (by simp), fun hM => by have := hn g (Or.inl hM); have := hg.2; omega⟩⟩, hm, hcomp, fun g hg => hg.2⟩, hmu, (hc1.trans hc2).trans hc3, fun g hg => by have := hn g hg; omega⟩
/-- what commit_any asks of the versions -/
theorem HRel.versOk {rows : List (List Int)} {tg : Nat → Nat} (h : HRel p d.pl rows tg) (hl : rows.length ≤ 100) (k : QK) : (∀ e ∈ gL d.VL k, 0 ≤ e.rev ∧ e.rev ≤ 1000000) ∧ (gL d.VL k).length ≤ 200000 := by
  have hlat := h.lat
  have hv := h.inv.vers k
  have hp : d.pl.vers k = (gL d.VL k).map Ve.pl := rfl
  refine ⟨fun e he => ?_, ?_⟩
  · have := hv.bd e.pl (by rw [hp]; exact List.mem_map.2 ⟨e, he, rfl⟩)
    have e2 : e.pl.1 = e.rev := rfl
    omega
  · have hnd := nodup_below 200 (P := (d.pl.vers k).map fun e => e.1.toNat) (by
      refine List.pairwise_map.2 (hv.inc.imp_of_mem fun {x y} hx hy hlt e => ?_)
      have h1 := hv.bd x hx
      have h2 := hv.bd y hy
      omega) (fun x hx => by
      obtain ⟨y, hy, rfl⟩ := List.mem_map.1 hx
      have := hv.bd y hy
      omega)
    rw [List.length_map, hp, List.length_map] at hnd
    omega
end
end Go.Proofs.Ytggiddhhbilcjaa.Sn
