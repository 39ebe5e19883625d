/- A room beside some blocks that it leaves alone; syncExample. -/
import Derived.Test.YtihpcpcfccamoaaDocM
namespace Go.Proofs.Ytihpcpcfccamoaa
open Go.RowKit
set_option linter.unusedVariables false
set_option linter.unusedSimpArgs false
def dNm : ByteArray := ⟨#[100]⟩
theorem dNm_ne : (dNm.toList == []) = false := by rw [ByteArray.toList_eq]; rfl
/-- the room of a call that began at w, in the world a; the blocks Q are not its own -/
def Rm (w a : World) (Q : List Nat) (rb : Nat) (cl : List Int) (ver : Int) (text : ByteArray) (hist : List (List Edit)) (rd : List Int) : Prop :=
  ∃ P, RoomAt w.heap.size P a rb dNm cl ver text hist rd ∧ (∀ k, P k → w.heap.size ≤ k) ∧ (∀ b ∈ Q, b < a.heap.size ∧ ¬ P b) ∧ Chg [] w a
variable {w a : World} {Q : List Nat} {rb : Nat} {cl : List Int} {ver : Int} {text : ByteArray} {hist : List (List Edit)} {rd : List Int}
theorem RoomAt.bd {B : Nat} {P : Nat → Prop} {w : World} {nm : ByteArray} (h : RoomAt B P w rb nm cl ver text hist rd) : ∀ k, P k → k < w.heap.size := by
  obtain ⟨q, db, dc, pb, dcs, cv, hv, rv, hvs, h⟩ := h
  exact fun k hk => (h.pB k hk).2
theorem Rm.chg (h : Rm w a Q rb cl ver text hist rd) : Chg [] w a := by obtain ⟨P, _, _, _, h⟩ := h; exact h
theorem Rm.same {a' : World} (h : Rm w a Q rb cl ver text hist rd) (hc : Chg [] a a') : Rm w a' Q rb cl ver text hist rd := by
  obtain ⟨P, h1, h2, h3, h4⟩ := h
  exact ⟨P, h1.same hc, h2, fun b hb => ⟨Nat.lt_of_lt_of_le (h3 b hb).1 hc.size, (h3 b hb).2⟩, h4.trans hc⟩
/-- another's block has changed -/
theorem Rm.other {a' : World} (h : Rm w a Q rb cl ver text hist rd) {b : Nat} (hb : b ∈ Q) (hw : w.heap.size ≤ b) (hc : ChgP (fun k => k = b) a a') : Rm w a' Q rb cl ver text hist rd := by
  obtain ⟨P, h1, h2, h3, h4⟩ := h
  exact ⟨P, h1.kept hc fun k hk e => (h3 b hb).2 (e ▸ hk), h2, fun b hb => ⟨Nat.lt_of_lt_of_le (h3 b hb).1 hc.size, (h3 b hb).2⟩, chgP_new h4.p hc fun k hk => by omega⟩
theorem Rm.add {a' : World} (h : Rm w a Q rb cl ver text hist rd) {b : Nat} (hb : a.heap.size ≤ b ∧ b < a'.heap.size) (hc : Chg [] a a') : Rm w a' (Q ++ [b]) rb cl ver text hist rd := by
  obtain ⟨P, h1, h2, h3, h4⟩ := h.same hc
  obtain ⟨P0, g1, g2, g3, g4⟩ := h
  refine ⟨P0, g1.same hc, g2, fun x hx => ?_, g4.trans hc⟩
  rcases List.mem_append.1 hx with hx | hx
  · exact ⟨Nat.lt_of_lt_of_le (g3 x hx).1 hc.size, (g3 x hx).2⟩
  · rw [List.mem_singleton.1 hx]
    exact ⟨hb.2, fun hP => by have := g1.bd b hP; omega⟩
theorem Rm.step {a' : World} {P P' : Nat → Prop} {cl' : List Int} {ver' : Int} {text' : ByteArray} {hist' : List (List Edit)} {rd' : List Int} (h : RoomAt w.heap.size P' a' rb dNm cl' ver' text' hist' rd') (hP : ∀ k, P' k → P k ∨ a.heap.size ≤ k) (h2 : ∀ k, P k → w.heap.size ≤ k)
    (h3 : ∀ b ∈ Q, b < a.heap.size ∧ ¬ P b) (h4 : Chg [] w a) (hc : ChgP P a a') : Rm w a' Q rb cl' ver' text' hist' rd' ∧ ∀ b ∈ Q, a'.heap[b]? = a.heap[b]? := by
  have hs := h4.size
  refine ⟨⟨P', h, fun k hk => (hP k hk).elim (h2 k) (fun e => by omega), fun b hb => ⟨Nat.lt_of_lt_of_le (h3 b hb).1 hc.size, fun hk => (hP b hk).elim (h3 b hb).2 (fun e => by have := (h3 b hb).1; omega)⟩, chgP_new h4.p hc h2⟩, fun b hb => hc.block b (h3 b hb).1 (h3 b hb).2⟩
theorem rm_join (h : Rm w a Q rb cl ver text hist rd) (c : Int) (h0 : 0 ≤ c) (h8 : c < 8) (hc : c ∉ cl) (hn : cl.length ≤ 10) :
    Calls Try.prog 7 #[.pointer (some ⟨rb, 0, none⟩), .int .i64 c] a fun e a' => e = .returned (.int .i64 0) ∧ Rm w a' Q rb (cl ++ [c]) ver text hist rd ∧ ∀ b ∈ Q, a'.heap[b]? = a.heap[b]? := by
  obtain ⟨P, h1, h2, h3, h4⟩ := h
  refine (join_any h1 c h0 h8 hc hn).mono ?_
  rintro e a' ⟨rfl, ⟨P', k1, k2⟩, k3⟩
  exact ⟨rfl, Rm.step k1 k2 h2 h3 h4 k3⟩
theorem rm_open (h : Rm w a Q rb cl ver text hist rd) (c : Int) (hc : c ∈ cl) (hs : rd.Pairwise (· ≤ ·)) (hx : ∀ y ∈ rd, y < c) (hn : rd.length ≤ 10) :
    Calls Try.prog 8 #[.pointer (some ⟨rb, 0, none⟩), .int .i64 c, .string ⟨#[100]⟩] a fun e a' => e = .returned (.tuple #[.agg #[.string ⟨#[100]⟩, .int .i64 ver, .string text], .int .i64 0]) ∧ Rm w a' Q rb cl ver text hist (rd ++ [c]) ∧ ∀ b ∈ Q, a'.heap[b]? = a.heap[b]? := by
  obtain ⟨P, h1, h2, h3, h4⟩ := h
  refine (open_any h1 c hc hs hx hn).mono ?_
  rintro e a' ⟨rfl, ⟨P', k1, k2⟩, k3⟩
  exact ⟨rfl, Rm.step k1 k2 h2 h3 h4 k3⟩
theorem rm_document (h : Rm w a Q rb cl ver text hist rd) :
    Calls Try.prog 15 #[.pointer (some ⟨rb, 0, none⟩), .string ⟨#[100]⟩] a fun e w' => e = .returned (.tuple #[.agg #[.string ⟨#[100]⟩, .int .i64 ver, .string text], .int .i64 0]) ∧ Chg [] a w' := by
  obtain ⟨P, h1, h2, h3, h4⟩ := h
  exact document_any h1
theorem rm_edit_ok (h : Rm w a Q rb cl ver text hist rd) (p : Nat → Prop) (hp : ∀ k, p k → k < w.heap.size ∨ k ∈ Q) (c : Int) (v : Value) (E : List Edit) (hc : c ∈ cl) (hr : c ∈ rd) (hE : Eds p a v E) (hF : Fits E) (hl : E.length ≤ 50) (h0 : 0 ≤ ver) (hn : docNext ver text E = 0) (hh : hist.length ≤ 30) (hrn : rd.length ≤ 10) :
    Calls Try.prog 12 #[.pointer (some ⟨rb, 0, none⟩), .int .i64 c, .string ⟨#[100]⟩, .int .i64 ver, v] a fun e a' => ∃ uv, e = .returned (.tuple #[uv, .int .i64 0]) ∧
      Ups (fun k => a.heap.size ≤ k ∧ k < a'.heap.size) dNm c (ver + 1) E a' uv (rd.filter fun t => decide (t ≠ c)) ∧ Rm w a' Q rb cl (ver + 1) (applyT text E) (hist ++ [E]) rd ∧ (∀ b ∈ Q, a'.heap[b]? = a.heap[b]?) ∧ ∃ P : Nat → Prop, (∀ k, P k → w.heap.size ≤ k) ∧ ChgP P a a' := by
  obtain ⟨P, h1, h2, h3, h4⟩ := h
  refine (edit_ok h1 p (fun k hk hP => (hp k hk).elim (fun e => by have := h2 k hP; omega) (fun e => (h3 k e).2 hP)) c v E hc hr hE hF hl h0 hn hh hrn).mono ?_
  rintro e a' ⟨uv, rfl, hu, ⟨P', k1, k2⟩, k3⟩
  obtain ⟨m1, m2⟩ := Rm.step k1 k2 h2 h3 h4 k3
  exact ⟨uv, rfl, hu, m1, m2, P, h2, k3⟩
theorem rm_edit_no (h : Rm w a Q rb cl ver text hist rd) (p : Nat → Prop) (c : Int) (v : Value) (E : List Edit) (hc : c ∈ cl) (hr : c ∈ rd) (hE : Eds p a v E) (hF : Fits E) (h0 : 0 ≤ ver ∧ ver ≤ 9223372036854775807) (hn : docNext ver text E ≠ 0) :
    Calls Try.prog 12 #[.pointer (some ⟨rb, 0, none⟩), .int .i64 c, .string ⟨#[100]⟩, .int .i64 ver, v] a fun e w' => e = .returned (.tuple #[.slice none 0 0, .int .i64 (docNext ver text E)]) ∧ Chg [] a w' := by
  obtain ⟨P, h1, h2, h3, h4⟩ := h
  exact edit_no h1 p c v E hc hr hE hF h0 hn
theorem rm_edit_stale (h : Rm w a Q rb cl ver text hist rd) (c vv : Int) (ev : Value) (hc : c ∈ cl) (hr : c ∈ rd) (hv : vv ≠ ver) :
    Calls Try.prog 12 #[.pointer (some ⟨rb, 0, none⟩), .int .i64 c, .string ⟨#[100]⟩, .int .i64 vv, ev] a fun e w' => e = .returned (.tuple #[.slice none 0 0, .int .i64 11]) ∧ Chg [] a w' := by
  obtain ⟨P, h1, h2, h3, h4⟩ := h
  exact edit_stale h1 c vv ev hc hr hv
theorem rm_new (w a : World) (hwa : Chg [] w a) (g : Nat) (text : ByteArray) (ver : Int) (T : TypeId) (hg : a.heap[g]? = some (.cells #[.string ⟨#[100]⟩, .int .i64 ver, .string text] T (0, 0))) (k2 : text.size ≤ 2000) (k4 : 0 ≤ ver) (k5 : ver ≤ 2147483647) :
    Calls Try.prog 6 #[.slice (some ⟨g, 0, none⟩) 1 1] a fun e w' => ∃ rb, e = .returned (.tuple #[.pointer (some ⟨rb, 0, none⟩), .int .i64 0]) ∧ Rm w w' [] rb [] ver text [] [] := by
  have hs := hwa.size
  obtain ⟨x0, x1, x2, _, _, _⟩ := three hg
  refine (newRoom_one (B := w.heap.size) a hs g 1 dNm text ver x0 x1 x2 (by omega) (by decide) k2 dNm_ne k4 k5).mono ?_
  rintro e w' ⟨rb, P, rfl, h1, h2, h3⟩
  exact ⟨rb, rfl, P, h1, fun k hk => by have := h2 k hk; omega, fun b hb => by simp at hb, hwa.trans h3⟩
end Go.Proofs.Ytihpcpcfccamoaa
