/- DocsyncCatchUp: the old replica beside the room. -/
import Derived.Test.YtihpcpcfccamoaaDocS
namespace Go.Proofs.Ytihpcpcfccamoaa
open Go.RowKit
set_option linter.unusedVariables false
set_option linter.unusedSimpArgs false
theorem CuOk.snoc {v : Int} {t : ByteArray} {L : List (List Edit)} {E : List Edit} (h : CuOk v t L) (hn : docNext (cuSt v t L).1 (cuSt v t L).2 E = 0) : CuOk v t (L ++ [E]) := by
  intro k hk
  rw [List.length_append, List.length_singleton] at hk
  by_cases hl : k < L.length
  · have e1 : (L ++ [E]).take k = L.take k := by rw [List.take_append_of_le_length (by omega)]
    have e2 : (L ++ [E]).getD k [] = L.getD k [] := by rw [List.getD_eq_getElem?_getD, List.getD_eq_getElem?_getD, List.getElem?_append_left hl]
    rw [e1, e2]
    exact h k hl
  · obtain rfl : k = L.length := by omega
    have e1 : (L ++ [E]).take L.length = L := by simp
    have e2 : (L ++ [E]).getD L.length [] = E := by simp
    rw [e1, e2]
    exact hn
theorem docVer2 (a c : ByteArray) (b : Int) (W : World) : (Instr.field 30 (.agg #[.string a, .int .i64 b, .string c]) 1).run Try.prog W = .ok (.int .i64 b) W := by kernel_rfl
/-- the room, and a replica of an old version -/
structure KuI (w a : World) (X : List Nat) (rb : Nat) (ver : Int) (T : ByteArray) (hist : List (List Edit)) (bo : Nat) (vo : Int) (To : ByteArray) (m : Nat) : Prop where
  room : Rm w a X rb [0, 1] ver T hist [0, 1]
  inX : bo ∈ X ∧ w.heap.size ≤ bo
  rep : RepAt a bo dNm vo To
  hm : m ≤ hist.length ∧ vo = 3 + m ∧ ver = 3 + hist.length
  st : cuSt vo To (hist.drop m) = (ver, T)
  ok : CuOk vo To (hist.drop m)
  fits : ∀ E ∈ hist, Fits E ∧ E.length ≤ 50
variable {w a a' : World} {X : List Nat} {rb : Nat} {ver : Int} {T : ByteArray} {hist : List (List Edit)} {bo : Nat} {vo : Int} {To : ByteArray} {m : Nat}
theorem KuI.same (h : KuI w a X rb ver T hist bo vo To m) (hc : Chg [] a a') : KuI w a' X rb ver T hist bo vo To m :=
  ⟨h.room.same hc, h.inX, h.rep.kept (S := fun _ => False) hc.p (fun h => h), h.hm, h.st, h.ok, h.fits⟩
/-- a new replica of the document as it is -/
theorem KuI.new (h : KuI w a X rb ver T hist bo vo To m) {b : Nat} (hc : Chg [] a a') (hb : a.heap.size ≤ b) (hr : RepAt a' b dNm ver T) : KuI w a' (X ++ [b]) rb ver T hist b ver T hist.length :=
  ⟨h.room.grow (S := fun _ => False) hc.p (fun _ h => h.elim) [b] (fun x hx => by rw [List.mem_singleton.1 hx]; exact Or.inr ⟨hb, lt_of_obj hr⟩), ⟨List.mem_append_right _ (by simp), by have := h.room.chg.size; omega⟩, hr, ⟨Nat.le_refl _, h.hm.2.2, h.hm.2.2⟩,
    by rw [List.drop_length]; rfl, by rw [List.drop_length]; intro k hk; simp at hk, h.fits⟩
theorem KuI.since (h : KuI w a X rb ver T hist bo vo To m) (hh : hist.length ≤ 30) :
    Calls Try.prog 16 #[.pointer (some ⟨rb, 0, none⟩), .string ⟨#[100]⟩, .int .i64 vo] a fun e w' => ∃ lv, e = .returned (.tuple #[lv, .int .i64 0]) ∧ Edss (fun k => a.heap.size ≤ k ∧ k < w'.heap.size) w' lv (hist.drop m) ∧ Chg [] a w' := by
  obtain ⟨P, h1, _, _, _⟩ := h.room
  obtain ⟨e1, e2, e3⟩ := h.hm
  exact since_any h1 vo m (by omega) (by omega) e1 hh (by omega) (fun E hE => (h.fits E hE).2)
/-- a box beside -/
theorem KuI.box (h : KuI w a X rb ver T hist bo vo To m) (o : Obj) : KuI w (a.alloc o) (X ++ [a.heap.size]) rb ver T hist bo vo To m :=
  ⟨h.room.grow (S := fun _ => False) ((Chg.refl [] a).alloc o).p (fun _ h => h.elim) [a.heap.size] (fun x hx => by rw [List.mem_singleton.1 hx]; exact Or.inr ⟨Nat.le_refl _, by simp⟩), ⟨List.mem_append_left _ h.inX.1, h.inX.2⟩,
    h.rep.kept (S := fun _ => False) ((Chg.refl [] a).alloc o).p (fun h => h), h.hm, h.st, h.ok, h.fits⟩
/-- an edit has been accepted -/
theorem KuI.edit (h : KuI w a X rb ver T hist bo vo To m) {E : List Edit} (hr : Rm w a' X rb [0, 1] (ver + 1) (applyT T E) (hist ++ [E]) [0, 1]) (hx : ∀ b ∈ X, a'.heap[b]? = a.heap[b]?) (hn : docNext ver T E = 0) (hF : Fits E) : KuI w a' X rb (ver + 1) (applyT T E) (hist ++ [E]) bo vo To m := by
  have hd : (hist ++ [E]).drop m = hist.drop m ++ [E] := by rw [List.drop_append_of_le_length h.hm.1]
  refine ⟨hr, h.inX, (hx bo h.inX.1).trans h.rep, ⟨by have := h.hm.1; simp; omega, h.hm.2.1, by rw [h.hm.2.2]; simp; omega⟩, ?_, ?_, ?_⟩
  · rw [hd, cuSt_snoc, h.st]
  · rw [hd]
    exact h.ok.snoc (by rw [h.st]; exact hn)
  · intro x hx
    rcases List.mem_append.1 hx with hx | hx
    · exact h.fits x hx
    · rw [List.mem_singleton.1 hx]
      exact ⟨hF, (docNext_short hn).1⟩
end Go.Proofs.Ytihpcpcfccamoaa
