/- textedit.Validate, textedit.Apply, docsync.apply. -/
import Derived.Test.YtihpcpcfccamoaaDocPlain
import Derived.Test.YtihpcpcfccamoaaMem
import Derived.Test.YtihpcpcfccamoaaBld
import Derived.Test.YtihpcpcfccamoaaDocShelf
namespace Go.Proofs.Ytihpcpcfccamoaa
open Go.RowKit
set_option linter.unusedVariables false
set_option linter.unusedSimpArgs false
def rdE (w : World) (ad : Addr) (x : Edit) : Prop := w.cell? ad = some (.int .i64 x.s) ∧ w.cell? ⟨ad.block, ad.off + 1, none⟩ = some (.int .i64 x.e) ∧ w.cell? ⟨ad.block, ad.off + 2, none⟩ = some (.string x.t)
/-- a slice of edits, read -/
def Eds (p : Nat → Prop) (w : World) (v : Value) (E : List Edit) : Prop := SlR p 3 rdE w v E
theorem rdE.kept {S : Nat → Prop} {w w' : World} {ad : Addr} {x : Edit} (h : rdE w ad x) (hc : ChgP S w w') (hS : ¬ S ad.block) : rdE w' ad x := by
  have hl := lt_of_cell h.1
  exact ⟨(hc.cell hl hS).trans h.1, (hc.cell (p := ⟨ad.block, ad.off + 1, none⟩) hl hS).trans h.2.1, (hc.cell (p := ⟨ad.block, ad.off + 2, none⟩) hl hS).trans h.2.2⟩
theorem Eds.kept {p : Nat → Prop} {S : Nat → Prop} {w w' : World} {v : Value} {E : List Edit} (h : Eds p w v E) (hc : ChgP S w w') (hS : ∀ k, p k → ¬ S k) : Eds p w' v E :=
  SlR.imp h (fun _ hg => hg) fun ad x hg hr => hr.kept hc (hS _ hg)
theorem Eds.same {p : Nat → Prop} {w w' : World} {v : Value} {E : List Edit} (h : Eds p w v E) (hc : Chg [] w w') : Eds p w' v E := h.kept (S := fun _ => False) hc.p (fun _ _ h => h)
/-- texts that are no longer than a slice of bytes may be -/
def Fits (E : List Edit) : Prop := ∀ x ∈ E, x.t.size ≤ 140737488355328
theorem val_bad {n : Nat} {E : List Edit} {k : Nat} (hk : k < E.length) {p L : Int} (hv : valSt n (E.take k) = some (p, L)) (hb : (E.getD k Edit.zero).bad n p = true) (h1 : ¬ (2000 < n ∨ 50 < E.length)) : valL n E = 3 := by
  have : valSt n (E.take (k + 1)) = none := by rw [take_step E k hk, valSt_snoc, hv]; simp only [vstep, Option.bind_some, hb, if_true]
  have h2 := valSt_prefix (r := E.drop (k + 1)) this
  rw [List.take_append_drop] at h2
  unfold valL
  rw [if_neg h1, h2]
set_option maxRecDepth 100000 in
set_option maxHeartbeats 4000000 in
theorem validate_any (p : Nat → Prop) (s : ByteArray) (v : Value) (E : List Edit) (w : World) (hE : Eds p w v E) (hF : Fits E) :
    Calls Try.prog 41 #[.string s, v] w fun e w' => e = .returned (.int .i64 (valL s.size E)) ∧ Chg [] w w' := by
  obtain ⟨a, cap, rfl, hml, hcap⟩ := hE.shape
  unfold maxLen at hml
  have HE := Lib.hid hE
  have HF := Lib.hid hF
  clear hE hF hcap
  go_enter Try.func41, Try.ntmps41
  by_cases hn : 2000 < s.size
  · have hn1 : (2000 : Int) < (s.size : Int) := by omega
    go_wp2_with fail
    go_ret
    exact ⟨by unfold valL; rw [if_pos (Or.inl hn)]; rfl, Chg.refl _ _⟩
  have hn1 : ¬ (2000 : Int) < (s.size : Int) := by omega
  by_cases hl : 50 < E.length
  · have hl1 : (50 : Int) < (E.length : Int) := by omega
    go_wp2_with fail
    go_ret
    exact ⟨by unfold valL; rw [if_pos (Or.inr hl)]; rfl, Chg.refl _ _⟩
  have hl1 : ¬ (50 : Int) < (E.length : Int) := by omega
  have hnl : ¬ (2000 < s.size ∨ 50 < E.length) := by omega
  have Hnl := Lib.hid hnl
  clear hnl
  go_wp2_with fail
  go_loopw [5, 6, 21] (fun pp ll jj wr => ∃ (k : Nat) (q L : Int), k ≤ E.length ∧ jj = .int .i64 (k : Nat) ∧ pp = .int .i64 q ∧ ll = .int .i64 L ∧ valSt s.size (E.take k) = some (q, L) ∧ Chg [] w wr) (fun _ _ jj _ => E.length - (intOf jj).toNat)
  case atStart => exact ⟨0, -1, s.size, by omega, rfl, rfl, rfl, rfl, Chg.refl _ _⟩
  case round =>
    obtain ⟨k, q, L, hk, rfl, rfl, rfl, hv, hc⟩ := hrel
    have Hc := Lib.hid hc
    have Hv := Lib.hid hv
    obtain ⟨f1, f2, f3, f4, f5, f6, f7, f8⟩ := valSt_facts s _ hv
    have ht := tot_le (E := E.take k) (B := 140737488355328) (fun x hx => HF.out x (List.mem_of_mem_take hx))
    have hlt' : (E.take k).length ≤ 50 := by rw [List.length_take]; omega
    have htt : tot (E.take k) ≤ 50 * 140737488355328 := Nat.le_trans ht (Nat.mul_le_mul_right _ hlt')
    clear f5 f6 f8 ht hlt' hv hc
    by_cases hlt : k < E.length
    · have hk1 : (k : Int) < E.length := by omega
      obtain ⟨g, off, rfl, hg, r0, r1, r2⟩ := HE.out.at k hlt Edit.zero
      obtain ⟨x, hx⟩ : ∃ x, E.getD k Edit.zero = x := ⟨_, rfl⟩
      rw [hx] at r0 r1 r2
      have lr := lt_of_cell r0
      have p0 := (Hc.out.cell lr (by simp)).trans r0
      have p1 := (Hc.out.cell (p := ⟨g, off + k * 3 + 1, none⟩) lr (by simp)).trans r1
      have p2 := (Hc.out.cell (p := ⟨g, off + k * 3 + 2, none⟩) lr (by simp)).trans r2
      have hxs : x.t.size ≤ 140737488355328 := HF.out x (by rw [← hx, List.getD_eq_getElem?_getD, List.getElem?_eq_getElem hlt]; simp)
      have Hx := Lib.hid hx
      have hbad : x.bad s.size q = true → valL s.size E = 3 := fun hb => val_bad hlt Hv.out (by rw [hx]; exact hb) Hnl.out
      clear r0 r1 r2 lr hx
      by_cases b1 : x.s ≤ q
      · have Hr := Lib.hid (hbad (by simp [Edit.bad, b1]))
        clear hbad f1 f2 f3 f4 f7
        go_wp2_with fail
        go_ret
        exact ⟨by rw [Hr.out]; rfl, (Hc.out.alloc _)⟩
      by_cases b2 : x.e < x.s
      · have Hr := Lib.hid (hbad (by simp [Edit.bad, b2]))
        clear hbad f1 f2 f3 f4 f7
        go_wp2_with fail
        go_ret
        exact ⟨by rw [Hr.out]; rfl, (Hc.out.alloc _)⟩
      by_cases b3 : (s.size : Int) < x.e
      · have Hr := Lib.hid (hbad (by simp [Edit.bad, b3]))
        clear hbad f1 f2 f3 f4 f7
        go_wp2_with fail
        go_ret
        exact ⟨by rw [Hr.out]; rfl, (Hc.out.alloc _)⟩
      have hnx : valSt s.size (E.take (k + 1)) = some (x.e, L + ((x.t.size : Int) - (x.e - x.s))) := by
        rw [take_step E k hlt, valSt_snoc, Hv.out, Hx.out]
        simp [vstep, Edit.bad, b1, b2, b3]
      have Hnx := Lib.hid hnx
      clear hbad hnx
      go_wp2_with fail
      exact ⟨⟨k + 1, x.e, L + ((x.t.size : Int) - (x.e - x.s)), by omega, by go_num, rfl, by go_num, Hnx.out, Hc.out.alloc _⟩, by simp [intOf]; omega⟩
    · obtain rfl : k = E.length := by omega
      have hk1 : ¬ ((E.length : Int) < E.length) := by omega
      have hvv := Hv.out
      rw [List.take_length] at hvv
      by_cases hL : 2000 < L
      · have Hr := Lib.hid (show valL s.size E = 2 by unfold valL; rw [if_neg Hnl.out, hvv]; simp [hL])
        clear hvv
        go_wp2_with fail
        go_ret
        exact ⟨by rw [Hr.out]; rfl, Hc.out⟩
      · have Hr := Lib.hid (show valL s.size E = 0 by unfold valL; rw [if_neg Hnl.out, hvv]; simp [hL])
        clear hvv
        go_wp2_with fail
        go_ret
        exact ⟨by rw [Hr.out]; rfl, Hc.out⟩

theorem chg_below {B : Nat} {w a b : World} (hc : Chg [] w a) (h : Below B a b) (hB : w.heap.size ≤ B) : Chg [] w b :=
  ⟨h.os.trans hc.os, h.tape.trans hc.tape, h.output.trans hc.output, Nat.le_trans hc.size h.size, fun k hk hn => (h.block k (by omega)).trans (hc.block k hk hn)⟩
theorem piece_eq (src : ByteArray) (o x : Int) (t : ByteArray) (h0 : 0 ≤ o) (hox : o ≤ x) (hx : x ≤ src.size) :
    (src.extract o.toNat x.toNat ++ t).data.toList = (src.data.toList.take x.toNat).drop o.toNat ++ t.data.toList := by
  rw [show (src.extract o.toNat x.toNat ++ t).data.toList = (src.extract o.toNat x.toNat).data.toList ++ t.data.toList by simp, Lib.extract_data, List.drop_take]
end Go.Proofs.Ytihpcpcfccamoaa
