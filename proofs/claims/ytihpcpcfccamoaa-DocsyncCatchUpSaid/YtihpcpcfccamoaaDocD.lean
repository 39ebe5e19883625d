/- Replicas: NewReplica, Document, CatchUp, Apply. -/
import Derived.Test.YtihpcpcfccamoaaDocC
namespace Go.Proofs.Ytihpcpcfccamoaa
open Go.RowKit
set_option linter.unusedVariables false
set_option linter.unusedSimpArgs false
theorem docApply_ok (p : Nat → Prop) (nm : ByteArray) (ver : Int) (s : ByteArray) (v : Value) (E : List Edit) (w : World) (hE : Eds p w v E) (hF : Fits E) (h0 : 0 ≤ ver) (hn : docNext ver s E = 0) :
    Calls Try.prog 23 #[.agg #[.string nm, .int .i64 ver, .string s], v] w fun e w' => e = .returned (.tuple #[.agg #[.string nm, .int .i64 (ver + 1), .string (applyT s E)], .int .i64 0]) ∧ Chg [] w w' := by
  have hv : valL s.size E = 0 := by
    unfold docNext at hn
    split at hn
    · rename_i h; exact absurd hn h
    · rename_i h; exact Classical.not_not.1 h
  have h2 : ¬ (2000 < (applyT s E).size ∨ 2147483647 ≤ ver) := fun h => by
    unfold docNext at hn
    rw [if_neg (by simp [hv]), if_pos h] at hn
    cases hn
  have := docApply_of nm ver s (applyT s E) 0 v w (by omega) fun W hW => applyEdits_ok p s v E W (hE.same hW) hF hv
  have e : docFin nm ver (applyT s E) 0 = (docV nm (ver + 1) (applyT s E), 0) := by
    unfold docFin
    rw [if_neg (by simp), if_neg h2]
  rw [e] at this
  exact this
theorem docApply_no (p : Nat → Prop) (nm : ByteArray) (ver : Int) (s : ByteArray) (v : Value) (E : List Edit) (w : World) (hE : Eds p w v E) (hF : Fits E) (h0 : 0 ≤ ver ∧ ver ≤ 9223372036854775807) (hn : docNext ver s E ≠ 0) :
    Calls Try.prog 23 #[.agg #[.string nm, .int .i64 ver, .string s], v] w fun e w' => e = .returned (.tuple #[.agg #[.string ⟨#[]⟩, .int .i64 0, .string ⟨#[]⟩], .int .i64 (docNext ver s E)]) ∧ Chg [] w w' := by
  by_cases hv : valL s.size E = 0
  · have h2 : 2000 < (applyT s E).size ∨ 2147483647 ≤ ver := Classical.byContradiction fun h => by
      unfold docNext at hn
      rw [if_neg (by simp [hv]), if_neg h] at hn
      exact hn rfl
    have := docApply_of nm ver s (applyT s E) 0 v w (by omega) fun W hW => applyEdits_ok p s v E W (hE.same hW) hF hv
    have e : docFin nm ver (applyT s E) 0 = (docV ⟨#[]⟩ 0 ⟨#[]⟩, 2) := by
      unfold docFin
      rw [if_neg (by simp), if_pos h2]
    have e2 : docNext ver s E = 2 := by
      unfold docNext
      rw [if_neg (by simp [hv]), if_pos h2]
    rw [e] at this
    rw [e2]
    exact this
  · have := docApply_of nm ver s ⟨#[]⟩ (valL s.size E) v w (by omega) fun W hW => applyEdits_no p s v E W (hE.same hW) hF hv
    have e : docFin nm ver ⟨#[]⟩ (valL s.size E) = (docV ⟨#[]⟩ 0 ⟨#[]⟩, valL s.size E) := by
      unfold docFin
      rw [if_pos hv]
    have e2 : docNext ver s E = valL s.size E := by
      unfold docNext
      rw [if_pos hv]
    rw [e] at this
    rw [e2]
    exact this
/-- a replica in its block -/
def RepAt (w : World) (b : Nat) (nm : ByteArray) (ver : Int) (text : ByteArray) : Prop := w.heap[b]? = some (.cells #[.string nm, .int .i64 ver, .string text] 72 (0, 0))
theorem RepAt.kept {S : Nat → Prop} {w w' : World} {b : Nat} {nm : ByteArray} {ver : Int} {text : ByteArray} (h : RepAt w b nm ver text) (hc : ChgP S w w') (hS : ¬ S b) : RepAt w' b nm ver text := (hc.block b (lt_of_obj h) hS).trans h
theorem newReplica_any (w : World) (nm : ByteArray) (ver : Int) (text : ByteArray) :
    Calls Try.prog 9 #[.agg #[.string nm, .int .i64 ver, .string text]] w fun e w' => ∃ b, e = .returned (.pointer (some ⟨b, 0, none⟩)) ∧ RepAt w' b nm ver text ∧ w.heap.size ≤ b ∧ Chg [] w w' := by
  go_enter Try.func9, Try.ntmps9
  go_wp2_with fail
  go_ret
  exact ⟨_, rfl, heap_at _ _ _ (by simp), by simp, ((Chg.refl [] w).alloc _).alloc _⟩
theorem repDocument_any (w : World) (b : Nat) (nm : ByteArray) (ver : Int) (text : ByteArray) (h : RepAt w b nm ver text) :
    Calls Try.prog 11 #[.pointer (some ⟨b, 0, none⟩)] w fun e w' => e = .returned (.agg #[.string nm, .int .i64 ver, .string text]) ∧ Chg [] w w' := by
  obtain ⟨x0, x1, x2, _, _, _⟩ := three h
  have hlt := lt_of_obj h
  have hlt1 : b < w.heap.size + 1 := by omega
  go_enter Try.func11, Try.ntmps11
  go_wp2_with fail
  obtain ⟨y0, y1, y2, _, _, _⟩ := three (heap_at w (.cells #[.string nm, .int .i64 ver, .string text] 30 (0, 0)) _ rfl)
  refine bodyPost_ret (v := .agg #[.string nm, .int .i64 ver, .string text]) (by simp [results, Try.results11, go_sem, y0, y1, y2]) rfl ⟨rfl, (Chg.refl [] w).alloc _⟩
theorem put3 {w : World} {b : Nat} {a0 a1 a2 : Value} {T : TypeId} {fr : Nat × Nat} (h : w.heap[b]? = some (.cells #[a0, a1, a2] T fr)) (u0 u1 u2 : Value) :
    (((w.setCell ⟨b, 0, none⟩ u0).setCell ⟨b, 1, none⟩ u1).setCell ⟨b, 2, none⟩ u2).heap[b]? = some (.cells #[u0, u1, u2] T fr) :=
  heap_setCell_same (heap_setCell_same (heap_setCell_same h u0) u1) u2
/-- the document behind some edits -/
def cuSt (ver : Int) (text : ByteArray) (EE : List (List Edit)) : Int × ByteArray := EE.foldl (fun q E => (q.1 + 1, applyT q.2 E)) (ver, text)
theorem cuSt_snoc (ver : Int) (text : ByteArray) (EE : List (List Edit)) (E : List Edit) : cuSt ver text (EE ++ [E]) = ((cuSt ver text EE).1 + 1, applyT (cuSt ver text EE).2 E) := by unfold cuSt; rw [List.foldl_append]; rfl
theorem cuSt_ver (ver : Int) (text : ByteArray) (EE : List (List Edit)) : (cuSt ver text EE).1 = ver + EE.length := by
  have : ∀ (l : List (List Edit)) (q : Int × ByteArray), (l.foldl (fun q E => (q.1 + 1, applyT q.2 E)) q).1 = q.1 + l.length := by
    intro l
    induction l with
    | nil => intro q; simp
    | cons x l ih => intro q; rw [List.foldl_cons, ih]; simp; omega
  exact this EE (ver, text)
/-- each of the edits can be applied in its turn -/
def CuOk (ver : Int) (text : ByteArray) (EE : List (List Edit)) : Prop := ∀ k, k < EE.length → docNext (cuSt ver text (EE.take k)).1 (cuSt ver text (EE.take k)).2 (EE.getD k []) = 0
/-- a slice of slices of edits, read -/
def Edss (p : Nat → Prop) (w : World) (v : Value) (EE : List (List Edit)) : Prop := SlR p 1 (fun w ad l => ∃ u, w.cell? ad = some u ∧ Eds p w u l) w v EE
theorem Edss.kept {p : Nat → Prop} {S : Nat → Prop} {w w' : World} {v : Value} {EE : List (List Edit)} (h : Edss p w v EE) (hc : ChgP S w w') (hS : ∀ k, p k → ¬ S k) : Edss p w' v EE :=
  SlR.imp h (fun _ hg => hg) fun ad x hg ⟨u, h1, h2⟩ => ⟨u, (hc.cell (lt_of_cell h1) (hS _ hg)).trans h1, h2.kept hc hS⟩
theorem Edss.same {p : Nat → Prop} {w w' : World} {v : Value} {EE : List (List Edit)} (h : Edss p w v EE) (hc : Chg [] w w') : Edss p w' v EE := h.kept (S := fun _ => False) hc.p (fun _ _ h => h)
theorem takeE_step (EE : List (List Edit)) (k : Nat) (hk : k < EE.length) : EE.take (k + 1) = EE.take k ++ [EE.getD k []] := by
  rw [List.take_succ_eq_append_getElem hk, List.getD_eq_getElem?_getD, List.getElem?_eq_getElem hk]
  rfl
set_option maxRecDepth 100000 in
set_option maxHeartbeats 4000000 in
theorem catchUp_any (p : Nat → Prop) (w : World) (b : Nat) (nm : ByteArray) (ver : Int) (text : ByteArray) (v : Value) (EE : List (List Edit)) (h : RepAt w b nm ver text) (hE : Edss p w v EE) (hF : ∀ E ∈ EE, Fits E) (h0 : 0 ≤ ver) (hok : CuOk ver text EE) :
    Calls Try.prog 13 #[.pointer (some ⟨b, 0, none⟩), v] w fun e w' => e = .returned (.int .i64 0) ∧ RepAt w' b nm (cuSt ver text EE).1 (cuSt ver text EE).2 ∧ ChgP (fun k => k = b) w w' := by
  obtain ⟨a, cap, rfl, hml, hcap⟩ := hE.shape
  unfold maxLen at hml
  obtain ⟨x0, x1, x2, _, _, _⟩ := three h
  have hlt := lt_of_obj h
  have HE := Lib.hid hE
  have HF := Lib.hid hF
  have Hok := Lib.hid hok
  have H := Lib.hid h
  clear hE hF hok hcap h
  go_enter Try.func13, Try.ntmps13
  go_wp2_with fail
  go_loopw [16] (fun jj wr => ∃ k : Nat, k ≤ EE.length ∧ jj = .int .i64 (k : Nat) ∧ wr.heap[w.heap.size]? = some (.cells #[.string nm, .int .i64 (cuSt ver text (EE.take k)).1, .string (cuSt ver text (EE.take k)).2] 30 (0, 0)) ∧ Chg [] w wr) (fun jj _ => EE.length - (intOf jj).toNat)
  case atStart => exact ⟨0, by omega, rfl, heap_at _ _ _ rfl, (Chg.refl _ _).alloc _⟩
  case round =>
    obtain ⟨k, hk, rfl, hb, hc⟩ := hrel
    have Hc := Lib.hid hc
    have Hb := Lib.hid hb
    by_cases hl : k < EE.length
    · have hk1 : (k : Int) < EE.length := by omega
      obtain ⟨g, off, rfl, hg, u, r0, hu⟩ := HE.out.at k hl []
      rw [Nat.mul_one] at r0
      have p0 := (hc.cell (lt_of_cell r0) (by simp)).trans r0
      obtain ⟨E, hEk⟩ : ∃ E, EE.getD k [] = E := ⟨_, rfl⟩
      have hFE : Fits E := HF.out E (by rw [← hEk, List.getD_eq_getElem?_getD, List.getElem?_eq_getElem hl]; simp)
      have hnx := Hok.out k hl
      have hst := cuSt_snoc ver text (EE.take k) (EE.getD k [])
      have hvr := cuSt_ver ver text (EE.take k)
      rw [← takeE_step EE k hl] at hst
      rw [hEk] at hnx hst hu
      obtain ⟨⟨V, T⟩, hq⟩ : ∃ q, cuSt ver text (EE.take k) = q := ⟨_, rfl⟩
      have hb' := Hb.out
      rw [hq] at hnx hst hvr hb'
      simp only at hnx hst hvr hb'
      have hV : 0 ≤ V := by omega
      obtain ⟨y0, y1, y2, g0, g1, g2⟩ := three hb'
      have Hst := Lib.hid hst
      have Hu := Lib.hid (hu.same hc)
      have lb := lt_of_obj hb'
      clear hc hb r0 hst hvr hq hu hEk
      go_wp2_with fail
      refine (docApply_ok p nm V T u E _ (by first | exact Hu.out | exact Hu.out.same (Chg.refl _ _)) hFE hV hnx).mono ?_
      rintro e w6 ⟨rfl, c6⟩
      have hb6 := (c6.block _ lb (by simp)).trans hb'
      obtain ⟨z0, z1, z2, k0, k1, k2⟩ := three hb6
      have lb6 := lt_of_obj hb6
      have hne : w.heap.size < w6.heap.size + 1 := by omega
      have Hc6 := Lib.hid (Hc.out.trans c6)
      have Hb6 := Lib.hid hb6
      clear c6 hb6 hb' y0 y1 y2 g0 g1 g2
      go_wp2_with fail
      refine ⟨⟨k + 1, by omega, by go_num, ?_, ((((Hc6.out.setCell (Or.inr (Nat.le_refl _)) _).setCell (Or.inr (Nat.le_refl _)) _).setCell (Or.inr (Nat.le_refl _)) _).alloc _)⟩, by simp [intOf]; omega⟩
      rw [Hst.out]
      exact (heap_past _ _ _ (lt_of_obj (put3 Hb6.out _ _ _))).trans (put3 Hb6.out _ _ _)
    · obtain rfl : k = EE.length := by omega
      have hk1 : ¬ ((EE.length : Int) < EE.length) := by omega
      rw [List.take_length] at hb
      obtain ⟨y0, y1, y2, _, _, _⟩ := three hb
      have hr := (hc.block _ hlt (by simp)).trans H.out
      obtain ⟨_, _, _, g0, g1, g2⟩ := three hr
      have hlt2 := lt_of_obj hr
      clear hb hc
      have Hr := Lib.hid hr
      have Hz := Lib.hid hlt
      clear hr
      go_wp2_with fail
      go_ret
      refine ⟨rfl, put3 Hr.out _ _ _, ?_⟩
      have hc0 : ChgP (fun k => k = b) w wr := Hc.out.p
      exact ((hc0.setCell (p := ⟨b, 0, none⟩) (Or.inl rfl) _).setCell (p := ⟨b, 1, none⟩) (Or.inl rfl) _).setCell (p := ⟨b, 2, none⟩) (Or.inl rfl) _
end Go.Proofs.Ytihpcpcfccamoaa
