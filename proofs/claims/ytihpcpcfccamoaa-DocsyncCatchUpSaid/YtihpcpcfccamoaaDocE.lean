/- Replica.Apply. -/
import Derived.Test.YtihpcpcfccamoaaDocD
namespace Go.Proofs.Ytihpcpcfccamoaa
open Go.RowKit
set_option linter.unusedVariables false
set_option linter.unusedSimpArgs false
theorem catchUp_one (p : Nat → Prop) (w W : World) (b : Nat) (nm : ByteArray) (ver : Int) (text : ByteArray) (v : Value) (E : List Edit) (g : Nat) (T : TypeId) (fr : Nat × Nat) (h : RepAt w b nm ver text) (hE : Eds p w v E) (hF : Fits E) (h0 : 0 ≤ ver) (hok : docNext ver text E = 0)
    (hW : Chg [] w W) (hg : W.heap[g]? = some (.cells #[v] T fr)) :
    Calls Try.prog 13 #[.pointer (some ⟨b, 0, none⟩), .slice (some ⟨g, 0, none⟩) 1 1] W fun e w' => e = .returned (.int .i64 0) ∧ RepAt w' b nm (ver + 1) (applyT text E) ∧ ChgP (fun k => k = b) w w' := by
  have hEs : Edss (fun k => p k ∨ k = g) W (.slice (some ⟨g, 0, none⟩) 1 1) [E] :=
    ⟨_, 1, rfl, by simp, by unfold maxLen; omega, fun _ => ⟨g, 0, rfl, Or.inr rfl, fun j hj => by
      have : j = 0 := by simp at hj; omega
      subst this
      exact ⟨v, cell_of_heap hg rfl, (hE.same hW).imp (fun _ h => Or.inl h) (fun _ _ _ h => h)⟩⟩⟩
  refine (catchUp_any _ W b nm ver text _ [E] ((hW.block b (lt_of_obj h) (by simp)).trans h) hEs (by simpa using hF) h0 fun k hk => ?_).mono ?_
  · have : k = 0 := by simp at hk; omega
    subst this
    exact hok
  · rintro e w' ⟨rfl, hr, hc⟩
    exact ⟨rfl, hr, (hW.p.comp hc fun x hx => Or.inl hx)⟩
set_option maxRecDepth 100000 in
set_option maxHeartbeats 4000000 in
theorem repApply_any (p : Nat → Prop) (w : World) (b : Nat) (nm : ByteArray) (ver : Int) (text : ByteArray) (to from_ : Int) (v : Value) (E : List Edit) (h : RepAt w b nm ver text) (hE : Eds p w v E) (hF : Fits E) (h0 : 0 ≤ ver) (hok : docNext ver text E = 0) :
    Calls Try.prog 14 #[.pointer (some ⟨b, 0, none⟩), .agg #[.int .i64 to, .int .i64 from_, .string nm, .int .i64 (ver + 1), v]] w fun e w' => e = .returned (.int .i64 0) ∧ RepAt w' b nm (ver + 1) (applyT text E) ∧ ChgP (fun k => k = b) w w' := by
  obtain ⟨a, cap, rfl, hml, hcap⟩ := hE.shape
  have hv2 : ver < 2147483647 := Classical.byContradiction fun hh => by
    unfold docNext at hok
    split at hok
    · rename_i h1; exact h1 hok
    · rw [if_pos (Or.inr (by omega))] at hok; cases hok
  obtain ⟨x0, x1, x2, _, _, _⟩ := three h
  have hlt := lt_of_obj h
  have hlt1 : b < w.heap.size + 1 := by omega
  have hlt2 : b < w.heap.size + 2 := by omega
  have HE := Lib.hid hE
  have Hok := Lib.hid hok
  have H := Lib.hid h
  have hn1 : (nm.toList == nm.toList) = true := by simp
  have hq : ((ver + 1 : Int) == -9223372036854775808) = false := by simp; omega
  have hq4 : (ver == ver) = true := by simp
  clear hE hok hcap h
  go_enter Try.func14, Try.ntmps14
  go_wp2_with fail
  go_quiet (fail)
  go_wp2_with fail
  go_quiet (fail)
  go_wp2_with fail
  refine (catchUp_one p w _ b nm ver text (.slice a E.length cap) E _ _ _ H.out HE.out hF h0 Hok.out ((((Chg.refl [] w).alloc _).drewN _).alloc _) (heap_at _ _ _ (by simp))).mono ?_
  rintro e w3 ⟨rfl, hr, hc3⟩
  go_wp2_with fail
  go_ret
  exact ⟨rfl, hr, hc3⟩
end Go.Proofs.Ytihpcpcfccamoaa
