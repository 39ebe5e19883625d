/- JournalRoundTrip returns true for every list of records: it holds without any condition. Reading a journal gives back the records that were appended to it. -/
import Derived.Test.YtjijkfehieokbaaJouG
import Derived.ProofKit
import Derived.OpenShut
import Derived.ShutString
import Derived.ChangeOld
import Derived.Deep.Slices
import Derived.Deep.Strs
namespace Go.Proofs.Ytjijkfehieokbaa
open Go.ChangeShapes Go.WideShapes Go.ChangeAt Go.RowKit Go.Deep
set_option linter.unusedVariables false
theorem Try.laidOut : laidOutB Try.prog = true := by kernel_rfl
theorem Try.own : ownKnob Try.prog.godebug = none := by kernel_rfl
theorem Try.cellsRec : Try.prog.cellsOf 31 = 3 := by kernel_rfl
theorem Try.cellsStr : Try.prog.cellsOf 9 = 1 := by kernel_rfl
theorem Try.cellsBool : Try.prog.cellsOf 4 = 1 := by kernel_rfl
theorem open_recs {H : Type} {enc : TypeId × Value → H} {W : World} {fuel : Nat} {a0 : Option Addr} {len0 cap0 : Nat} {x : DataW H × List MemPlace}
    (h : DataW.trod enc Try.prog W 0 (fun _ => true) true fuel 22 [.slice a0 len0 cap0] = some x) : ∃ ss, RecsAt W (.slice a0 len0 cap0) ss := by
  rcases open_slice Try.underlying22 h with ⟨hcs, _⟩ | ⟨a, len, cap, m, n, D, Pl, hcs, hb, hl, hm, hmm, hx, hi⟩
  · simp at hcs
    obtain ⟨rfl, rfl, rfl⟩ := hcs
    exact ⟨[], Or.inl ⟨rfl, rfl⟩⟩
  · simp only [List.cons.injEq, Value.slice.injEq, and_true] at hcs
    obtain ⟨rfl, rfl, rfl⟩ := hcs
    simp only [if_true] at hmm
    have hf : ∀ i, i < len0 → ∃ p : Rec, W.cell? (a.add (i * 3 + 0)) = some (.string p.key) ∧ W.cell? (a.add (i * 3 + 1)) = some (.string p.val) ∧ W.cell? (a.add (i * 3 + 2)) = some (.bool p.del) := by
      intro i him
      obtain ⟨cs', hc, ht⟩ := hi i (by omega)
      rw [Try.cellsRec] at hc
      obtain ⟨y0, y1, y2, n', _, hlen, t0, t1, t2⟩ := trod_struct3 Try.underlying31 ht
      obtain ⟨_, hcl, hat⟩ := World.cells?_some hc
      simp only [Try.cellsStr, Try.cellsBool] at t0 t1 t2
      have e0 : cs'[0]? = some (cs'[0]'(by omega)) := List.getElem?_eq_getElem (by omega)
      have e1 : cs'[1]? = some (cs'[1]'(by omega)) := List.getElem?_eq_getElem (by omega)
      have e2 : cs'[2]? = some (cs'[2]'(by omega)) := List.getElem?_eq_getElem (by omega)
      have d0 : (cs'.drop 0).take 1 = [cs'[0]'(by omega)] := by rw [List.drop_eq_getElem_cons (by omega)]; rfl
      have d1 : (cs'.drop 1).take 1 = [cs'[1]'(by omega)] := by rw [List.drop_eq_getElem_cons (by omega)]; rfl
      have d2 : (cs'.drop 2).take 1 = [cs'[2]'(by omega)] := by rw [List.drop_eq_getElem_cons (by omega)]; rfl
      rw [d0] at t0
      rw [d1] at t1
      rw [d2] at t2
      obtain ⟨z0, h0, _⟩ := DataW.trod_string Try.underlying9 t0
      obtain ⟨z1, h1, _⟩ := DataW.trod_string Try.underlying9 t1
      obtain ⟨z2, h2, _⟩ := DataW.trod_bool Try.underlying4 t2
      simp only [List.cons.injEq, and_true] at h0 h1 h2
      refine ⟨⟨z0, z1, z2⟩, ?_, ?_, ?_⟩
      · rw [← add_add, hat 0 (by omega), e0, h0]
      · rw [← add_add, hat 1 (by omega), e1, h1]
      · rw [← add_add, hat 2 (by omega), e2, h2]
    obtain ⟨b, off, spot⟩ := a
    by_cases h0 : len0 = 0
    · subst h0
      exact ⟨[], Or.inr (Or.inl ⟨_, _, rfl, rfl⟩)⟩
    · have hspot : spot = none := by
        obtain ⟨p, hp, _⟩ := hf 0 (by omega)
        simpa [Addr.add] using World.cell?_spot hp
      subst hspot
      have hex : ∃ f : Nat → Rec, ∀ i, i < len0 → W.cell? ((⟨b, off, none⟩ : Addr).add (i * 3 + 0)) = some (.string (f i).key) ∧ W.cell? ((⟨b, off, none⟩ : Addr).add (i * 3 + 1)) = some (.string (f i).val) ∧ W.cell? ((⟨b, off, none⟩ : Addr).add (i * 3 + 2)) = some (.bool (f i).del) :=
        ⟨fun i => if hi : i < len0 then (hf i hi).choose else Rec.zero, fun i hi => by simp only [dif_pos hi]; exact (hf i hi).choose_spec⟩
      obtain ⟨f, hff⟩ := hex
      refine ⟨(List.range len0).map f, Or.inr (Or.inr ⟨b, off, cap0, by simp, by simpa using hl, hm, fun i hi => ?_⟩)⟩
      have hi' : i < len0 := by simpa using hi
      have hfi := hff i hi'
      have e : ((List.range len0).map f).getD i Rec.zero = f i := by simp [hi']
      simp only [Addr.add_lit] at hfi
      rw [e]
      exact ⟨hfi.1, by rw [Nat.add_assoc]; exact hfi.2.1, by rw [Nat.add_assoc]; exact hfi.2.2⟩

set_option maxRecDepth 100000 in
theorem roundTrip_lifted (os : Os) (started : os.Started) (H : Type) (enc : TypeId × Value → H) :
    ReturnsInHanded {} Try.checked os 3 .any (Rows.journalRoundTripSpec.pre6 enc Try.prog Try.f3 Rows.journalRoundTripRow.domain false) (Rows.journalRoundTripSpec.post enc Try.prog Try.f3 false true false false) := by
  refine returnsInHanded_of_change (C := Try.checked) Try.own started (by kernel_rfl) Try.func3
    (ChangeSpec.witness6 (enc := enc) (C := Try.checked) false ⟨#[], #[.slice none 0 0], []⟩ 8 (by kernel_rfl) (by kernel_rfl) (by kernel_rfl) (by kernel_rfl)) ?_
  intro W base args ds gs before hval0 hW hcnd _
  have hval : ∀ (j : Nat) t v, Try.f3.params[j]? = some t → args[j]? = some v → Value.okWide Try.prog W .any base t v := hval0
  have hW' := hW
  obtain ⟨p, q, hA0, hV, rfl, hfz, hnd⟩ := hW
  have hA : DataW.TrodAll enc Try.prog W 0 (fun _ => true) true Try.f3.params.toList args.toList ds p := hA0
  rw [Try.params3] at hA hval
  obtain ⟨v0, vs0, d0, ds0, p0, q0, hargs, rfl, rfl, h0, r0⟩ := trodAll_cons hA
  obtain ⟨rfl, rfl, rfl⟩ := trodAll_nil r0
  obtain rfl : args = #[v0] := by cases args; simp_all
  obtain ⟨rfl, rfl⟩ := trodVars_none hV
  obtain ⟨a0, len0, cap0, rfl⟩ := okWide_slice Try.underlying22 (hval 0 22 v0 rfl rfl)
  have k0 := h0
  have lt0 : ∀ x ∈ p0, x.block < W.heap.size := by obtain ⟨m, hm⟩ := k0; exact DataW.trod_lt m _ _ _ hm
  obtain ⟨fuel, hf⟩ := h0
  obtain ⟨ss, hss⟩ := open_recs hf
  clear hA0 hval0
  refine (roundTrip_any W _ ss hss).mono fun e W' ⟨he, hch⟩ => ?_
  have bel : Below W.heap.size W W' := hch.below (Nat.le_refl _) (by simp)
  subst he
  exact ⟨_, rfl, _, _, _, [], _, [], hW', trodAll_mk1 (shut_bool Try.underlying4 _), (trodAll_cons_mk (Below.trod Try.laidOut (by kernel_rfl) (of_decide_eq_true (by kernel_rfl)) k0 bel lt0) trodAll_mk0), rfl, bel.frame _, fun h => by cases h⟩

theorem roundTrip_holds : Rows.JournalRoundTripSaid :=
  OpenClaim.holds_of_wide 3 Try.f3 rfl rfl rfl rfl rfl rfl rfl ⟨rfl, rfl, rfl, rfl, rfl⟩ rfl rfl rfl rfl rfl (by kernel_rfl) Try.func3 (by kernel_rfl)
    (of_decide_eq_true (by kernel_rfl)) (by unfold Func.isWrapper; first | (rw [if_pos (by decide +kernel)]; kernel_rfl) | (rw [if_neg (by decide +kernel)]; exact ⟨rfl, rfl⟩))
    (fun os started H enc _ => roundTrip_lifted os started H enc)
#print axioms roundTrip_holds
end Go.Proofs.Ytjijkfehieokbaa
