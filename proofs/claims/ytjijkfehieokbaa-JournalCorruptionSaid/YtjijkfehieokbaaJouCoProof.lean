/- JournalCorruption returns true for every list of records, every last record, every place and every byte: it holds without any condition. A byte that was replaced in the payload of a frame is detected. -/
import Derived.Test.YtjijkfehieokbaaJouK
import Derived.Test.YtjijkfehieokbaaJouRtProof
namespace Go.Proofs.Ytjijkfehieokbaa
open Go.ChangeShapes Go.WideShapes Go.ChangeAt Go.RowKit Go.Deep
set_option linter.unusedVariables false
theorem open_rec {H : Type} {enc : TypeId × Value → H} {W : World} {base : Nat} {v : Value} {d : DataW H} {ps : List MemPlace}
    (hval : Value.okWide Try.prog W .any base 31 v) (hd : DataW.Trod enc Try.prog W 0 (fun _ => true) true 31 v d ps) : ∃ rc : Rec, v = .agg #[.string rc.key, .string rc.val, .bool rc.del] := by
  obtain ⟨cs, rfl, hsz⟩ := okWide_struct Try.underlying31 hval
  rw [Try.cellsRec] at hsz
  obtain ⟨fuel, hf⟩ := hd
  have hce : (Value.agg cs).cells = cs := rfl
  rw [hce] at hf
  have hlen : cs.toList.length = 3 := by simpa using hsz
  obtain ⟨y0, y1, y2, n', _, _, t0, t1, t2⟩ := trod_struct3 Try.underlying31 hf
  simp only [Try.cellsStr, Try.cellsBool] at t0 t1 t2
  obtain ⟨l⟩ := cs
  match l, hlen with
  | [c0, c1, c2], _ =>
    obtain ⟨z0, h0, _⟩ := DataW.trod_string Try.underlying9 t0
    obtain ⟨z1, h1, _⟩ := DataW.trod_string Try.underlying9 t1
    obtain ⟨z2, h2, _⟩ := DataW.trod_bool Try.underlying4 t2
    simp only [List.drop_zero, List.drop_succ_cons, List.take_succ_cons, List.take_zero, List.cons.injEq, and_true] at h0 h1 h2
    subst h0 h1 h2
    exact ⟨⟨z0, z1, z2⟩, rfl⟩

set_option maxRecDepth 100000 in
theorem corruption_lifted (os : Os) (started : os.Started) (H : Type) (enc : TypeId × Value → H) :
    ReturnsInHanded {} Try.checked os 5 .any (Rows.journalCorruptionSpec.pre6 enc Try.prog Try.f5 Rows.journalCorruptionRow.domain false) (Rows.journalCorruptionSpec.post enc Try.prog Try.f5 false true false false) := by
  refine returnsInHanded_of_change (C := Try.checked) Try.own started (by kernel_rfl) Try.func5
    (ChangeSpec.witness6 (enc := enc) (C := Try.checked) false ⟨#[], #[.slice none 0 0, .agg #[.string ⟨#[]⟩, .string ⟨#[]⟩, .bool false], .int .i64 0, .int .u8 0], []⟩ 8 (by kernel_rfl) (by kernel_rfl) (by kernel_rfl) (by kernel_rfl)) ?_
  intro W base args ds gs before hval0 hW hcnd _
  have hval : ∀ (j : Nat) t v, Try.f5.params[j]? = some t → args[j]? = some v → Value.okWide Try.prog W .any base t v := hval0
  have hW' := hW
  obtain ⟨p, q, hA0, hV, rfl, hfz, hnd⟩ := hW
  have hA : DataW.TrodAll enc Try.prog W 0 (fun _ => true) true Try.f5.params.toList args.toList ds p := hA0
  rw [Try.params5] at hA hval
  obtain ⟨v0, vs0, d0, ds0, p0, q0, hargs, rfl, rfl, h0, r0⟩ := trodAll_cons hA
  obtain ⟨v1, vs1, d1, ds1, p1, q1, rfl, rfl, rfl, h1, r1⟩ := trodAll_cons r0
  obtain ⟨v2, vs2, d2, ds2, p2, q2, rfl, rfl, rfl, h2, r2⟩ := trodAll_cons r1
  obtain ⟨v3, vs3, d3, ds3, p3, q3, rfl, rfl, rfl, h3, r3⟩ := trodAll_cons r2
  obtain ⟨rfl, rfl, rfl⟩ := trodAll_nil r3
  obtain rfl : args = #[v0, v1, v2, v3] := by cases args; simp_all
  obtain ⟨rfl, rfl⟩ := trodVars_none hV
  obtain ⟨a0, len0, cap0, rfl⟩ := okWide_slice Try.underlying22 (hval 0 22 v0 rfl rfl)
  have k0 := h0
  have lt0 : ∀ x ∈ p0, x.block < W.heap.size := by obtain ⟨m, hm⟩ := k0; exact DataW.trod_lt m _ _ _ hm
  obtain ⟨fuel, hf⟩ := h0
  obtain ⟨ss, hss⟩ := open_recs hf
  have k1 := h1
  have lt1 : ∀ x ∈ p1, x.block < W.heap.size := by obtain ⟨m, hm⟩ := k1; exact DataW.trod_lt m _ _ _ hm
  have h1v := hval 1 31 v1 rfl rfl
  obtain ⟨rc, rfl⟩ := open_rec h1v h1
  obtain ⟨x2, rfl, rfl, rfl, w2⟩ := open_int Try.underlying3 (hval 2 3 v2 rfl rfl) h2
  obtain ⟨x3, rfl, rfl, rfl, w3⟩ := open_int Try.underlying5 (hval 3 5 v3 rfl rfl) h3
  clear hA0 hval0
  obtain ⟨bb, rfl⟩ : ∃ b : UInt8, x3 = (b.toNat : Int) := by
    have hw := w3
    simp only [Lit.wf, Bool.and_eq_true, decide_eq_true_eq] at hw
    obtain ⟨hl, hh⟩ := hw
    have hl' : 0 ≤ x3 := hl
    have hh' : x3 ≤ 255 := hh
    refine ⟨UInt8.ofNat x3.toNat, ?_⟩
    rw [byte_nat _ (by omega)]
    omega
  refine (corruption_any W _ rc.key rc.val rc.del x2 bb ss hss).mono fun e W' ⟨he, hch⟩ => ?_
  have bel : Below W.heap.size W W' := hch.below (Nat.le_refl _) (by simp)
  subst he
  exact ⟨_, rfl, _, _, _, [], _, [], hW', trodAll_mk1 (shut_bool Try.underlying4 _), (trodAll_cons_mk (Below.trod Try.laidOut (by kernel_rfl) (of_decide_eq_true (by kernel_rfl)) k0 bel lt0) (trodAll_cons_mk (Below.trod Try.laidOut (by kernel_rfl) (of_decide_eq_true (by kernel_rfl)) k1 bel lt1) (trodAll_cons_mk (shut_int Try.underlying3 w2) (trodAll_cons_mk (shut_int Try.underlying5 w3) trodAll_mk0)))), rfl, bel.frame _, fun h => by cases h⟩

theorem corruption_holds : Rows.JournalCorruptionSaid :=
  OpenClaim.holds_of_wide 5 Try.f5 rfl rfl rfl rfl rfl rfl rfl ⟨rfl, rfl, rfl, rfl, rfl⟩ rfl rfl rfl rfl rfl (by kernel_rfl) Try.func5 (by kernel_rfl)
    (of_decide_eq_true (by kernel_rfl)) (by unfold Func.isWrapper; first | (rw [if_pos (by decide +kernel)]; kernel_rfl) | (rw [if_neg (by decide +kernel)]; exact ⟨rfl, rfl⟩))
    (fun os started H enc _ => corruption_lifted os started H enc)
#print axioms corruption_holds
end Go.Proofs.Ytjijkfehieokbaa
