/- JsonvalCanonical returns true for every text: it holds without any condition, the listed variables of Go's library (unicode/utf8.first, unicode/utf8.acceptRanges, internal/strconv.uint64pow10, math/bits.deBruijn32tab, math/bits.deBruijn64tab, strconv.ErrSyntax, strconv.ErrRange) holding what the program's text lays. A text that Decode accepts has a canonical text that is no longer, and that decoding and encoding leave as it is. -/
import Derived.Test.YtpnaegfldkjikaaDoorRows
import Derived.Test.YtpnaegfldkjikaaDoorCards
import Derived.Test.YtpnaegfldkjikaaDoorTie
import Derived.Test.YtpnaegfldkjikaaDoorJyJ
import Derived.Test.YtpnaegfldkjikaaDoorJvR
import Derived.ProofKit
import Derived.OpenShut
import Derived.ShutString
import Derived.ChangeOld
import Derived.LaidMore
import Derived.Lay
import Derived.SevenTiedAt
import Derived.Stop.Joined
import Derived.Stop.LaidErr
namespace Go.Proofs.YtpnaegfldkjikaaDoor
open Go.ChangeShapes Go.WideShapes Go.ChangeAt Go.RowKit Go.Deep
open Go.ChangeMaps (open_string shut_string)
set_option linter.unusedVariables false
theorem ers_named : Tryd.prog.globalNamed "strconv.ErrSyntax" = some 4 := by kernel_rfl
theorem err_named : Tryd.prog.globalNamed "strconv.ErrRange" = some 5 := by kernel_rfl
theorem er_star : "*" ++ "errors.errorString" = "*errors.errorString" := by decide
theorem er_row (u : TypeId) (h : Tryd.prog.typeName? 3 u = some "*errors.errorString") : u = 121 :=
  typeName_ptr_named (nm := "errors.errorString") (by rw [er_star]; kernel_rfl) (by kernel_rfl) (by decide) u (by rw [er_star]; exact h)
theorem er_of_laid {W : World} {r : List (String × DataW Unit)} (h : laidMet Tryd.prog (("strconv.ErrRange", Rows.laid_strconv_ErrRange) :: ("strconv.ErrSyntax", Rows.laid_strconv_ErrSyntax) :: r) W) : Jv.Er W := by
  obtain ⟨a0, s0, hv0, -, -, -⟩ := laid_sentinel (nm := "*errors.errorString") h err_named (show (Tryd.prog.globals[5]?).map (·.type) = some 64 by kernel_rfl) Tryd.underlying64 er_row Tryd.underlying121 Tryd.underlying123 rfl rfl Tryd.underlying9 (by kernel_rfl) (by kernel_rfl)
  obtain ⟨a1, s1, hv1, -, -, -⟩ := laid_sentinel (nm := "*errors.errorString") h.tail ers_named (show (Tryd.prog.globals[4]?).map (·.type) = some 64 by kernel_rfl) Tryd.underlying64 er_row Tryd.underlying121 Tryd.underlying123 rfl rfl Tryd.underlying9 (by kernel_rfl) (by kernel_rfl)
  have h0 := World.var?_cell err_named hv0 0
  have h1 := World.var?_cell ers_named hv1 0
  exact ⟨_, _, by simpa using h1, by simpa using h0, Or.inr ⟨_, _, rfl⟩, Or.inr ⟨_, _, rfl⟩⟩
set_option maxRecDepth 100000 in
theorem canonical_lifted (os : Os) (started : os.Started) (H : Type) (enc : TypeId × Value → H) :
    ReturnsInHanded {} Tryd.checked os 5 .any (fun w args => (Rows.jsonvalCanonicalSpec.pre enc Tryd.prog Tryd.f5 Rows.jsonvalCanonicalRow.domain false w args ∧ laidMetH Tryd.prog Rows.jsonvalCanonicalRow.laid w) ∧ sizedMet enc Tryd.prog Tryd.f5 (OpenSpec.ofChange Rows.jsonvalCanonicalSpec) false w args)
      (Rows.jsonvalCanonicalSpec.post enc Tryd.prog Tryd.f5 false true false false) := by
  refine returnsInHanded_of_change_and (C := Tryd.checked) (X := fun w _ => laidMetH Tryd.prog Rows.jsonvalCanonicalRow.laid w) (fun _ _ _ hh h => h.of_heap hh) Jv.ownNone started (by kernel_rfl) Tryd.func5
    (ChangeSpec.witness_shaped (enc := enc) (C := Tryd.checked) (os := os) (X := fun w _ => laidMetH Tryd.prog Rows.jsonvalCanonicalRow.laid w) false (World.laidAll Tryd.prog os Rows.jsonvalCanonicalRow.laid) #[.string ⟨#[]⟩] 8 (World.laidAll_os _ _ _)
      (World.shaped_of_ZipB (by kernel_rfl) (by kernel_rfl)) (by kernel_rfl) (by kernel_rfl) (by kernel_rfl)
      (by rw [MakeChecks.laidMetH_plain _ _ _ (by kernel_rfl)]; exact laidMet_laidAll _ (by kernel_rfl) (by kernel_rfl))) ?_
  intro W base args ds gs before hval0 hW hcnd hsz hL _
  have hval : ∀ (j : Nat) t v, Tryd.f5.params[j]? = some t → args[j]? = some v → Value.okWide Tryd.prog W .any base t v := hval0
  have hW' := hW
  obtain ⟨p, q, hA0, hV, rfl, hfz, hnd⟩ := hW
  have hA : DataW.TrodAll enc Tryd.prog W 0 (fun _ => true) true Tryd.f5.params.toList args.toList ds p := hA0
  rw [Tryd.params5] at hA hval
  obtain ⟨v1, vs1, d1, ds1, p1, q1, hargs, rfl, rfl, h1, r1⟩ := trodAll_cons hA
  obtain ⟨rfl, rfl, rfl⟩ := trodAll_nil r1
  obtain rfl : args = #[v1] := by cases args; simp_all
  obtain ⟨rfl, rfl⟩ := trodVars_none hV
  obtain ⟨s, rfl, rfl, rfl, w1⟩ := open_string Tryd.underlying9 (hval 0 9 v1 rfl rfl) h1
  rw [MakeChecks.laidMetH_plain _ _ _ (by kernel_rfl)] at hL
  have hT : Jv.Tb W := Jv.tabs_of_reads (Lib.laidMet.reads hL (.tail _ (.tail _ (.tail _ (.tail _ (.tail _ (.tail _ (.head _)))))))) (Lib.laidMet.reads hL (.tail _ (.tail _ (.tail _ (.head _)))))
  have hP : Jv.P10 W := Jv.p10_of_reads (Lib.laidMet.reads hL (.tail _ (.tail _ (.head _))))
  have hEr : Jv.Er W := er_of_laid (laidMet.tail (laidMet.tail (laidMet.tail (laidMet.tail hL))))
  clear hA0 hval0
  refine (Jv.canonical_any s W hT hP hEr).mono fun e W' ⟨he, hch⟩ => ?_
  have bel : Below W.heap.size W W' := hch.below (Nat.le_refl _) (by simp)
  subst he
  exact ⟨_, rfl, _, _, _, [], _, [], hW', trodAll_mk1 (shut_bool Tryd.underlying4 _), (trodAll_cons_mk (shut_string Tryd.underlying9 w1) trodAll_mk0), rfl, bel.frame _, fun h => by cases h⟩
theorem canonical_row_holds : Rows.JsonvalCanonicalSaid :=
  OpenClaim.holds_of_wide 5 Tryd.f5 rfl rfl rfl rfl rfl rfl rfl ⟨rfl, rfl, rfl, rfl, rfl⟩ rfl rfl rfl rfl rfl (by kernel_rfl) Tryd.func5 (by kernel_rfl)
    (of_decide_eq_true (by kernel_rfl)) (by unfold Func.isWrapper; first | (rw [if_pos (by decide +kernel)]; kernel_rfl) | (rw [if_neg (by decide +kernel)]; exact ⟨rfl, rfl⟩))
    (fun os started H enc _ => canonical_lifted os started H enc)
theorem canonicalLaw_holds : Rows.JsonvalCanonicalCardSaid :=
  Claim7.holds_tied_plain_at .later [] [.data, .data, .data, .data, .sentinel, .sentinel, .pinned] true Rows.jsonvalCanonicalCard.stood.harness true canonical_row_holds (fun _ h => by cases h) (by kernel_rfl) (fun _ h => by cases h) jsonvalCanonical_row_tie rfl ⟨rfl, rfl⟩ (by kernel_rfl) rfl
    (fun f fn hf hfn => by
      obtain rfl : f = 5 := Option.some.inj ((show Tryd.prog.funcNamed "glossator/glossatorkeep3.JsonvalCanonical" = some 5 by kernel_rfl).symm.trans hf) |>.symm
      obtain rfl : fn = Tryd.f5 := (Option.some.inj (Tryd.func5.symm.trans hfn)).symm
      exact ⟨by kernel_rfl, fun j t ht => by
        rw [Tryd.params5] at ht
        have hm : t ∈ [9] := by simpa using Array.mem_of_getElem? ht
        have hall : ([9].all fun u => !Tryd.prog.wantsStandIn u) = true := by kernel_rfl
        exact (show Tryd.prog.wantsStandIn t = false by simpa using List.all_eq_true.1 hall t hm)⟩)
    (by kernel_rfl)
#print axioms canonicalLaw_holds
end Go.Proofs.YtpnaegfldkjikaaDoor
