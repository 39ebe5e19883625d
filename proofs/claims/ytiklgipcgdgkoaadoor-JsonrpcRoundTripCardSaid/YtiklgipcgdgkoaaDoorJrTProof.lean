/- JsonrpcRoundTrip returns true for every message: it holds without any condition, the listed variables of Go's library (unicode/utf8.first, unicode/utf8.acceptRanges, internal/strconv.uint64pow10, math/bits.deBruijn32tab, math/bits.deBruijn64tab) holding what the program's text lays. What cannot be encoded is refused; what is encoded is decoded as it was, whatever the order of the members. -/
import Derived.Test.YtiklgipcgdgkoaaDoorRows
import Derived.Test.YtiklgipcgdgkoaaDoorCards
import Derived.Test.YtiklgipcgdgkoaaDoorTie
import Derived.Test.YtiklgipcgdgkoaaDoorJrT
import Derived.Test.YtiklgipcgdgkoaaDoorJvR
import Derived.ProofKit
import Derived.OpenShut
import Derived.ShutString
import Derived.ChangeOld
import Derived.Deep.Slices
import Derived.Deep.Strs
import Derived.LaidMore
import Derived.Lay
import Derived.SevenTiedAt
import Derived.Stop.Joined
namespace Go.Proofs.YtiklgipcgdgkoaaDoor
open Go.ChangeShapes Go.WideShapes Go.ChangeAt Go.RowKit Go.Deep
open Go.ChangeMaps (open_string shut_string)
set_option linter.unusedVariables false
set_option linter.unusedSimpArgs false
namespace Jv
theorem cellsM : Tryd.prog.cellsOf 27 = 9 := by kernel_rfl
theorem len9 {α : Type} {l : List α} (h : l.length = 9) : ∃ a b c d e f g i j, l = [a, b, c, d, e, f, g, i, j] := by
  match l, h with
  | [a, b, c, d, e, f, g, i, j], _ => exact ⟨a, b, c, d, e, f, g, i, j, rfl⟩
set_option maxRecDepth 100000 in
/-- a message, read out of its datum -/
theorem open_msg {H : Type} {enc : TypeId × Value → H} {W : World} {base : Nat} {v : Value} {d : DataW H} {ps : List MemPlace} (hval : Value.okWide Tryd.prog W .any base 27 v) (hd : DataW.Trod enc Tryd.prog W 0 (fun _ => true) true 27 v d ps) :
    ∃ k i c t e b f, v = mB k i c t e ∧ t.size ≤ maxLen ∧ JV (fun g => g < W.heap.size) f W e.val b := by
  obtain ⟨cs, rfl, hsz⟩ := okWide_struct Tryd.underlying27 hval
  obtain ⟨fuel, hf⟩ := hd
  have hce : (Value.agg cs).cells = cs := rfl
  rw [hce] at hf
  obtain ⟨l⟩ := cs
  obtain ⟨xs, n, _, hx, hl, hlen, hf⟩ := DataW.trod_struct Tryd.underlying27 hf
  rw [cellsM] at hl
  match xs, hlen with
  | [y0, y1, y2, y3, y4], _ =>
    have t0 := hf 0 _ rfl
    have t1 := hf 1 _ rfl
    have t2 := hf 2 _ rfl
    have t3 := hf 3 _ rfl
    have t4 := hf 4 _ rfl
    simp only [List.getElem_toArray, List.getElem_cons_zero, List.getElem_cons_succ, cellsInt, cellsString, cellsJ, List.getElem?_cons_zero, List.getElem?_cons_succ] at t0 t1 t2 t3 t4
    obtain ⟨c0, c1, c2, c3, c4, c5, c6, c7, c8, hc⟩ := len9 (l := l) hl
    subst hc
    obtain ⟨z0, h0, _⟩ := DataW.trod_int Tryd.underlying3 t0
    obtain ⟨z1, h1, _⟩ := DataW.trod_int Tryd.underlying3 t1
    obtain ⟨z2, h2, _⟩ := DataW.trod_int Tryd.underlying3 t2
    obtain ⟨z3, h3, _, h3l⟩ := DataW.trod_string Tryd.underlying9 t3
    simp only [List.drop_zero, List.drop_succ_cons, List.take_succ_cons, List.take_zero, List.cons.injEq, and_true] at h0 h1 h2 h3
    subst h0 h1 h2 h3
    simp only [List.drop_zero, List.drop_succ_cons, List.take_succ_cons, List.take_zero] at t4
    obtain ⟨j, hj⟩ := open_cells _ _ _ _ (Nat.le_refl _) t4
    obtain ⟨e, he⟩ := hj.ev'
    rw [he] at hj
    unfold Ev.val at he
    simp only [Value.agg.injEq, Array.mk.injEq, List.cons.injEq, and_true] at he
    obtain ⟨rfl, rfl, rfl, rfl, rfl⟩ := he
    exact ⟨z0, z1, z2, z3, e, j, _, rfl, h3l, hj⟩
end Jv
set_option maxRecDepth 100000 in
theorem rt_lifted (os : Os) (started : os.Started) (H : Type) (enc : TypeId × Value → H) :
    ReturnsInHanded {} Tryd.checked os 3 .any (fun w args => (Rows.jsonrpcRoundTripSpec.pre enc Tryd.prog Tryd.f3 Rows.jsonrpcRoundTripRow.domain false w args ∧ laidMetH Tryd.prog Rows.jsonrpcRoundTripRow.laid w) ∧ sizedMet enc Tryd.prog Tryd.f3 (OpenSpec.ofChange Rows.jsonrpcRoundTripSpec) false w args)
      (Rows.jsonrpcRoundTripSpec.post enc Tryd.prog Tryd.f3 false true false false) := by
  refine returnsInHanded_of_change_and (C := Tryd.checked) (X := fun w _ => laidMetH Tryd.prog Rows.jsonrpcRoundTripRow.laid w) (fun _ _ _ hh h => h.of_heap hh) Jv.ownNone started (by kernel_rfl) Tryd.func3
    (ChangeSpec.witness_shaped (enc := enc) (C := Tryd.checked) (os := os) (X := fun w _ => laidMetH Tryd.prog Rows.jsonrpcRoundTripRow.laid w) false (World.laidAll Tryd.prog os Rows.jsonrpcRoundTripRow.laid) #[.agg #[.int .i64 0, .int .i64 0, .int .i64 0, .string ⟨#[]⟩, .int .i64 0, .int .i64 0, .string ⟨#[]⟩, .slice none 0 0, .slice none 0 0]] 8 (World.laidAll_os _ _ _)
      (World.shaped_of_ZipB (by kernel_rfl) (by kernel_rfl)) (by kernel_rfl) (by kernel_rfl) (by kernel_rfl)
      (by rw [MakeChecks.laidMetH_plain _ _ _ (by kernel_rfl)]; exact laidMet_laidAll _ (by kernel_rfl) (by kernel_rfl))) ?_
  intro W base args ds gs before hval0 hW hcnd hsz hL _
  have hval : ∀ (j : Nat) t v, Tryd.f3.params[j]? = some t → args[j]? = some v → Value.okWide Tryd.prog W .any base t v := hval0
  have hW' := hW
  obtain ⟨p, q, hA0, hV, rfl, hfz, hnd⟩ := hW
  have hA : DataW.TrodAll enc Tryd.prog W 0 (fun _ => true) true Tryd.f3.params.toList args.toList ds p := hA0
  rw [Tryd.params3] at hA hval
  obtain ⟨v0, vs0, d0, ds0, p0, q0, hargs, rfl, rfl, h0, r0⟩ := trodAll_cons hA
  obtain ⟨rfl, rfl, rfl⟩ := trodAll_nil r0
  obtain rfl : args = #[v0] := by cases args; simp_all
  obtain ⟨rfl, rfl⟩ := trodVars_none hV
  have k0 := h0
  have lt0 : ∀ x ∈ p0, x.block < W.heap.size := by obtain ⟨m, hm⟩ := k0; exact DataW.trod_lt m _ _ _ hm
  obtain ⟨k, i, c, t, e, b, f, rfl, ht, hb⟩ := Jv.open_msg (hval 0 27 v0 rfl rfl) h0
  rw [MakeChecks.laidMetH_plain _ _ _ (by kernel_rfl)] at hL
  have hT : Jv.Tb W := Jv.tabs_of_reads (Lib.laidMet.reads hL (.tail _ (.tail _ (.tail _ (.tail _ (.head _)))))) (Lib.laidMet.reads hL (.tail _ (.tail _ (.tail _ (.head _)))))
  have hP : Jv.P10 W := Jv.p10_of_reads (Lib.laidMet.reads hL (.tail _ (.tail _ (.head _))))
  clear hA0 hval0
  refine (Jv.rt_any _ f W k i c t e b hb (fun g h => h) ht ⟨hT, hP⟩).mono fun e W' ⟨he, hch⟩ => ?_
  have bel : Below W.heap.size W W' := hch.below (Nat.le_refl _) (by simp)
  subst he
  exact ⟨_, rfl, _, _, _, [], _, [], hW', trodAll_mk1 (shut_bool Tryd.underlying4 _), (trodAll_cons_mk (Below.trod Jv.laidOut (by kernel_rfl) (of_decide_eq_true (by kernel_rfl)) k0 bel lt0) trodAll_mk0), rfl, bel.frame _, fun h => by cases h⟩
theorem rt_row_holds : Rows.JsonrpcRoundTripSaid :=
  OpenClaim.holds_of_wide 3 Tryd.f3 rfl rfl rfl rfl rfl rfl rfl ⟨rfl, rfl, rfl, rfl, rfl⟩ rfl rfl rfl rfl rfl (by kernel_rfl) Tryd.func3 (by kernel_rfl)
    (of_decide_eq_true (by kernel_rfl)) (by unfold Func.isWrapper; first | (rw [if_pos (by decide +kernel)]; kernel_rfl) | (rw [if_neg (by decide +kernel)]; exact ⟨rfl, rfl⟩))
    (fun os started H enc _ => rt_lifted os started H enc)
theorem rtLaw_holds : Rows.JsonrpcRoundTripCardSaid :=
  Claim7.holds_tied_plain_at .later [] [.data, .data, .data, .data, .pinned] true Rows.jsonrpcRoundTripCard.stood.harness false rt_row_holds (fun _ h => by cases h) (by kernel_rfl) (fun _ h => by cases h) jsonrpcRoundTrip_row_tie rfl ⟨rfl, rfl⟩ (by kernel_rfl) rfl
    (fun f fn hf hfn => by
      obtain rfl : f = 3 := Option.some.inj ((show Tryd.prog.funcNamed "glossator/glossatorkeep3.JsonrpcRoundTrip" = some 3 by kernel_rfl).symm.trans hf) |>.symm
      obtain rfl : fn = Tryd.f3 := (Option.some.inj (Tryd.func3.symm.trans hfn)).symm
      exact ⟨by kernel_rfl, fun j t ht => by
        rw [Tryd.params3] at ht
        have hm : t ∈ [27] := by simpa using Array.mem_of_getElem? ht
        have hall : ([27].all fun u => !Tryd.prog.wantsStandIn u) = true := by kernel_rfl
        exact (show Tryd.prog.wantsStandIn t = false by simpa using List.all_eq_true.1 hall t hm)⟩)
    (by kernel_rfl)
#print axioms rtLaw_holds
end Go.Proofs.YtiklgipcgdgkoaaDoor
