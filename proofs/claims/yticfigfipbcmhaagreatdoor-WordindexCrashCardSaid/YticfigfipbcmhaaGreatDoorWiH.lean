/- Index, Contains, Equal at strings (the document's); indexExample. -/
import Derived.Test.YticfigfipbcmhaaGreatDoorWiG
namespace Go.Proofs.YticfigfipbcmhaaGreatDoor
open Go.RowKit Go.ChangeMaps Go.MapKept Go.Shelf
set_option linter.unusedVariables false
set_option linter.unusedSimpArgs false
theorem ret_bool {b c : Bool} (h : b = c) : Ending.returned (.bool b) = .returned (.bool c) := by rw [h]
/-- is a string one of a list -/
def memb (k : ByteArray) (ks : List ByteArray) : Bool := ks.any fun x => decide (k = x)
theorem memb_iff (k : ByteArray) (ks : List ByteArray) : memb k ks = true ↔ k ∈ ks := by
  unfold memb
  rw [List.any_eq_true]
  exact ⟨fun ⟨x, hx, he⟩ => by rw [of_decide_eq_true he]; exact hx, fun h => ⟨k, h, decide_eq_true rfl⟩⟩
theorem memb_true {k : ByteArray} {ks : List ByteArray} (h : k ∈ ks) : memb k ks = true := (memb_iff k ks).2 h
theorem memb_false {k : ByteArray} {ks : List ByteArray} (h : k ∉ ks) : memb k ks = false := by
  rw [← Bool.not_eq_true, memb_iff]
  exact h
set_option maxHeartbeats 1000000 in
theorem refIndexS (p : Nat → Prop) (w : World) (v : Value) (ks : List ByteArray) (k : ByteArray) (hk : StrsP p w v ks) :
    Calls Tryz.prog 28 #[v, .string k] w fun e w' => ∃ z : Int, e = .returned (.int .i64 z) ∧ decide (0 ≤ z) = memb k ks ∧ w' = w := by
  obtain ⟨a, cap, rfl, hm, hc⟩ := hk.shape
  have Hk := Lib.hid hk
  clear hk
  unfold maxLen at hm
  go_enter Tryz.func28, Tryz.ntmps28
  go_wp2_with fail
  go_loopw [9] (fun i wr => ∃ n : Nat, n ≤ ks.length ∧ i = .int .i64 (n : Nat) ∧ Hid (k ∉ ks.take n) ∧ Hid (wr = w)) (fun i _ => ks.length - (intOf i).toNat)
  case atStart => exact ⟨0, by omega, rfl, Lib.hid (by simp), Lib.hid rfl⟩
  case round =>
    obtain ⟨n, hn, rfl, Hnot, Hcw⟩ := hrel
    by_cases hlt : n < ks.length
    · obtain ⟨g, off, rfl, _, q0⟩ := (show StrsP p wr _ ks by rw [Hcw.out]; exact Hk.out).cell n hlt
      obtain ⟨x, hx⟩ : ∃ x, ks.getD n ⟨#[]⟩ = x := ⟨_, rfl⟩
      rw [hx] at q0
      have hxe : ks[n] = x := by rw [← hx, List.getD_eq_getElem?_getD, List.getElem?_eq_getElem hlt]; rfl
      have Hx := Lib.hid hxe
      have lg := lt_of_cell q0
      have hn1 : (n : Int) < ks.length := by omega
      have hn0 : (0 : Int) ≤ (n : Int) := by omega
      have hq := beqS k x
      clear hx hxe
      by_cases he : k = x
      · rw [decide_eq_true he] at hq
        have Hin := Lib.hid (show k ∈ ks by rw [he, ← Hx.out]; exact List.getElem_mem hlt)
        clear he
        go_wp2_with fail
        go_ret
        exact ⟨_, rfl, by rw [decide_eq_true hn0, memb_true Hin.out], Hcw.out⟩
      · rw [decide_eq_false he] at hq
        have Hne := Lib.hid he
        clear he
        go_wp2_with fail
        refine ⟨⟨n + 1, by omega, by go_num, Lib.hid fun hy => ?_, Hcw⟩, by simp [intOf]; omega⟩
        rw [List.take_succ_eq_append_getElem hlt, List.mem_append, List.mem_singleton, Hx.out] at hy
        rcases hy with hy | hy
        · exact Hnot.out hy
        · exact Hne.out hy
    · have hn1 : ¬ ((n : Int) < ks.length) := by omega
      have Hnin := Lib.hid (show k ∉ ks by have := Hnot.out; rwa [List.take_of_length_le (by omega)] at this)
      go_wp2_with fail
      go_ret
      exact ⟨_, rfl, by rw [memb_false Hnin.out]; rfl, Hcw.out⟩
theorem refContainsS (p : Nat → Prop) (w : World) (v : Value) (ks : List ByteArray) (k : ByteArray) (hk : StrsP p w v ks) :
    Calls Tryz.prog 11 #[v, .string k] w fun e w' => e = .returned (.bool (memb k ks)) ∧ w' = w := by
  have Hix := Lib.hid (refIndexS p w v ks k hk)
  clear hk
  go_enter Tryz.func11, Tryz.ntmps11
  go_wp2_with fail
  refine (Hix.out).mono ?_
  rintro e w1 ⟨z, rfl, hz, rfl⟩
  have Hz := Lib.hid hz
  clear hz
  go_wp2_with fail
  go_ret
  exact ⟨ret_bool Hz.out, rfl⟩
set_option maxHeartbeats 4000000 in
theorem eqStrs_any (p q : Nat → Prop) (w : World) (v1 v2 : Value) (E : List ByteArray) (h1 : StrsP p w v1 E) (h2 : StrsP q w v2 E) :
    Calls Tryz.prog 13 #[v1, v2] w fun e w' => e = .returned (.bool true) ∧ Chg [] w w' := by
  obtain ⟨a1, cap1, rfl, hml, hcp1⟩ := h1.shape
  obtain ⟨a2, cap2, rfl, _, hcp2⟩ := h2.shape
  have H1 := Lib.hid h1
  have H2 := Lib.hid h2
  unfold maxLen at hml
  clear h1 h2
  go_enter Tryz.func13, Tryz.ntmps13
  go_wp2_with fail
  go_loopw [14] (fun i wr => ∃ k : Nat, k ≤ E.length ∧ i = .int .i64 (k : Nat) ∧ Chg [] w wr) (fun i _ => E.length - (intOf i).toNat)
  case atStart => exact ⟨0, by omega, rfl, Chg.refl _ _⟩
  case round =>
    obtain ⟨k, hk, rfl, hc⟩ := hrel
    by_cases hlt : k < E.length
    · obtain ⟨g, off, rfl, hp, c0⟩ := (H1.out.same hc).cell k hlt
      obtain ⟨g2, off2, rfl, hp2, d0⟩ := (H2.out.same hc).cell k hlt
      obtain ⟨x, hr⟩ : ∃ r, E.getD k ⟨#[]⟩ = r := ⟨_, rfl⟩
      rw [hr] at c0 d0
      have Hc := Lib.hid hc
      have hk1 : (k : Int) < E.length := by omega
      clear hr hc
      go_wp2_with fail
      exact ⟨⟨k + 1, by omega, by go_num, Hc.out⟩, by simp [intOf]; omega⟩
    · obtain rfl : k = E.length := by omega
      have hk1 : ¬ ((E.length : Int) < E.length) := by omega
      have Hc := Lib.hid hc
      clear hc
      go_wp2_with fail
      go_ret
      exact ⟨rfl, Hc.out⟩

/-! ### the example -/
def exT : ByteArray := ⟨#[98, 32, 97, 95, 49, 44, 32, 98]⟩
def exD : Dc := (⟨#[100]⟩, 0, exT)
theorem sortedW_ext {l m : List ByteArray} (hl : l.Pairwise fun a b => bl a < bl b) (hm : m.Pairwise fun a b => bl a < bl b) (h : ∀ x, x ∈ l ↔ x ∈ m) : l = m := by
  have nd : ∀ {l : List ByteArray}, (l.Pairwise fun a b => bl a < bl b) → l.Nodup := fun h => List.Pairwise.imp (fun {a b} (hab : bl a < bl b) => show a ≠ b from fun e => List.lt_irrefl (bl b) (by rw [e] at hab; exact hab)) h
  have hp : l.Perm m := (List.perm_ext_iff_of_nodup (nd hl) (nd hm)).2 h
  exact hp.eq_of_pairwise (le := fun a b => bl a < bl b) (fun a b _ _ h1 h2 => absurd (List.lt_trans h1 h2) (List.lt_irrefl _)) hl hm
theorem words_ex : words exT = [⟨#[97, 95, 49]⟩, ⟨#[98]⟩] := by
  rw [words_all exT (by decide)]
  refine sortedW_ext (wordsD_lt _) (by decide) fun x => ?_
  rw [wordsD_mem]
  have e : wordsR exT = [⟨#[98]⟩, ⟨#[97, 95, 49]⟩, ⟨#[98]⟩] := by
    unfold wordsR
    rw [show runsA [] (bl exT) = [[98], [97, 95, 49], [98]] by decide]
    rfl
  rw [e]
  simp only [List.mem_cons, List.not_mem_nil, or_false]
  constructor
  · rintro (h | h | h)
    · exact Or.inr h
    · exact Or.inl h
    · exact Or.inr h
  · rintro (h | h)
    · exact Or.inr (Or.inl h)
    · exact Or.inl h
theorem exOk : DcOk [exD] := ⟨by decide, fun d hd => by rw [List.mem_singleton.1 hd]; decide, by decide⟩
theorem strs2_at {w : World} {n : Nat} {x y : ByteArray} {T : TypeId} {fr : Nat × Nat} (h : w.heap[n]? = some (.cells #[.string x, .string y] T fr)) : StrsP (fun g => g = n) w (.slice (some ⟨n, 0, none⟩) 2 2) [x, y] := by
  refine ⟨some ⟨n, 0, none⟩, 2, rfl, Nat.le_refl _, by decide, fun _ => ⟨n, 0, rfl, rfl, fun j hj => ?_⟩⟩
  match j, hj with
  | 0, _ => exact cell_of_heap h rfl
  | 1, _ => exact cell_of_heap h rfl
theorem doc1_at {w : World} {n : Nat} {d : Dc} {T : TypeId} {fr : Nat × Nat} (h : w.heap[n]? = some (.cells #[.string d.1, .int .i64 d.2.1, .string d.2.2] T fr)) : DcP (fun g => g = n) w (.slice (some ⟨n, 0, none⟩) 1 1) [d] := by
  refine ⟨some ⟨n, 0, none⟩, 1, rfl, Nat.le_refl _, by decide, fun _ => ⟨n, 0, rfl, rfl, fun j hj => ?_⟩⟩
  match j, hj with
  | 0, _ => exact ⟨cell_of_heap h rfl, cell_of_heap h rfl, cell_of_heap h rfl⟩
set_option maxHeartbeats 4000000 in
theorem example_any (w : World) : Calls Tryz.prog 4 #[] w fun e w' => e = .returned (.bool true) ∧ Chg [] w w' := by
  obtain ⟨w1, hw1⟩ : ∃ q, q = w.alloc (.cells #[.string ⟨#[100]⟩, .int .i64 0, .string ⟨#[98, 32, 97, 95, 49, 44, 32, 98]⟩] 34) := ⟨_, rfl⟩
  obtain ⟨n1, hn1⟩ : ∃ q, q = w.heap.size := ⟨_, rfl⟩
  have hc1 : Chg [] w w1 := by rw [hw1]; exact (Chg.refl [] _).alloc _
  have hb1 : w1.heap[n1]? = some (.cells #[.string exD.1, .int .i64 exD.2.1, .string exD.2.2] 34 (0, 0)) := by rw [hw1, hn1]; exact heap_at _ _ _ rfl
  have Hbd := Lib.hid (build_any _ w1 _ [exD] (doc1_at hb1) exOk)
  have HW := Lib.hid (And.intro hw1 hn1)
  have Hc1 := Lib.hid hc1
  clear hw1 hn1 hc1 hb1
  go_enter Tryz.func4, Tryz.ntmps4
  go_upto_region 1 with (fail)
  go_wp2_with fail
  rw [← HW.out.1, ← HW.out.2]
  refine Hbd.out.mono ?_
  rintro e w2 ⟨u, I, rfl, hI, hx, hc2⟩
  have hIe : I = [entO exD] := List.perm_singleton.1 hI.perm
  subst hIe
  obtain ⟨a, c, rfl, _, _⟩ := hx.shape
  obtain ⟨g, off, rfl, hg, _, _, ua, uc, k2, hs⟩ := hx.cells 0 (by decide)
  have he : ([entO exD].getD 0 ie0).2.2 = [⟨#[97, 95, 49]⟩, ⟨#[98]⟩] := words_ex
  rw [he] at hs k2
  have k2' : w2.cell? ⟨g, off + 2, none⟩ = some (.slice ua 2 uc) := by simpa using k2
  have lg := lt_of_cell k2
  obtain ⟨w3, hw3⟩ : ∃ q, q = w2.alloc (.cells #[.string ⟨#[97, 95, 49]⟩, .string ⟨#[98]⟩] 9) := ⟨_, rfl⟩
  obtain ⟨n3, hn3⟩ : ∃ q, q = w2.heap.size := ⟨_, rfl⟩
  have hc3 : Chg [] w2 w3 := by rw [hw3]; exact (Chg.refl [] _).alloc _
  have hb3 : w3.heap[n3]? = some (.cells #[.string ⟨#[97, 95, 49]⟩, .string ⟨#[98]⟩] 9 (0, 0)) := by rw [hw3, hn3]; exact heap_at _ _ _ rfl
  have Heq := Lib.hid (eqStrs_any _ _ w3 _ _ _ (hs.same hc3) (strs2_at hb3))
  have HC := Lib.hid ((Hc1.out.trans hc2).trans hc3)
  have HW3 := Lib.hid (And.intro hw3 hn3)
  clear hw3 hn3 hc3 hb3 hs hx hI hc2 he
  go_wp2_with fail
  rw [← HW3.out.1, ← HW3.out.2]
  refine Heq.out.mono ?_
  rintro e w4 ⟨rfl, hc4⟩
  have H4 := Lib.hid (HC.out.trans hc4)
  clear hc4
  go_wp2_with fail
  go_ret
  exact ⟨rfl, H4.out⟩
end Go.Proofs.YticfigfipbcmhaaGreatDoor
