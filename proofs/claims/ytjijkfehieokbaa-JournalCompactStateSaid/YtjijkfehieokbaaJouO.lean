/- R.Index, R.Contains, R.Clone at records. -/
import Derived.Test.YtjijkfehieokbaaJouN
namespace Go.Proofs.Ytjijkfehieokbaa
open Go.RowKit Go.ChangeMaps Go.MapKept
set_option linter.unusedVariables false
set_option linter.unusedSimpArgs false
instance : DecidableEq Rec := fun a b => by
  obtain ⟨k, v, d⟩ := a
  obtain ⟨k', v', d'⟩ := b
  exact if h : k = k' ∧ v = v' ∧ d = d' then isTrue (by rw [h.1, h.2.1, h.2.2]) else isFalse fun e => h (by simpa using e)
theorem rec_eqG (a b : Rec) (w : World) : (Op.equalIn 10000 31 (.agg #[.string a.key, .string a.val, .bool a.del]) (.agg #[.string b.key, .string b.val, .bool b.del])).run Try.prog w = .ok (decide (a = b)) w := by
  obtain ⟨k, v, d⟩ := a
  obtain ⟨k', v', d'⟩ := b
  have ht : Try.prog.underlying 31 = some (.struct (Try.prog.fieldsOf 31)) := by kernel_rfl
  have hp : Try.prog.stoodInHeld 31 = false := by kernel_rfl
  have hs : Try.prog.underlying 9 = some .string := by kernel_rfl
  have hb : Try.prog.underlying 4 = some .bool := by kernel_rfl
  have e : (Try.prog.fieldsOf 31).toList = [(Try.prog.fieldsOf 31)[0]!, (Try.prog.fieldsOf 31)[1]!, (Try.prog.fieldsOf 31)[2]!] := by kernel_rfl
  obtain ⟨f0, e0⟩ : ∃ f, (Try.prog.fieldsOf 31)[0]! = f := ⟨_, rfl⟩
  have n0 : ((Try.prog.fieldsOf 31)[0]!.name == "_") = false := by kernel_rfl
  have t0 : (Try.prog.fieldsOf 31)[0]!.type = 9 := by kernel_rfl
  have o0 : (Try.prog.fieldsOf 31)[0]!.offset = 0 := by kernel_rfl
  obtain ⟨f1, e1⟩ : ∃ f, (Try.prog.fieldsOf 31)[1]! = f := ⟨_, rfl⟩
  have n1 : ((Try.prog.fieldsOf 31)[1]!.name == "_") = false := by kernel_rfl
  have t1 : (Try.prog.fieldsOf 31)[1]!.type = 9 := by kernel_rfl
  have o1 : (Try.prog.fieldsOf 31)[1]!.offset = 1 := by kernel_rfl
  obtain ⟨f2, e2⟩ : ∃ f, (Try.prog.fieldsOf 31)[2]! = f := ⟨_, rfl⟩
  have n2 : ((Try.prog.fieldsOf 31)[2]!.name == "_") = false := by kernel_rfl
  have t2 : (Try.prog.fieldsOf 31)[2]!.type = 4 := by kernel_rfl
  have o2 : (Try.prog.fieldsOf 31)[2]!.offset = 2 := by kernel_rfl
  rw [run_equalIn_agg (P := Try.prog) (w := w) 9999 31 _ _ ht hp, e]
  rw [e0] at n0 t0 o0 ⊢
  rw [e1] at n1 t1 o1 ⊢
  rw [e2] at n2 t2 o2 ⊢
  clear e e0 e1 e2 ht hp
  have hks : Try.prog.plainKey 9 = true := by kernel_rfl
  have hkb : Try.prog.plainKey 4 = true := by kernel_rfl
  have m0 : f0.name ≠ "_" := by simpa using n0
  have m1 : f1.name ≠ "_" := by simpa using n1
  have m2 : f2.name ≠ "_" := by simpa using n2
  have q0 := fun (k v : ByteArray) (d : Bool) => run_part_plain (P := Try.prog) w hks (xs := #[.string k, .string v, .bool d]) (off := 0) (v := .string k) rfl
  have q1 := fun (k v : ByteArray) (d : Bool) => run_part_plain (P := Try.prog) w hks (xs := #[.string k, .string v, .bool d]) (off := 1) (v := .string v) rfl
  have q2 := fun (k v : ByteArray) (d : Bool) => run_part_plain (P := Try.prog) w hkb (xs := #[.string k, .string v, .bool d]) (off := 2) (v := .bool d) rfl
  have hbs : ∀ a b : ByteArray, (a.toList == b.toList) = decide (a = b) := fun a b => by
    rw [ByteArray.toList_eq, ByteArray.toList_eq, Bool.eq_iff_iff, beq_iff_eq, decide_eq_true_eq]
    exact key_eq.symm
  have w1 : ∀ a b : ByteArray, (Op.equalIn (9998 + 1) 9 (.string a) (.string b)).run Try.prog w = .ok (decide (a = b)) w := fun a b => by rw [← hbs]; exact run_equalIn_string (P := Try.prog) w 9998 9 a b hs
  have w2 := run_equalIn_bool' (P := Try.prog) w 9998 4 d d' hb
  by_cases h0 : k = k'
  · by_cases h1 : v = v'
    · by_cases h2 : d = d'
      · subst h2
        simp [Op.eqFields, m0, m1, m2, t0, t1, t2, o0, o1, o2, Sem.run_bind, q0, q1, q2, w1, w2, Result.andThen_ok, h0, h1]
      · simp [Op.eqFields, m0, m1, m2, t0, t1, t2, o0, o1, o2, Sem.run_bind, q0, q1, q2, w1, w2, Result.andThen_ok, h0, h1, h2]
    · simp [Op.eqFields, m0, m1, m2, t0, t1, t2, o0, o1, o2, Sem.run_bind, q0, q1, q2, w1, w2, Result.andThen_ok, h0, h1]
  · simp [Op.eqFields, m0, m1, m2, t0, t1, t2, o0, o1, o2, Sem.run_bind, q0, q1, q2, w1, w2, Result.andThen_ok, h0]
theorem rec_eql (a b : Rec) (w : World) : (binOp .eql 31 (.agg #[.string a.key, .string a.val, .bool a.del]) (.agg #[.string b.key, .string b.val, .bool b.del])).run Try.prog w = .ok (.bool (decide (a = b))) w := by
  rw [run_eql_struct, rec_eqG]
  rfl
def ixR (x : Rec) : List Rec → Int
  | [] => -1
  | y :: l => if x = y then 0 else if ixR x l < 0 then -1 else ixR x l + 1
theorem ixR_mem (x : Rec) (l : List Rec) : decide (0 ≤ ixR x l) = decide (x ∈ l) ∧ -1 ≤ ixR x l := by
  induction l with
  | nil => simp [ixR]
  | cons y l ih =>
    obtain ⟨h1, h2⟩ := ih
    unfold ixR
    by_cases e : x = y
    · simp [e]
    · rw [if_neg e]
      have h3 : (0 ≤ ixR x l) ↔ x ∈ l := by simpa using h1
      split
      · rename_i hlt
        have : ¬ x ∈ l := fun hm => by have := h3.2 hm; omega
        exact ⟨by simp [e, this], by omega⟩
      · rename_i hlt
        have : x ∈ l := h3.1 (by omega)
        exact ⟨by simp [this]; omega, by omega⟩
set_option maxRecDepth 100000 in
set_option maxHeartbeats 2000000 in
/-- Index: some place of x, or -1 -/
theorem recIndex_any (w : World) (v : Value) (rs : List Rec) (x : Rec) (h : Recs w v rs) :
    Calls Try.prog 27 #[v, .agg #[.string x.key, .string x.val, .bool x.del]] w fun e w' => ∃ n : Int, e = .returned (.int .i64 n) ∧ -1 ≤ n ∧ (0 ≤ n ↔ x ∈ rs) ∧ Chg [] w w' := by
  obtain ⟨a, cap, rfl, hml, hcells⟩ := h.shape
  have Hcells := Lib.hid hcells
  obtain ⟨wa, hwa⟩ : ∃ z, z = w.alloc (.cells #[.string x.key, .string x.val, .bool x.del] 31) := ⟨_, rfl⟩
  have hca : Chg [] w wa := by rw [hwa]; exact (Chg.refl [] w).alloc _
  have hba : wa.heap[w.heap.size]? = some (.cells #[.string x.key, .string x.val, .bool x.del] 31 (0, 0)) := by rw [hwa]; exact heap_at _ _ _ rfl
  have Hca := Lib.hid hca
  have Hba := Lib.hid hba
  unfold maxLen at hml
  clear h hcells hca hba
  go_enter Try.func27, Try.ntmps27
  go_wp2_with fail
  rw [← hwa]
  clear hwa
  go_loopw [9] (fun jj wr => ∃ k : Nat, k ≤ rs.length ∧ jj = .int .i64 (k : Nat) ∧ (∀ y ∈ rs.take k, x ≠ y) ∧ Chg [] wa wr) (fun jj _ => rs.length - (intOf jj).toNat)
  case atStart => exact ⟨0, by omega, rfl, by simp, Chg.refl _ _⟩
  case round =>
    obtain ⟨k, hk, rfl, hno, hc⟩ := hrel
    have Hno := Lib.hid hno
    have Hc := Lib.hid hc
    by_cases hlt : k < rs.length
    · have hk1 : (k : Int) < rs.length := by omega
      obtain ⟨g, off, rfl, c0, c1, c2⟩ := Hcells.out k hlt
      obtain ⟨r, hr⟩ : ∃ r, rs.getD k Rec.zero = r := ⟨_, rfl⟩
      rw [hr] at c0 c1 c2
      have lg := lt_of_cell c0
      have hcw := Hca.out.trans hc
      have q0 := (hcw.cell (p := ⟨g, off + k * 3, none⟩) lg (by simp)).trans c0
      have q1 := (hcw.cell (p := ⟨g, off + k * 3 + 1, none⟩) lg (by simp)).trans c1
      have q2 := (hcw.cell (p := ⟨g, off + k * 3 + 2, none⟩) lg (by simp)).trans c2
      have lq := lt_of_cell q0
      have hb := (hc.block _ (lt_of_obj Hba.out) (by simp)).trans Hba.out
      have x0 : wr.cell? ⟨w.heap.size, 0, none⟩ = some (.string x.key) := cell_of_heap hb rfl
      have x1 : wr.cell? ⟨w.heap.size, 1, none⟩ = some (.string x.val) := cell_of_heap hb rfl
      have x2 : wr.cell? ⟨w.heap.size, 2, none⟩ = some (.bool x.del) := cell_of_heap hb rfl
      have lx := lt_of_cell x0
      have htk : rs.take (k + 1) = rs.take k ++ [r] := by rw [List.take_succ_eq_append_getElem hlt, ← hr, List.getD_eq_getElem?_getD, List.getElem?_eq_getElem hlt]; rfl
      have hrm : r ∈ rs := by rw [← hr, List.getD_eq_getElem?_getD, List.getElem?_eq_getElem hlt]; simp
      have heq := rec_eql x r
      have Htk := Lib.hid htk
      have Hrm := Lib.hid hrm
      clear hno hc c0 c1 c2 lg hcw hb htk hrm hr
      by_cases he : x = r
      · rw [decide_eq_true he] at heq
        have He := Lib.hid he
        clear he
        go_wp2_with fail
        go_ret
        refine ⟨(k : Int), rfl, by omega, ⟨fun _ => by rw [He.out]; exact Hrm.out, fun _ => by omega⟩, (Hca.out.trans Hc.out).alloc _⟩
      · rw [decide_eq_false he] at heq
        have He := Lib.hid he
        clear he
        go_wp2_with fail
        go_roundw
        case rel =>
          refine ⟨k + 1, by omega, by go_num, fun y hy => ?_, Hc.out.alloc _⟩
          rw [Htk.out] at hy
          rcases List.mem_append.1 hy with hy | hy
          · exact Hno.out y hy
          · rw [List.mem_singleton.1 hy]; exact He.out
        case measure => simp [intOf]; omega
    · obtain rfl : k = rs.length := by omega
      have hk1 : ¬ ((rs.length : Int) < rs.length) := by omega
      clear hno hc
      go_wp2_with fail
      go_ret
      refine ⟨-1, rfl, by omega, ⟨fun h => by omega, fun hm => ?_⟩, Hca.out.trans Hc.out⟩
      have := Hno.out x (by rw [List.take_length]; exact hm)
      exact (this rfl).elim
theorem recContains_any (w : World) (v : Value) (rs : List Rec) (x : Rec) (h : Recs w v rs) :
    Calls Try.prog 17 #[v, .agg #[.string x.key, .string x.val, .bool x.del]] w fun e w' => e = .returned (.bool (decide (x ∈ rs))) ∧ Chg [] w w' := by
  obtain ⟨wa, hwa⟩ : ∃ z, z = w.alloc (.cells #[.string x.key, .string x.val, .bool x.del] 31) := ⟨_, rfl⟩
  have hca : Chg [] w wa := by rw [hwa]; exact (Chg.refl [] w).alloc _
  obtain ⟨a, cap, rfl, hml, hcells⟩ := h.shape
  have H := Lib.hid (h.same hca)
  have Hca := Lib.hid hca
  clear h hca hcells
  go_enter Try.func17, Try.ntmps17
  go_wp2_with fail
  rw [← hwa]
  clear hwa
  refine (recIndex_any _ _ rs x H.out).mono ?_
  rintro e w1 ⟨n, rfl, h1, h2, c1⟩
  have hd : decide (0 ≤ n) = decide (x ∈ rs) := decide_eq_decide.2 h2
  have Hc1 := Lib.hid c1
  have Hd := Lib.hid hd
  clear h1 h2 hd c1
  go_wp2_with fail
  go_ret
  exact ⟨by rw [← Hd.out]; rfl, Hca.out.trans Hc1.out⟩
end Go.Proofs.Ytjijkfehieokbaa
