/- The helpers of the journal's laws: R.Equal at records, written, journalExample, Mod. -/
import Derived.Test.YtjijkfehieokbaaJouD
namespace Go.Proofs.Ytjijkfehieokbaa
open Go.RowKit
set_option maxHeartbeats 1000000 in
theorem journalExample_any (w : World) : Calls Try.prog 8 #[] w fun e w' => e = .returned (.bool true) ∧ Chg [] w w' := by
  have ha : appendL [] ⟨⟨#[107]⟩, ⟨#[118]⟩, false⟩ = (Rec.frame ⟨⟨#[107]⟩, ⟨#[118]⟩, false⟩, 0) := by
    unfold appendL
    rw [if_neg (by decide), if_neg (by simp [Rec.frame, frameL_length, Rec.pay_length]; decide)]
    rfl
  have hz : (bs (Rec.frame ⟨⟨#[107]⟩, ⟨#[118]⟩, false⟩)).size = 10 := by rw [bs_size]; rfl
  have hck : ck [97] = 3826002220 := by decide +kernel
  go_enter Try.func8, Try.ntmps8
  go_wp2_with fail
  refine (append_any ⟨#[]⟩ ⟨⟨#[107]⟩, ⟨#[118]⟩, false⟩ _ (by decide)).mono ?_
  rintro e w1 ⟨rfl, c1⟩
  rw [show (ByteArray.mk #[]).data.toList = [] from rfl, ha]
  go_wp2_with fail
  refine (checksum_any ⟨#[97]⟩ _ (by decide)).mono ?_
  rintro e w2 ⟨rfl, rfl⟩
  rw [show (ByteArray.mk #[97]).data.toList = [97] from rfl, hck]
  go_wp2
  go_ret
  exact ⟨rfl, c1⟩
/-- the reference's Mod -/
def modI (n m : Int) : Int := n.tmod m + (if n.tmod m < 0 then m else 0)
theorem modI_eq (n m : Int) (hm : 1 ≤ m) : modI n m = n % m := by
  unfold modI
  rw [Int.tmod_eq_emod]
  have h1 := Int.emod_nonneg n (by omega : m ≠ 0)
  have h2 := Int.emod_lt_of_pos n (by omega : 0 < m)
  split <;> split <;> omega
theorem modI_bd (n m : Int) (hm : 1 ≤ m) : 0 ≤ modI n m ∧ modI n m < m := by
  rw [modI_eq n m hm]
  exact ⟨Int.emod_nonneg n (by omega), Int.emod_lt_of_pos n (by omega)⟩
set_option maxHeartbeats 400000 in
theorem mod_any (n m : Int) (w : World) (hm : 1 ≤ m) (hm2 : m ≤ 9223372036854775807)  :
    Calls Try.prog 12 #[.int .i64 n, .int .i64 m] w fun e w' => e = .returned (.int .i64 (modI n m)) ∧ w = w' := by
  have h1 := Int.tmod_lt_of_pos n (by omega : 0 < m)
  have h2 : -m < n.tmod m := by
    rw [Int.tmod_eq_emod]
    have h1 := Int.emod_nonneg n (by omega : m ≠ 0)
    by_cases hc : 0 ≤ n ∨ m ∣ n
    · rw [if_pos hc]; omega
    · have h3 : n % m ≠ 0 := fun e => hc (Or.inr (Int.dvd_of_emod_eq_zero e))
      rw [if_neg hc]; omega
  go_enter Try.func12, Try.ntmps12
  go_wp2
  · go_ret
    rename_i hlt
    exact ⟨ret_int (by unfold modI; rw [if_pos hlt]), rfl⟩
  · go_ret
    rename_i hlt
    exact ⟨ret_int (by unfold modI; rw [if_neg (by omega)]; omega), rfl⟩
/-- a slice of records, read -/
def Recs (w : World) (v : Value) (rs : List Rec) : Prop :=
  (∃ a cap, v = .slice a 0 cap ∧ rs = []) ∨ ∃ g off cap, v = .slice (some ⟨g, off, none⟩) rs.length cap ∧ rs.length ≤ cap ∧ rs.length ≤ maxLen ∧
    ∀ i, i < rs.length → w.cell? ⟨g, off + i * 3, none⟩ = some (.string (rs.getD i Rec.zero).key) ∧ w.cell? ⟨g, off + i * 3 + 1, none⟩ = some (.string (rs.getD i Rec.zero).val) ∧ w.cell? ⟨g, off + i * 3 + 2, none⟩ = some (.bool (rs.getD i Rec.zero).del)
theorem recVals_get (rs : List Rec) : ∀ i, i < rs.length → (recVals rs)[i * 3]? = some (.string (rs.getD i Rec.zero).key) ∧ (recVals rs)[i * 3 + 1]? = some (.string (rs.getD i Rec.zero).val) ∧ (recVals rs)[i * 3 + 2]? = some (.bool (rs.getD i Rec.zero).del) := by
  induction rs with
  | nil => intro i hi; simp at hi
  | cons r rs ih =>
    intro i hi
    cases i with
    | zero => exact ⟨rfl, rfl, rfl⟩
    | succ i =>
      have := ih i (by simpa using hi)
      have e : (i + 1) * 3 = i * 3 + 3 := by omega
      simp only [recVals, List.flatMap_cons, e, List.getD_cons_succ] at this ⊢
      exact this
theorem OwnRecs.recs {w : World} {base : Nat} {v : Value} {rs : List Rec} (h : OwnRecs w base v rs) : Recs w v rs := by
  rcases h.2 with ⟨rfl, h0⟩ | ⟨g, cap, cur, rfl, _, hh, hnc, hcm, _, _⟩
  · exact Or.inl ⟨none, 0, rfl, List.eq_nil_of_length_eq_zero h0⟩
  · refine Or.inr ⟨g, 0, cap, rfl, hnc, by omega, fun i hi => ?_⟩
    have hc := fun {g : Nat} hg => World.ownsRow.cells h (g := g) hg
    obtain ⟨e0, e1, e2⟩ := recVals_get rs i hi
    have k0 := hc (g := g) rfl _ _ e0
    have k1 := hc (g := g) rfl _ _ e1
    have k2 := hc (g := g) rfl _ _ e2
    rw [Addr.add_lit] at k0 k1 k2
    simp only [Nat.zero_add, ← Nat.add_assoc] at k0 k1 k2 ⊢
    exact ⟨k0, k1, k2⟩
theorem Recs.same {w w' : World} {v : Value} {rs : List Rec} (h : Recs w v rs) (hc : Chg [] w w') : Recs w' v rs := by
  rcases h with h | ⟨g, off, cap, h1, h2, h3, h4⟩
  · exact Or.inl h
  · refine Or.inr ⟨g, off, cap, h1, h2, h3, fun i hi => ?_⟩
    obtain ⟨q0, q1, q2⟩ := h4 i hi
    have lg := lt_of_cell q0
    exact ⟨(hc.cell lg (by simp)).trans q0, (hc.cell (p := ⟨g, off + i * 3 + 1, none⟩) lg (by simp)).trans q1, (hc.cell (p := ⟨g, off + i * 3 + 2, none⟩) lg (by simp)).trans q2⟩
theorem Recs.take {w : World} {g off cap n : Nat} {rs : List Rec} (h : Recs w (.slice (some ⟨g, off, none⟩) rs.length cap) rs) (hn : n ≤ rs.length) (hn0 : 0 < n) : Recs w (.slice (some ⟨g, off, none⟩) n cap) (rs.take n) := by
  rcases h with ⟨a, cap', h1, h2⟩ | ⟨g', off', cap', h1, h2, h3, h4⟩
  · subst h2
    simp at hn
    omega
  · simp only [Value.slice.injEq, Option.some.injEq, Addr.mk.injEq, and_true, true_and] at h1
    obtain ⟨⟨rfl, rfl⟩, rfl⟩ := h1
    have hl : (rs.take n).length = n := by simp; omega
    refine Or.inr ⟨g, off, cap, by rw [hl], by omega, by omega, fun i hi => ?_⟩
    rw [hl] at hi
    have e : (rs.take n).getD i Rec.zero = rs.getD i Rec.zero := by simp [List.getD_eq_getElem?_getD, hi]
    rw [e]
    exact h4 i (by omega)
theorem rec_eq (k v : ByteArray) (d : Bool) (w : World) : (Op.equalIn 10000 31 (.agg #[.string k, .string v, .bool d]) (.agg #[.string k, .string v, .bool d])).run Try.prog w = .ok true w := by
  have ht : Try.prog.underlying 31 = some (.struct (Try.prog.fieldsOf 31)) := by kernel_rfl
  have hp : Try.prog.stoodInHeld 31 = false := by kernel_rfl
  have hs : Try.prog.underlying 9 = some .string := by kernel_rfl
  have hb : Try.prog.underlying 4 = some .bool := by kernel_rfl
  have e : (Try.prog.fieldsOf 31).toList = [(Try.prog.fieldsOf 31)[0]!, (Try.prog.fieldsOf 31)[1]!, (Try.prog.fieldsOf 31)[2]!] := by kernel_rfl
  obtain ⟨f0, e0⟩ : ∃ f, (Try.prog.fieldsOf 31)[0]! = f := ⟨_, rfl⟩
  have n0 : ((Try.prog.fieldsOf 31)[0]!.name == "_") = false := by kernel_rfl
  have t0 : (Try.prog.fieldsOf 31)[0]!.type = 9 := by kernel_rfl
  have o0 : (Try.prog.fieldsOf 31)[0]!.offset = 0 := by kernel_rfl
  obtain ⟨f1, e1⟩ : ∃ f, (Try.prog.fieldsOf 31)[1]! = f := ⟨_, rfl⟩
  have n1 : ((Try.prog.fieldsOf 31)[1]!.name == "_") = false := by kernel_rfl
  have t1 : (Try.prog.fieldsOf 31)[1]!.type = 9 := by kernel_rfl
  have o1 : (Try.prog.fieldsOf 31)[1]!.offset = 1 := by kernel_rfl
  obtain ⟨f2, e2⟩ : ∃ f, (Try.prog.fieldsOf 31)[2]! = f := ⟨_, rfl⟩
  have n2 : ((Try.prog.fieldsOf 31)[2]!.name == "_") = false := by kernel_rfl
  have t2 : (Try.prog.fieldsOf 31)[2]!.type = 4 := by kernel_rfl
  have o2 : (Try.prog.fieldsOf 31)[2]!.offset = 2 := by kernel_rfl
  rw [run_equalIn_agg (P := Try.prog) (w := w) 9999 31 _ _ ht hp, e]
  rw [e0] at n0 t0 o0 ⊢
  rw [e1] at n1 t1 o1 ⊢
  rw [e2] at n2 t2 o2 ⊢
  clear e e0 e1 e2 ht hp
  have hks : Try.prog.plainKey 9 = true := by kernel_rfl
  have hkb : Try.prog.plainKey 4 = true := by kernel_rfl
  have m0 : f0.name ≠ "_" := by simpa using n0
  have m1 : f1.name ≠ "_" := by simpa using n1
  have m2 : f2.name ≠ "_" := by simpa using n2
  have q0 := run_part_plain (P := Try.prog) w hks (xs := #[.string k, .string v, .bool d]) (off := 0) (v := .string k) rfl
  have q1 := run_part_plain (P := Try.prog) w hks (xs := #[.string k, .string v, .bool d]) (off := 1) (v := .string v) rfl
  have q2 := run_part_plain (P := Try.prog) w hkb (xs := #[.string k, .string v, .bool d]) (off := 2) (v := .bool d) rfl
  have w1 := fun a => run_equalIn_string (P := Try.prog) w 9998 9 a a hs
  have w2 := run_equalIn_bool' (P := Try.prog) w 9998 4 d d hb
  simp only [Op.eqFields, m0, m1, m2, t0, t1, t2, o0, o1, o2, ne_eq, not_false_eq_true, if_true, Sem.run_bind, q0, q1, q2, w1, w2, Result.andThen_ok, BEq.rfl, Bool.not_true, Bool.false_eq_true, if_false, Sem.run_pure]
theorem rec_neq (k v : ByteArray) (d : Bool) (w : World) : (binOp .neq 31 (.agg #[.string k, .string v, .bool d]) (.agg #[.string k, .string v, .bool d])).run Try.prog w = .ok (.bool false) w := by
  rw [run_neq_struct, rec_eq]
  rfl
theorem recsEqual_zero (w : World) (a1 a2 : Option Addr) (c1 c2 : Nat) :
    Calls Try.prog 11 #[.slice a1 0 c1, .slice a2 0 c2] w fun e w' => e = .returned (.bool true) ∧ Chg [] w w' := by
  go_enter Try.func11, Try.ntmps11
  go_wp2
  go_loop [14] (fun i => i = .int .i64 0) (fun _ => 0)
  case atStart => rfl
  case round =>
    obtain rfl := hrel
    go_wp2
    go_ret
    exact ⟨rfl, Chg.refl _ _⟩
set_option maxRecDepth 100000 in
set_option maxHeartbeats 1000000 in
theorem recsEqual_some (w : World) (g1 o1 k1 g2 o2 k2 : Nat) (rs : List Rec) (hm : rs.length ≤ maxLen) 
   (h1 : ∀ i, i < rs.length → w.cell? ⟨g1, o1 + i * 3, none⟩ = some (.string (rs.getD i Rec.zero).key) ∧ w.cell? ⟨g1, o1 + i * 3 + 1, none⟩ = some (.string (rs.getD i Rec.zero).val) ∧ w.cell? ⟨g1, o1 + i * 3 + 2, none⟩ = some (.bool (rs.getD i Rec.zero).del))
   (h2 : ∀ i, i < rs.length → w.cell? ⟨g2, o2 + i * 3, none⟩ = some (.string (rs.getD i Rec.zero).key) ∧ w.cell? ⟨g2, o2 + i * 3 + 1, none⟩ = some (.string (rs.getD i Rec.zero).val) ∧ w.cell? ⟨g2, o2 + i * 3 + 2, none⟩ = some (.bool (rs.getD i Rec.zero).del)) :
    Calls Try.prog 11 #[.slice (some ⟨g1, o1, none⟩) rs.length k1, .slice (some ⟨g2, o2, none⟩) rs.length k2] w fun e w' => e = .returned (.bool true) ∧ Chg [] w w' := by
  unfold maxLen at hm
  have hg : Try.prog.eqGuardType Try.prog.depth 31 = false := by kernel_rfl
  have H1 := Lib.hid h1
  have H2 := Lib.hid h2
  clear h1 h2
  go_enter Try.func11, Try.ntmps11
  go_wp2
  go_loopw [14] (fun i wr => ∃ k : Nat, k ≤ rs.length ∧ i = .int .i64 (k : Nat) ∧ Chg [] w wr) (fun i _ => rs.length - (intOf i).toNat)
  case atStart => exact ⟨0, by omega, rfl, Chg.refl _ _⟩
  case round =>
    obtain ⟨k, hk, rfl, hcw⟩ := hrel
    by_cases hlt : k < rs.length
    · obtain ⟨q0, q1, q2⟩ := H1.out k hlt
      obtain ⟨p0, p1, p2⟩ := H2.out k hlt
      have lg := lt_of_cell q0
      have lp := lt_of_cell p0
      replace q0 := (hcw.cell lg (by simp)).trans q0
      replace q1 := (hcw.cell (p := ⟨g1, o1 + k * 3 + 1, none⟩) lg (by simp)).trans q1
      replace q2 := (hcw.cell (p := ⟨g1, o1 + k * 3 + 2, none⟩) lg (by simp)).trans q2
      replace p0 := (hcw.cell lp (by simp)).trans p0
      replace p1 := (hcw.cell (p := ⟨g2, o2 + k * 3 + 1, none⟩) lp (by simp)).trans p1
      replace p2 := (hcw.cell (p := ⟨g2, o2 + k * 3 + 2, none⟩) lp (by simp)).trans p2
      generalize (rs.getD k Rec.zero).key = key at q0 p0
      generalize (rs.getD k Rec.zero).val = val at q1 p1
      generalize (rs.getD k Rec.zero).del = del at q2 p2
      have lp' := lt_of_cell p0
      have hk0 : (0 : Int) ≤ k := by omega
      have hk1 : (k : Int) < rs.length := by omega
      have hq1 := rec_eq key val del
      have hq2 := rec_neq key val del
      go_wp2
      go_region
      go_wp2
      exact ⟨⟨k+1, by omega, by go_num, (hcw.alloc _).drew⟩, by simp [intOf]; omega⟩
    · go_wp2
      go_ret
      exact ⟨rfl, hcw⟩
theorem recsEqual_any (w : World) (v1 v2 : Value) (rs : List Rec) (h1 : Recs w v1 rs) (h2 : Recs w v2 rs) :
    Calls Try.prog 11 #[v1, v2] w fun e w' => e = .returned (.bool true) ∧ Chg [] w w' := by
  rcases h1 with ⟨a1, c1, rfl, rfl⟩ | ⟨g1, o1, c1, rfl, l1, m1, q1⟩
  · rcases h2 with ⟨a2, c2, rfl, _⟩ | ⟨g2, o2, c2, rfl, l2, m2, q2⟩
    · exact recsEqual_zero w _ _ _ _
    · exact recsEqual_zero w _ _ _ _
  · rcases h2 with ⟨a2, c2, rfl, rfl⟩ | ⟨g2, o2, c2, rfl, l2, m2, q2⟩
    · exact recsEqual_zero w _ _ _ _
    · exact recsEqual_some w g1 o1 c1 g2 o2 c2 rs m1 q1 q2
end Go.Proofs.Ytjijkfehieokbaa
