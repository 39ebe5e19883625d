/- JournalTornWrite: the plain law and the walk. -/
import Derived.Test.YticfigfipbcmhaaGreatDoorWjE
namespace Go.Proofs.YticfigfipbcmhaaGreatDoor.J
open Go.RowKit
set_option linter.unusedVariables false
theorem logOf_snoc (rs : List Rec) (r : Rec) : logOf (rs ++ [r]) = logOf rs ++ r.frame := by simp [logOf]
theorem torn_next {r : Rec} (h : r.ok) (c : Nat) (hc : c < r.frame.length) : nextL (r.frame.take c) = (Rec.zero, 0, 0) := by
  obtain ⟨hk, hv⟩ := Rec.ok_key h
  have hp := r.pay_length
  have hl : r.frame.length = r.pay.length + 6 := frameL_length _
  have ht : (r.frame.take c).length = c := by rw [List.length_take]; omega
  unfold nextL
  rw [ht]
  by_cases h6 : c < 6
  · rw [if_pos h6]
  · rw [if_neg h6]
    have e : 6 + ((r.frame.take c).getD 0 0).toNat * 256 + ((r.frame.take c).getD 1 0).toNat = r.pay.length + 6 := by
      have := frame_head r.pay [] (by omega)
      rw [List.append_nil] at this
      rw [← this]
      have k : ∀ i, i < c → (r.frame.take c).getD i 0 = (frameL r.pay).getD i 0 := fun i hi => by
        simp [List.getD_eq_getElem?_getD, hi, Rec.frame]
      rw [k 0 (by omega), k 1 (by omega)]
    simp only [e]
    rw [if_pos (by omega)]
theorem torn (rs : List Rec) : ∀ (c : Nat), (∀ r ∈ rs, r.ok) → c ≤ (logOf rs).length →
    ∃ m, m ≤ rs.length ∧ scanL ((logOf rs).take c) = (rs.take m, (logOf (rs.take m)).length, 0) ∧ (logOf (rs.take m)).length ≤ c ∧ (m = rs.length → c = (logOf rs).length) ∧ (m < rs.length → c < (logOf (rs.take (m + 1))).length) := by
  induction rs with
  | nil => intro c _ hc; simp [logOf] at hc; subst hc; exact ⟨0, by simp, rfl, by simp [logOf], fun _ => rfl, fun h => absurd h (by simp)⟩
  | cons r rs ih =>
    intro c h hc
    have hr := h r (by simp)
    have hl : r.frame.length = r.pay.length + 6 := frameL_length _
    have e : logOf (r :: rs) = r.frame ++ logOf rs := by simp [logOf]
    rw [e, List.length_append] at hc
    by_cases hlt : c < r.frame.length
    · refine ⟨0, by simp, ?_, by simp [logOf], by simp, fun _ => by simpa [logOf] using hlt⟩
      rw [e, List.take_append_of_le_length (by omega), scanL_step, torn_next hr c hlt]
      simp [logOf]
    · obtain ⟨d, rfl⟩ : ∃ d, c = r.frame.length + d := ⟨c - r.frame.length, by omega⟩
      obtain ⟨m, h1, h2, h3, h4, h5⟩ := ih d (fun x hx => h x (by simp [hx])) (by omega)
      have em : ∀ j, logOf ((r :: rs).take (j + 1)) = r.frame ++ logOf (rs.take j) := fun j => by simp [logOf]
      refine ⟨m + 1, by simpa using h1, ?_, ?_, ?_, ?_⟩
      · rw [em, e, List.take_length_add_append, scanL_step, frame_next hr]
        simp only
        rw [if_neg (by omega), List.drop_left, h2]
        simp
      · rw [em, List.length_append]; omega
      · intro he
        rw [e, List.length_append, h4 (by simpa using he)]
      · intro he
        rw [em, List.length_append]
        have := h5 (by simpa using he)
        omega
theorem logOf_take (rs : List Rec) (j : Nat) : logOf rs = logOf (rs.take j) ++ logOf (rs.drop j) := by
  unfold logOf
  rw [← List.flatten_append, ← List.map_append, List.take_append_drop]
theorem log_prefix (rs : List Rec) (j : Nat) : (bs (logOf rs)).extract 0 (logOf (rs.take j)).length = bs (logOf (rs.take j)) := by
  apply eq_bs
  rw [Lib.extract_data, bs_data]
  conv => lhs; rw [logOf_take rs j]
  simp
theorem append_next {rs : List Rec} {m : Nat} (hok : ∀ r ∈ rs, r.ok) (hm : m < rs.length) (hl : (logOf rs).length ≤ 40000) : appendL (logOf (rs.take m)) (rs.getD m Rec.zero) = (logOf (rs.take (m + 1)), 0) := by
  have e0 : rs.getD m Rec.zero = rs[m] := by simp [hm]
  have hr : (rs[m]).ok := hok _ (List.getElem_mem hm)
  have e1 : logOf (rs.take (m + 1)) = logOf (rs.take m) ++ rs[m].frame := by rw [List.take_succ_eq_append_getElem hm, logOf_snoc]
  have e2 : (logOf (rs.take (m + 1))).length ≤ 40000 := by
    have := congrArg List.length (logOf_take rs (m + 1))
    rw [List.length_append] at this
    omega
  rw [e0]
  unfold appendL
  rw [if_neg (by simpa [Rec.ok] using hr), e1, if_neg (by rw [e1, List.length_append] at e2; omega)]
theorem own_slice {w : World} {base : Nat} {v : Value} {rs : List Rec} (h : OwnRecs w base v rs) (m : Nat) (hm : m ≤ rs.length) :
    ∃ v', (∀ w' : World, (Instr.slice 55 v none (some (.int .i64 (m : Int))) none).run Tryz.prog w' = .ok v' w') ∧ Recs w v' (rs.take m) := by
  rcases h.2 with ⟨rfl, h0⟩ | ⟨g, cap, cur, rfl, _, hh, hnc, hcm, _, _⟩
  · obtain rfl : m = 0 := by omega
    exact ⟨.slice none 0 0, fun w' => by simp [go_sem], Or.inl ⟨none, 0, rfl, by simp⟩⟩
  · refine ⟨.slice (some ⟨g, 0, none⟩) m cap, fun w' => ?_, ?_⟩
    · have h1 : (m : Int) ≤ cap := by omega
      simp [go_sem, h1]
    · by_cases h0 : m = 0
      · subst h0
        exact Or.inl ⟨_, _, rfl, by simp⟩
      · exact h.recs.take hm (by omega)
theorem OwnRecs.shape {w : World} {base : Nat} {v : Value} {rs : List Rec} (h : OwnRecs w base v rs) : ∃ a cap, v = .slice a rs.length cap ∧ (0 < rs.length → ∃ g, a = some ⟨g, 0, none⟩) := by
  rcases h.2 with ⟨rfl, h0⟩ | ⟨g, cap, cur, rfl, _, hh, hnc, hcm, _, _⟩
  · exact ⟨none, 0, by rw [h0], fun h => absurd h (by omega)⟩
  · exact ⟨_, cap, rfl, fun _ => ⟨g, rfl⟩⟩
theorem Recs.at {w : World} {g n cap : Nat} {rs : List Rec} (h : Recs w (.slice (some ⟨g, 0, none⟩) n cap) rs) (i : Nat) (hi : i < rs.length) :
    w.cell? ⟨g, 0 + i * 3, none⟩ = some (.string (rs.getD i Rec.zero).key) ∧ w.cell? ⟨g, 0 + i * 3 + 1, none⟩ = some (.string (rs.getD i Rec.zero).val) ∧ w.cell? ⟨g, 0 + i * 3 + 2, none⟩ = some (.bool (rs.getD i Rec.zero).del) := by
  rcases h with ⟨a, c, _, h2⟩ | ⟨g', off', cap', h1, _, _, h4⟩
  · subst h2; simp at hi
  · simp only [Value.slice.injEq, Option.some.injEq, Addr.mk.injEq, and_true] at h1
    obtain ⟨⟨rfl, rfl⟩, _, rfl⟩ := h1
    exact h4 i hi
end Go.Proofs.YticfigfipbcmhaaGreatDoor.J
