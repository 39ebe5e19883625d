/- The contract of the journal's next. -/
import Derived.Test.YticfigfipbcmhaaGreatDoorWjB
namespace Go.Proofs.YticfigfipbcmhaaGreatDoor.J
open Go.RowKit
theorem next_eq (s : ByteArray) (h0 : 0 < s.size) (h1 : 1 < s.size) (h6 : ¬ s.size < 6) : nextL s.data.toList =
    (if s.size < 6 + s[0].toNat * 256 + s[1].toNat then (Rec.zero, 0, 0) else
    if frameL (s.extract 6 (6 + s[0].toNat * 256 + s[1].toNat)).data.toList ≠ (s.extract 0 (6 + s[0].toNat * 256 + s[1].toNat)).data.toList then (Rec.zero, 0, 13) else
    match parseL (s.extract 6 (6 + s[0].toNat * 256 + s[1].toNat)).data.toList with
    | some r => (r, 6 + s[0].toNat * 256 + s[1].toNat, 0)
    | none => (Rec.zero, 0, 3) : Rec × Nat × Int) := by
  have hsl : s.data.toList.length = s.size := Array.length_toList
  have e0 : s.data.toList.getD 0 0 = s[0] := by simp [List.getD_eq_getElem?_getD, List.getElem?_eq_getElem (show 0 < s.data.toList.length by omega)]; rfl
  have e1 : s.data.toList.getD 1 0 = s[1] := by simp [List.getD_eq_getElem?_getD, List.getElem?_eq_getElem (show 1 < s.data.toList.length by omega)]; rfl
  unfold nextL
  rw [if_neg (by omega), e0, e1]
  simp only [hsl]
  have e2 : ∀ z, (s.data.toList.take z).drop 6 = (s.extract 6 z).data.toList := fun z => by rw [Lib.extract_data, List.drop_take]
  have e3 : ∀ z, s.data.toList.take z = (s.extract 0 z).data.toList := fun z => by rw [Lib.extract_data]; simp
  rw [e2, e3]
  rfl
def NextPost (s : ByteArray) (w : World) (e : Ending) (w' : World) : Prop :=
  Chg [] w w' ∧ e = .returned (.tuple #[.agg (nextL s.data.toList).1.vals, .int .i64 (nextL s.data.toList).2.1, .int .i64 (nextL s.data.toList).2.2])
theorem set3 {w : World} {n : Nat} {x0 x1 x2 : Value} {T : TypeId} (h : w.heap[n]? = some (.cells #[x0, x1, x2] T (0, 0))) (a b c : Value) :
    (((w.setCell ⟨n, 0, none⟩ a).setCell ⟨n, 1, none⟩ b).setCell ⟨n, 2, none⟩ c).heap[n]? = some (.cells #[a, b, c] T (0, 0)) := by
  rw [heap_setCell_same (heap_setCell_same (heap_setCell_same h a) b) c]
  rfl
/-- the end of next -/
theorem next_ret {s : ByteArray} {w W : World} {n : Nat} {r : Rec} {z e : Int} {tmps : Array Value} (hb : W.heap[n]? = some (.cells r.vals 54 (0, 0))) (h2 : tmps[2]? = some (.pointer (some ⟨n, 0, none⟩))) (h3 : tmps[3]? = some (.int .i64 z)) (h4 : tmps[4]? = some (.int .i64 e))
    (hQ : NextPost s w (.returned (.tuple #[.agg r.vals, .int .i64 z, .int .i64 e])) W) : bodyPost Tryz.prog Tryz.f62 (NextPost s w) Exit.ret { tmps := tmps, defers := [] } W := by
  have c0 := cell_of_heap hb (i := 0) rfl
  have c1 := cell_of_heap hb (i := 1) rfl
  have c2 := cell_of_heap hb (i := 2) rfl
  refine bodyPost_ret (v := .tuple #[.agg r.vals, .int .i64 z, .int .i64 e]) ?_ rfl hQ
  simp [results, Tryz.results62, go_sem, c0, c1, c2, h2, h3, h4, Rec.vals]
set_option maxRecDepth 100000 in
theorem next_short (s : ByteArray) (w : World) (h6 : s.size < 6) : Calls Tryz.prog 62 #[.string s] w (NextPost s w) := by
  have hsl : s.data.toList.length = s.size := Array.length_toList
  have hp : nextL s.data.toList = (Rec.zero, 0, 0) := by unfold nextL; rw [if_pos (by omega)]
  have Hp := Lib.hid hp
  clear hp hsl
  go_enter Tryz.func62, Tryz.ntmps62
  go_wp2
  exact next_ret (r := Rec.zero) (n := w.heap.size) (heap_at _ _ _ rfl) rfl rfl rfl ⟨(Chg.refl [] w).alloc _, by rw [Hp.out]; rfl⟩
set_option maxRecDepth 100000 in
set_option maxHeartbeats 1000000 in
theorem next_torn (s : ByteArray) (w : World) (hs : s.size ≤ 100000) (h0 : 0 < s.size) (h1 : 1 < s.size) (h6' : (6 : Int) ≤ (s.size : Int)) (a n : Nat) (ha : s[0].toNat = a) (hn : s[1].toNat = n) (ha6 : a < 256) (hn6 : n < 256) (h5 : (s.size : Int) < 6 + (a : Int) * 256 + (n : Int)) (Hp : Hid (nextL s.data.toList = (Rec.zero, 0, 0))) :
    Calls Tryz.prog 62 #[.string s] w (NextPost s w) := by
  go_enter Tryz.func62, Tryz.ntmps62
  go_wp2
  go_quiet (fail)
  go_wp2
  exact next_ret (r := Rec.zero) (n := w.heap.size) (set3 (heap_at _ _ _ rfl) _ _ _) rfl rfl rfl ⟨(((((Chg.refl [] w).alloc _).drewN _).setCell (Or.inr (by simp)) _).setCell (Or.inr (by simp)) _).setCell (Or.inr (by simp)) _, by rw [Hp.out]; rfl⟩
set_option maxRecDepth 100000 in
set_option maxHeartbeats 2000000 in
theorem next_bad (s : ByteArray) (w : World) (hs : s.size ≤ 100000) (h0 : 0 < s.size) (h1 : 1 < s.size) (h6' : (6 : Int) ≤ (s.size : Int)) (a n : Nat) (ha : s[0].toNat = a) (hn : s[1].toNat = n) (ha6 : a < 256) (hn6 : n < 256) (h5 : 6 + (a : Int) * 256 + (n : Int) ≤ (s.size : Int)) (z : Nat) (hz : 6 + a * 256 + n = z) (hz' : 6 + (a : Int) * 256 + (n : Int) = (z : Int)) (hzs : z ≤ s.size) (hz6 : 6 ≤ z) (Hex : Hid ((s.extract 6 z).size ≤ 100000)) (F : ByteArray) (HF : Hid (bs (frameL (s.extract 6 z).data.toList) = F)) (hne : (F.toList == (s.extract 0 z).toList) = false) (Hp : Hid (nextL s.data.toList = (Rec.zero, 0, 13))) :
    Calls Tryz.prog 62 #[.string s] w (NextPost s w) := by
  go_enter Tryz.func62, Tryz.ntmps62
  go_wp2
  go_quiet (fail)
  go_wp2
  go_region_held3 (fun _ => True) (trivial)
    ((go_at_call 39; refine (frame_any _ _ Hex.out).mono ?_; rintro e w1 ⟨rfl, hc1⟩; rw [HF.out]; have q1 := (hc1.block w.heap.size (by simp) (by simp)).trans (heap_at _ _ _ rfl); have r0 := cell_of_heap q1 (i := 0) rfl; have r1 := cell_of_heap q1 (i := 1) rfl; have r2 := cell_of_heap q1 (i := 2) rfl; have f0 := frozen_of_heap q1 (i := 0); have f1 := frozen_of_heap q1 (i := 1); have f2 := frozen_of_heap q1 (i := 2)))
  go_wp2
  have hcw := ((Chg.refl [] w).alloc (.cells #[.string ⟨#[]⟩, .string ⟨#[]⟩, .bool false] 54)).drewN nq |>.drew.new hc1
  exact next_ret (r := Rec.zero) (n := w.heap.size) (set3 q1 _ _ _) rfl rfl rfl ⟨by repeat (first | exact hcw | refine Chg.setCell ?_ (Or.inr (by simp)) _), by rw [Hp.out]; rfl⟩
set_option maxRecDepth 100000 in
set_option maxHeartbeats 4000000 in
theorem next_parsed (s : ByteArray) (w : World) (hs : s.size ≤ 100000) (h0 : 0 < s.size) (h1 : 1 < s.size) (h6' : (6 : Int) ≤ (s.size : Int)) (a n : Nat) (ha : s[0].toNat = a) (hn : s[1].toNat = n) (ha6 : a < 256) (hn6 : n < 256) (h5 : 6 + (a : Int) * 256 + (n : Int) ≤ (s.size : Int)) (z : Nat) (hz : 6 + a * 256 + n = z) (hz' : 6 + (a : Int) * 256 + (n : Int) = (z : Int)) (hzs : z ≤ s.size) (hz6 : 6 ≤ z) (Hex : Hid ((s.extract 6 z).size ≤ 100000)) (HF : Hid (bs (frameL (s.extract 6 z).data.toList) = s.extract 0 z)) (Hp : Hid (nextL s.data.toList = match parseL (s.extract 6 z).data.toList with | some r => (r, z, 0) | none => (Rec.zero, 0, 3))) :
    Calls Tryz.prog 62 #[.string s] w (NextPost s w) := by
  go_enter Tryz.func62, Tryz.ntmps62
  go_wp2
  go_quiet (fail)
  go_wp2
  go_region_held3 (fun _ => True) (trivial)
    ((go_at_call 39; refine (frame_any _ _ Hex.out).mono ?_; rintro e w1 ⟨rfl, hc1⟩; rw [HF.out]; have q1 := (hc1.block w.heap.size (by simp) (by simp)).trans (heap_at _ _ _ rfl); have r0 := cell_of_heap q1 (i := 0) rfl; have r1 := cell_of_heap q1 (i := 1) rfl; have r2 := cell_of_heap q1 (i := 2) rfl; have f0 := frozen_of_heap q1 (i := 0); have f1 := frozen_of_heap q1 (i := 1); have f2 := frozen_of_heap q1 (i := 2)))
  go_wp2_with fail
  refine (parse_any _ _ Hex.out).mono ?_
  rintro e w2 ⟨c2, h⟩
  have q2 := (c2.block w.heap.size (Nat.lt_of_lt_of_le (by simp) hc1.size) (by simp)).trans q1
  have s0 := cell_of_heap q2 (i := 0) rfl
  have s1 := cell_of_heap q2 (i := 1) rfl
  have s2 := cell_of_heap q2 (i := 2) rfl
  have g0 := frozen_of_heap q2 (i := 0)
  have g1 := frozen_of_heap q2 (i := 1)
  have g2 := frozen_of_heap q2 (i := 2)
  have hcw := ((Chg.refl [] w).alloc (.cells #[.string ⟨#[]⟩, .string ⟨#[]⟩, .bool false] 54)).drewN nq |>.drew.new hc1 |>.new c2
  have Q2 := Lib.hid q2
  clear q1 q2 r0 r1 r2 f0 f1 f2 hc1 c2
  rcases h with ⟨r, hr, rfl⟩ | ⟨hr, r, rfl⟩
  · have hp := Hp.out
    rw [hr] at hp
    have Hp2 := Lib.hid hp
    clear hp hr
    obtain ⟨key, val, del⟩ := r
    simp only [Rec.vals]
    go_wp2
    exact next_ret (r := ⟨key, val, del⟩) (z := z) (n := w.heap.size) (set3 (set3 Q2.out _ _ _) _ _ _) rfl (by simp) rfl ⟨by repeat (first | exact hcw | refine Chg.setCell ?_ (Or.inr (by simp)) _), by rw [Hp2.out]⟩
  · have hp := Hp.out
    rw [hr] at hp
    have Hp2 := Lib.hid hp
    clear hp hr
    obtain ⟨key, val, del⟩ := r
    simp only [Rec.vals]
    go_wp2
    exact next_ret (r := Rec.zero) (z := 0) (n := w.heap.size) (set3 (set3 Q2.out _ _ _) _ _ _) rfl rfl rfl ⟨by repeat (first | exact hcw | refine Chg.setCell ?_ (Or.inr (by simp)) _), by rw [Hp2.out]; rfl⟩
theorem next_any (s : ByteArray) (w : World) (hs : s.size ≤ 100000) : Calls Tryz.prog 62 #[.string s] w (NextPost s w) := by
  by_cases h6 : s.size < 6
  · exact next_short s w h6
  · have h0 : 0 < s.size := by omega
    have h1 : 1 < s.size := by omega
    have hpe := next_eq s h0 h1 h6
    have ha6 : s[0].toNat < 256 := s[0].toNat_lt
    have hn6 : s[1].toNat < 256 := s[1].toNat_lt
    obtain ⟨a, ha⟩ : ∃ a, s[0].toNat = a := ⟨_, rfl⟩
    obtain ⟨n, hn⟩ : ∃ n, s[1].toNat = n := ⟨_, rfl⟩
    rw [ha, hn] at hpe
    rw [ha] at ha6
    rw [hn] at hn6
    by_cases h3 : s.size < 6 + a * 256 + n
    · rw [if_pos h3] at hpe
      exact next_torn s w hs h0 h1 (by omega) a n ha hn ha6 hn6 (by omega) hpe
    · rw [if_neg h3] at hpe
      obtain ⟨z, hz⟩ : ∃ z, 6 + a * 256 + n = z := ⟨_, rfl⟩
      rw [hz] at hpe
      have hex : (s.extract 6 z).size ≤ 100000 := by simp; omega
      by_cases hF : frameL (s.extract 6 z).data.toList = (s.extract 0 z).data.toList
      · rw [if_neg (by simpa using hF)] at hpe
        exact next_parsed s w hs h0 h1 (by omega) a n ha hn ha6 hn6 (by omega) z hz (by omega) (by omega) (by omega) hex (by rw [hF]; rfl) hpe
      · rw [if_pos (by simpa using hF)] at hpe
        exact next_bad s w hs h0 h1 (by omega) a n ha hn ha6 hn6 (by omega) z hz (by omega) (by omega) (by omega) hex _ rfl (by rw [beq_eq_false_iff_ne, ByteArray.toList_eq, ByteArray.toList_eq]; exact hF) hpe
end Go.Proofs.YticfigfipbcmhaaGreatDoor.J
