/- wordindex: Find. -/
import Derived.Test.YtnkacmcggcdlpaaWiQ
namespace Go.Proofs.Ytnkacmcggcdlpaa
open Go.RowKit Go.ChangeMaps Go.MapKept Go.Shelf
set_option linter.unusedVariables false
set_option linter.unusedSimpArgs false
set_option maxHeartbeats 1000000 in
theorem slIndexS (p : Nat → Prop) (w : World) (v : Value) (ks : List ByteArray) (k : ByteArray) (hk : StrsP p w v ks) :
    Calls Try.prog 43 #[v, .string k] w fun e w' => ∃ z : Int, e = .returned (.int .i64 z) ∧ decide (0 ≤ z) = memb k ks ∧ w' = w := by
  obtain ⟨a, cap, rfl, hm, hc⟩ := hk.shape
  have Hk := Lib.hid hk
  clear hk
  unfold maxLen at hm
  go_enter Try.func43, Try.ntmps43
  go_wp2_with fail
  go_loopw [8] (fun i wr => ∃ n : Nat, n ≤ ks.length ∧ i = .int .i64 (n : Nat) ∧ Hid (k ∉ ks.take n) ∧ Hid (wr = w)) (fun i _ => ks.length - (intOf i).toNat)
  case atStart => exact ⟨0, by omega, rfl, Lib.hid (by simp), Lib.hid rfl⟩
  case round =>
    obtain ⟨n, hn, rfl, Hnot, Hcw⟩ := hrel
    by_cases hlt : n < ks.length
    · obtain ⟨g, off, rfl, _, q0⟩ := (show StrsP p wr _ ks by rw [Hcw.out]; exact Hk.out).cell n hlt
      obtain ⟨x, hx⟩ : ∃ x, ks.getD n ⟨#[]⟩ = x := ⟨_, rfl⟩
      rw [hx] at q0
      have hxe : ks[n] = x := by rw [← hx, List.getD_eq_getElem?_getD, List.getElem?_eq_getElem hlt]; rfl
      have Hx := Lib.hid hxe
      have lg := lt_of_cell q0
      have hn1 : (n : Int) < ks.length := by omega
      have hn0 : (0 : Int) ≤ (n : Int) := by omega
      have hq := beqS k x
      clear hx hxe
      by_cases he : k = x
      · rw [decide_eq_true he] at hq
        have hq' : (x.toList == k.toList) = true := by rw [beqS]; exact decide_eq_true he.symm
        have Hin := Lib.hid (show k ∈ ks by rw [he, ← Hx.out]; exact List.getElem_mem hlt)
        clear he
        go_wp2_with fail
        go_ret
        exact ⟨_, rfl, by rw [decide_eq_true hn0, memb_true Hin.out], Hcw.out⟩
      · rw [decide_eq_false he] at hq
        have hq' : (x.toList == k.toList) = false := by rw [beqS]; exact decide_eq_false fun e => he e.symm
        have Hne := Lib.hid he
        clear he
        go_wp2_with fail
        refine ⟨⟨n + 1, by omega, by go_num, Lib.hid fun hy => ?_, Hcw⟩, by simp [intOf]; omega⟩
        rw [List.take_succ_eq_append_getElem hlt, List.mem_append, List.mem_singleton, Hx.out] at hy
        rcases hy with hy | hy
        · exact Hnot.out hy
        · exact Hne.out hy
    · have hn1 : ¬ ((n : Int) < ks.length) := by omega
      have Hnin := Lib.hid (show k ∉ ks by have := Hnot.out; rwa [List.take_of_length_le (by omega)] at this)
      go_wp2_with fail
      go_ret
      exact ⟨_, rfl, by rw [memb_false Hnin.out]; rfl, Hcw.out⟩
theorem slContainsS (p : Nat → Prop) (w : World) (v : Value) (ks : List ByteArray) (k : ByteArray) (hk : StrsP p w v ks) :
    Calls Try.prog 28 #[v, .string k] w fun e w' => e = .returned (.bool (memb k ks)) ∧ w' = w := by
  have Hix := Lib.hid (slIndexS p w v ks k hk)
  clear hk
  go_enter Try.func28, Try.ntmps28
  go_wp2_with fail
  refine (Hix.out).mono ?_
  rintro e w1 ⟨z, rfl, hz, rfl⟩
  have Hz := Lib.hid hz
  clear hz
  go_wp2_with fail
  go_ret
  exact ⟨ret_bool Hz.out, rfl⟩
def findN (I : List Ie) (word : ByteArray) : List ByteArray := (I.filter fun x => memb word x.2.2).map (·.1)
theorem findN_take (I : List Ie) (word : ByteArray) (k : Nat) (hk : k < I.length) : findN (I.take (k + 1)) word = findN (I.take k) word ++ if memb word I[k].2.2 then [I[k].1] else [] := by
  unfold findN
  rw [List.take_succ_eq_append_getElem hk, List.filter_append, List.map_append]
  congr 1
  by_cases h : memb word I[k].2.2 = true
  · simp [h]
  · simp [h]
def FiPost (I : List Ie) (word : ByteArray) (w : World) (e : Ending) (w' : World) : Prop := ∃ a c, e = .returned (.slice a (findN I word).length c) ∧ StrsP (fun g => w.heap.size ≤ g ∧ g < w'.heap.size) w' (.slice a (findN I word).length c) (findN I word) ∧ Chg [] w w'
set_option maxRecDepth 100000 in
set_option maxHeartbeats 4000000 in
theorem find_any (p q : Nat → Prop) (w : World) (v : Value) (I : List Ie) (word : ByteArray) (h : IxP p q w v I) (hl : I.length ≤ 1000) :
    Calls Try.prog 12 #[v, .string word] w (FiPost I word w) := by
  obtain ⟨a0, c0, rfl, hml, hcp⟩ := h.shape
  have H := Lib.hid h
  unfold maxLen at hml
  clear h
  go_enter Try.func12, Try.ntmps12
  go_wp2_with fail
  go_loopw [5, 10] (fun v5 i wr => ∃ (k : Nat) (N : List ByteArray) (a5 : Option Addr) (c5 : Nat), k ≤ I.length ∧ i = .int .i64 (k : Nat) ∧ v5 = .slice a5 N.length c5 ∧ Hid (OwnS wr w.heap.size v5 N ∧ Chg [] w wr) ∧ Hid (N = findN (I.take k) word) ∧ N.length ≤ k) (fun _ i _ => I.length - (intOf i).toNat)
  case atStart => exact ⟨0, [], none, 0, by omega, rfl, rfl, Lib.hid ⟨OwnS.nil _ _, Chg.refl _ _⟩, Lib.hid rfl, by simp⟩
  case round =>
    obtain ⟨k, N, a5, c5, hk, rfl, rfl, HO, HN, hNl⟩ := hrel
    by_cases hlt : k < I.length
    · obtain ⟨g, off, rfl, _, q0, q1, ua, uc, q2, hs⟩ := (H.out.same HO.out.2).cells k hlt
      obtain ⟨x, hx⟩ : ∃ x, I.getD k ie0 = x := ⟨_, rfl⟩
      have Hx := Lib.hid ((getD_eqI hlt).symm.trans hx)
      rw [hx] at q0 q1 q2 hs
      obtain ⟨nm, sm, ws⟩ := x
      simp only at q0 q1 q2 hs
      have lg := lt_of_cell q0
      have hk1 : (k : Int) < I.length := by omega
      have hk0 : (0 : Int) ≤ (k : Int) := by omega
      clear hx
      obtain ⟨w2, hw2⟩ : ∃ q, q = wr.alloc (.cells #[.string nm, .int .u32 sm, .slice ua ws.length uc] 43) := ⟨_, rfl⟩
      obtain ⟨n2, hn2⟩ : ∃ q, q = wr.heap.size := ⟨_, rfl⟩
      have hc2 : Chg [] wr w2 := by rw [hw2]; exact (Chg.refl [] _).alloc _
      have hb2 : w2.heap[n2]? = some (.cells #[.string nm, .int .u32 sm, .slice ua ws.length uc] 43 (0, 0)) := by rw [hw2, hn2]; exact heap_at _ _ _ rfl
      have d0 : w2.cell? ⟨n2, 0, none⟩ = some (.string nm) := cell_of_heap hb2 rfl
      have d2 : w2.cell? ⟨n2, 2, none⟩ = some (.slice ua ws.length uc) := cell_of_heap hb2 rfl
      have ld := lt_of_cell d0
      have hco := slContainsS q w2 _ ws word (hs.same hc2)
      obtain ⟨b, hb⟩ : ∃ b, memb word ws = b := ⟨_, rfl⟩
      rw [hb] at hco
      have Hco := Lib.hid hco
      have HNx := Lib.hid (show findN (I.take (k + 1)) word = N ++ if b then [nm] else [] by rw [findN_take I word k hlt, Hx.out, hb, ← HN.out])
      have HW2 := Lib.hid (And.intro hw2 hn2)
      have Hc2 := Lib.hid hc2
      clear hw2 hn2 hc2 hb2 hs hco hb
      go_upto_region 5 with (fail)
      rw [← HW2.out.1, ← HW2.out.2]
      go_wp2_with fail
      refine Hco.out.mono ?_
      rintro e w3 ⟨rfl, rfl⟩
      cases b
      · go_wp2_with fail
        exact ⟨⟨k + 1, N, a5, c5, by omega, by go_num, rfl, Lib.hid ⟨HO.out.1.same Hc2.out, HO.out.2.trans Hc2.out⟩, Lib.hid (by rw [HNx.out]; simp), by omega⟩, by simp [intOf]; omega⟩
      · obtain ⟨w6, hw6⟩ : ∃ q, q = w3.alloc (.cells #[.string nm] 9) := ⟨_, rfl⟩
        obtain ⟨n6, hn6⟩ : ∃ n, n = w3.heap.size := ⟨_, rfl⟩
        have hc6 : Chg [] w3 w6 := by rw [hw6]; exact (Chg.refl [] _).alloc _
        have hb6 : w6.heap[n6]? = some (.cells #[.string nm] 9 (0, 0)) := by rw [hw6, hn6]; exact heap_at _ _ _ rfl
        have ho6 := HO.out.1.same (Hc2.out.trans hc6)
        have hcw6 := HO.out.2.trans (Hc2.out.trans hc6)
        obtain ⟨v7, w7, hr7, ho7, hc7⟩ := run_append_strs w6 23 w.heap.size _ _ _ N [nm] ho6 (str1_at hb6) (by simp only [List.length_cons, List.length_nil]; omega) hcw6.size
        obtain ⟨a7, c7, rfl⟩ := ownsRow_shape ho7
        have hOl : (N ++ [nm]).length = N.length + 1 := by simp
        rw [hOl] at hr7
        have H7 := Lib.hid (show OwnS w7 w.heap.size (.slice a7 (N.length + 1) c7) (N ++ [nm]) ∧ Chg [] w w7 from ⟨by rw [← hOl]; exact ho7, hcw6.comp hc7 fun g hg => Or.inr (ho6.lt g (by simpa using hg)).1⟩)
        have Hr7 := Lib.hid hr7
        have HW6 := Lib.hid (And.intro hw6 hn6)
        have HOl := Lib.hid hOl
        clear ho6 hcw6 hw6 hn6 hc6 hb6 hr7 ho7 hc7 hOl
        go_wp2_with (at_builtin; rw [← HW6.out.1, ← HW6.out.2]; refine wpList_append_run rfl _ _ _ rfl _ _ _ _ rfl rfl Hr7.out ?_)
        exact ⟨⟨k + 1, N ++ [nm], a7, c7, by omega, by go_num, by rw [HOl.out], H7, Lib.hid (by rw [HNx.out]; rfl), by rw [HOl.out]; omega⟩, by simp [intOf]; omega⟩
    · have hk1 : ¬ ((k : Int) < I.length) := by omega
      have hN : N = findN I word := by have := HN.out; rwa [List.take_of_length_le (by omega)] at this
      have HNe := Lib.hid hN
      clear hN
      go_wp2_with fail
      go_ret
      have hO := HO.out
      have hNe := HNe.out
      subst hNe
      exact ⟨_, _, rfl, hO.1.strs.imp fun g hg => ⟨hg.1, hg.2.1⟩, hO.2⟩
end Go.Proofs.Ytnkacmcggcdlpaa
