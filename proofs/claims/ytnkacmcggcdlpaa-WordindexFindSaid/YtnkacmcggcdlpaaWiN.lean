/- slices.BinarySearchFunc at entries, where the name is there. -/
import Derived.Test.YtnkacmcggcdlpaaWiM
import Derived.StillTailTactics
namespace Go.Proofs.Ytnkacmcggcdlpaa
open Go.RowKit Go.ChangeMaps Go.MapKept Go.Shelf
set_option linter.unusedVariables false
set_option linter.unusedSimpArgs false
def cmpN (a b : ByteArray) : Int := Lib.compareBytes (bl a) (bl b)
theorem cmpN_pos {I : List Ie} (h : I.Pairwise fun a b => ltN a.1 b.1) (t m : Nat) (ht : t < I.length) (hm : m < I.length) : (cmpN (I.getD m ie0).1 (I.getD t ie0).1 < 0 ↔ m < t) ∧ (cmpN (I.getD m ie0).1 (I.getD t ie0).1 = 0 ↔ m = t) := by
  rw [getD_eqI ht, getD_eqI hm]
  have hp := List.pairwise_iff_getElem.1 h
  unfold cmpN
  rcases Nat.lt_trichotomy m t with e | e | e
  · have h1 : Lib.compareBytes (bl I[m].1) (bl I[t].1) < 0 := hp m t hm ht e
    exact ⟨⟨fun _ => e, fun _ => h1⟩, ⟨fun h2 => by omega, fun h2 => by omega⟩⟩
  · subst e
    have h1 := (cb_eq (bl I[m].1) (bl I[m].1)).2 rfl
    exact ⟨⟨fun h2 => by omega, fun h2 => by omega⟩, ⟨fun _ => rfl, fun _ => h1⟩⟩
  · have h1 : Lib.compareBytes (bl I[t].1) (bl I[m].1) < 0 := hp t m ht hm e
    have h2 := cb_neg (bl I[t].1) (bl I[m].1)
    exact ⟨⟨fun h2 => by omega, fun h2 => by omega⟩, ⟨fun h3 => by omega, fun h2 => by omega⟩⟩
theorem cmpNm_any (a b : ByteArray) (s1 s2 : Int) (a1 a2 : Option Addr) (n1 n2 c1 c2 : Nat) (W : World) :
    Calls Try.prog 23 #[.agg #[.string a, .int .u32 s1, .slice a1 n1 c1], .agg #[.string b, .int .u32 s2, .slice a2 n2 c2]] W fun e w' => e = .returned (.int .i64 (cmpN a b)) ∧ Chg [] W w' := by
  refine (cmpNames_any ⟨a, s1, a1, n1, c1⟩ ⟨b, s2, a2, n2, c2⟩ W).mono ?_
  rintro e w' ⟨rfl, rfl⟩
  exact ⟨rfl, ((Chg.refl [] W).alloc _).alloc _⟩
set_option maxRecDepth 100000 in
set_option maxHeartbeats 4000000 in
theorem bsearchE_any (p q : Nat → Prop) (w : World) (v : Value) (I : List Ie) (t : Nat) (ks : Int) (ka : Option Addr) (kl kc : Nat) (kn : ByteArray) (h : IxP p q w v I) (hs : I.Pairwise fun a b => ltN a.1 b.1) (hl : I.length ≤ 100000) (ht : t < I.length) (hkn : (I.getD t ie0).1 = kn) :
    Calls Try.prog 25 #[v, .agg #[.string kn, .int .u32 ks, .slice ka kl kc], .func (.func 23) #[] #[]] w fun e w' => e = .returned (.tuple #[.int .i64 (t : Nat), .bool true]) ∧ Chg [] w w' := by
  obtain ⟨a, cap, rfl, hml, hcp⟩ := h.shape
  have H := Lib.hid h
  have Hp := Lib.hid (fun m (hm : m < I.length) => by have := cmpN_pos hs t m ht hm; rw [hkn] at this; exact this)
  obtain ⟨w1, hw1⟩ : ∃ x, x = w.alloc (.cells #[.string kn, .int .u32 ks, .slice ka kl kc] 43) := ⟨_, rfl⟩
  have hc1 : Chg [] w w1 := by rw [hw1]; exact (Chg.refl [] w).alloc _
  have hb1 : w1.heap[w.heap.size]? = some (.cells #[.string kn, .int .u32 ks, .slice ka kl kc] 43 (0, 0)) := by rw [hw1]; exact heap_at _ _ _ rfl
  obtain ⟨nb, hnb⟩ : ∃ n, n = w.heap.size := ⟨_, rfl⟩
  rw [← hnb] at hb1
  have Hw1 := Lib.hid hw1
  have Hnb := Lib.hid hnb
  have Hc1 := Lib.hid hc1
  have Hb1 := Lib.hid hb1
  unfold maxLen at hml
  clear h hs hw1 hnb hc1 hb1 hkn
  go_enter Try.func25, Try.ntmps25
  go_wp2_with fail
  rw [← Hw1.out, ← Hnb.out]
  go_loopw [9, 10] (fun iv jv wr => ∃ i j : Nat, i ≤ j ∧ j ≤ I.length ∧ i ≤ t ∧ t ≤ j ∧ iv = .int .i64 (i : Nat) ∧ jv = .int .i64 (j : Nat) ∧ Chg [] w1 wr) (fun iv jv _ => (intOf jv - intOf iv).toNat)
  case atStart => exact ⟨0, I.length, by omega, by omega, by omega, by omega, rfl, rfl, Chg.refl _ _⟩
  case round =>
    obtain ⟨i, j, hij, hj, hit, htj, rfl, rfl, hc⟩ := hrel
    by_cases hlt : i < j
    · have hk1 : (i : Int) < j := by omega
      obtain ⟨m, hm⟩ : ∃ m, m = (i + j) / 2 := ⟨_, rfl⟩
      have hm1 : i ≤ m ∧ m < j := by omega
      have hml2 : m < I.length := by omega
      obtain ⟨g, off, rfl, _, c0, c1, xa, xc, c2, _⟩ := (H.out.same (Hc1.out.trans hc)).cells m hml2
      have hx := (Hp.out m hml2).1
      obtain ⟨⟨x0, x1, x2⟩, hxe⟩ : ∃ x, I.getD m ie0 = x := ⟨_, rfl⟩
      rw [hxe] at c0 c1 c2 hx
      simp only at c0 c1 c2 hx
      have hwi : IntKind.i64.wrap ((i : Int) + j) = (i : Int) + j := IntWalk.i64_in _ (by omega)
      have hmv : ((i : Int) + (j : Int)) / 2 = ((m : Nat) : Int) := by omega
      have hm2 : (m : Int) < I.length := by omega
      have lc := lt_of_cell c0
      obtain ⟨cv, hcv⟩ : ∃ c, cmpN x0 kn = c := ⟨_, rfl⟩
      have Hcmp := Lib.hid (show ∀ W, Calls Try.prog 23 #[.agg #[.string x0, .int .u32 x1, .slice xa x2.length xc], .agg #[.string kn, .int .u32 ks, .slice ka kl kc]] W fun e w' => e = .returned (.int .i64 cv) ∧ Chg [] W w' from fun W => by
        have := cmpNm_any x0 kn x1 ks xa ka x2.length kl xc kc W
        rw [hcv] at this
        exact this)
      rw [hcv] at hx
      have Hx := Lib.hid hx
      have hbk := (hc.block _ (lt_of_obj Hb1.out) (by simp)).trans Hb1.out
      have b0 : wr.cell? ⟨nb, 0, none⟩ = some (.string kn) := cell_of_heap hbk rfl
      have b1 : wr.cell? ⟨nb, 1, none⟩ = some (.int .u32 ks) := cell_of_heap hbk rfl
      have b2 : wr.cell? ⟨nb, 2, none⟩ = some (.slice ka kl kc) := cell_of_heap hbk rfl
      have lb := lt_of_cell b0
      have Hc := Lib.hid hc
      clear hx hxe hcv hbk hm hc
      go_wp2_with fail
      refine wp_region_readsQ 6 (by kernel_rfl) (by kernel_rfl) ?_
      intro wd hwd
      simp only [List.take_succ_cons, List.take_zero, List.drop_succ_cons, List.drop_zero]
      have hcd : Chg [] wr wd := by rw [hwd]; exact (Chg.refl [] wr).drew
      have q0 := (hcd.cell lc (by simp)).trans c0
      have q1 := (hcd.cell (p := ⟨g, off + m * 3 + 1, none⟩) lc (by simp)).trans c1
      have q2 := (hcd.cell (p := ⟨g, off + m * 3 + 2, none⟩) lc (by simp)).trans c2
      have p0 := (hcd.cell lb (by simp)).trans b0
      have p1 := (hcd.cell (p := ⟨nb, 1, none⟩) lb (by simp)).trans b1
      have p2 := (hcd.cell (p := ⟨nb, 2, none⟩) lb (by simp)).trans b2
      have Hcd := Lib.hid (Hc.out.trans hcd)
      clear hwd hcd c0 c1 c2 b0 b1 b2 lc lb
      repeat go_big_quiet_step (fail)
      refine wpQuiet_nil ?_
      go_wp2_with fail
      refine (Hcmp.out _).mono ?_
      rintro e w5 ⟨rfl, hc5⟩
      have Hc5 := Lib.hid (Hcd.out.trans hc5)
      clear hc5
      by_cases hneg : cv < 0
      · go_wp2_with fail
        have := Hx.out.1 hneg
        exact ⟨⟨m + 1, j, by omega, by omega, by omega, by omega, by go_num, rfl, Hc5.out⟩, by simp [intOf]; omega⟩
      · go_wp2_with fail
        have : ¬ m < t := fun h => by have := Hx.out.2 h; omega
        exact ⟨⟨i, m, by omega, by omega, by omega, by omega, rfl, by go_num, Hc5.out⟩, by simp [intOf]; omega⟩
    · obtain rfl : i = j := by omega
      obtain rfl : i = t := by omega
      have hk1 : ¬ ((i : Int) < i) := by omega
      have hg1 : decide ((i : Int) < I.length) = true := decide_eq_true (by omega)
      have hg2 : (i : Int) < I.length := by omega
      obtain ⟨g, off, rfl, _, c0, c1, xa, xc, c2, _⟩ := (H.out.same (Hc1.out.trans hc)).cells i ht
      have hx := (Hp.out i ht).2.2 rfl
      obtain ⟨⟨x0, x1, x2⟩, hxe⟩ : ∃ x, I.getD i ie0 = x := ⟨_, rfl⟩
      rw [hxe] at c0 c1 c2 hx
      simp only at c0 c1 c2 hx
      have lc := lt_of_cell c0
      have Hcmp := Lib.hid (show ∀ W, Calls Try.prog 23 #[.agg #[.string x0, .int .u32 x1, .slice xa x2.length xc], .agg #[.string kn, .int .u32 ks, .slice ka kl kc]] W fun e w' => e = .returned (.int .i64 0) ∧ Chg [] W w' from fun W => by
        have := cmpNm_any x0 kn x1 ks xa ka x2.length kl xc kc W
        rw [hx] at this
        exact this)
      have hbk := (hc.block _ (lt_of_obj Hb1.out) (by simp)).trans Hb1.out
      have b0 : wr.cell? ⟨nb, 0, none⟩ = some (.string kn) := cell_of_heap hbk rfl
      have b1 : wr.cell? ⟨nb, 1, none⟩ = some (.int .u32 ks) := cell_of_heap hbk rfl
      have b2 : wr.cell? ⟨nb, 2, none⟩ = some (.slice ka kl kc) := cell_of_heap hbk rfl
      have lb := lt_of_cell b0
      have Hc := Lib.hid hc
      clear hx hxe hbk hc
      go_wp2_with fail
      go_region_held3 (fun w' => w'.cell? ⟨g, off + i * 3, none⟩ = some (.string x0) ∧ w'.cell? ⟨g, off + i * 3 + 1, none⟩ = some (.int .u32 x1) ∧ w'.cell? ⟨g, off + i * 3 + 2, none⟩ = some (.slice xa x2.length xc) ∧ w'.cell? ⟨nb, 0, none⟩ = some (.string kn) ∧ w'.cell? ⟨nb, 1, none⟩ = some (.int .u32 ks) ∧ w'.cell? ⟨nb, 2, none⟩ = some (.slice ka kl kc))
        (first | (go_keep; done) | (exact ⟨q0, q1, q2, p0, p1, p2⟩))
        (first | (go_at_call 23; refine (Hcmp.out _).mono ?_; rintro e w5 ⟨rfl, hc5'⟩; have hc5 : Chg [] wr w5 := ((Chg.refl [] wr).drew).trans hc5'; have q0 := (hc5.cell lc (by simp)).trans c0; have q1 := (hc5.cell (p := ⟨g, off + i * 3 + 1, none⟩) lc (by simp)).trans c1; have q2 := (hc5.cell (p := ⟨g, off + i * 3 + 2, none⟩) lc (by simp)).trans c2; have p0 := (hc5.cell lb (by simp)).trans b0; have p1 := (hc5.cell (p := ⟨nb, 1, none⟩) lb (by simp)).trans b1; have p2 := (hc5.cell (p := ⟨nb, 2, none⟩) lb (by simp)).trans b2; have Hc5 := Lib.hid (Hc1.out.trans (Hc.out.trans hc5)); clear hc5 hc5'))
      all_goals
        try simp only [List.getElem_toArray, List.getElem_cons_zero, List.getElem_cons_succ]
        go_wp2_with fail
        go_ret2
        exact ⟨rfl, Hc5.out⟩
end Go.Proofs.Ytnkacmcggcdlpaa
