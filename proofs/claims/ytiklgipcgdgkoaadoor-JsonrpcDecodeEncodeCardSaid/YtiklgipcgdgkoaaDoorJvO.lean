/- JSON values: encode, Encode. -/
import Derived.Test.YtiklgipcgdgkoaaDoorJvN
namespace Go.Proofs.YtiklgipcgdgkoaaDoor.Jv
open Go.RowKit Go.ChangeMaps Go.MapKept
set_option linter.unusedVariables false
set_option linter.unusedSimpArgs false
theorem Sm.kind {k n : Int} {t : ByteArray} {ns : List ByteArray} {es : List J} (h : Sm (.mk k n t ns es)) : (0 ≤ k ∧ k < 6) ∧ (k = 2 → -9007199254740991 ≤ n ∧ n ≤ 9007199254740991) := by
  obtain ⟨h1, hw, _⟩ := vd_zero.1 h.1
  refine ⟨h1, fun hk => ?_⟩
  subst hk
  unfold wf at hw
  simp only [Bool.and_eq_true, decide_eq_true_eq] at hw
  obtain ⟨⟨⟨⟨⟨⟨h2, _⟩, _⟩, _⟩, _⟩, _⟩, _⟩ := hw
  simpa using h2
set_option maxRecDepth 100000 in
set_option maxHeartbeats 8000000 in
theorem enc_step (p : Nat → Prop) (B b f : Nat) (hp : (∀ g, p g → g < B) ∧ 2 < B) (ih : ∀ f', f' < f → EncAt 47 J.enc p B b f') : EncAt 47 J.enc p B b f := by
  intro w j v l hj hs hb hBw hP hlen
  have hel := elems_step p B b f hp ih
  obtain ⟨k, n, t, ns, es⟩ := j
  obtain ⟨na, nc, a, cap, rfl, hns, hes, ⟨hn1, hn2⟩, ⟨hl1, hl2⟩, hts⟩ := hj.shape
  simp only [J.kind, J.num, J.text, J.names, J.elems] at hns hes hl1 hl2 hts hj hn1 hn2 ⊢
  obtain ⟨wq, hwq⟩ : ∃ x, x = w.alloc (.cells #[.int .i64 k, .int .i64 n, .string t, .slice na ns.length nc, .slice a es.length cap] 25) := ⟨_, rfl⟩
  obtain ⟨B1, hB1⟩ : ∃ x, x = w.heap.size := ⟨_, rfl⟩
  have hcq : Chg [] w wq := by rw [hwq]; exact (Chg.refl _ _).alloc _
  have hbb : wq.heap[B1]? = some (.cells #[.int .i64 k, .int .i64 n, .string t, .slice na ns.length nc, .slice a es.length cap] 25 (0, 0)) := by rw [hwq, hB1]; exact heap_at _ _ _ rfl
  obtain ⟨b0, b1, b2, b3, b4⟩ := box_kept B1 hbb (Chg.refl [] wq)
  have lb := lt_of_cell b0
  obtain ⟨hk, hn⟩ := hs.kind
  have HBq := Lib.hid (And.intro (hb.same hcq) (Nat.le_trans hBw hcq.size))
  have Hcq := Lib.hid hcq
  have Hbb := Lib.hid hbb
  have HE : Hid ((J.mk k n t ns es).enc = if k = 0 then [110, 117, 108, 108] else if k = 1 then Lib.formatBool (decide (n = 1)) else if k = 2 then Lib.itoa n else if k = 3 then encS t else encE (J.mk k n t ns es)) := Lib.hid (by rw [J.enc, encE])
  have Hlen := Lib.hid hlen
  have Hts := Lib.hid hts
  have Hn := Lib.hid hn
  have HP := Lib.hid (hP.kept (S := fun _ => False) hcq.p (fun h => h))
  have Hel := Lib.hid (fun m => hel wq _ _ m (hj.kept (S := fun _ => False) hcq.p (fun _ _ h => h)) hs)
  clear hj hs hb hBw hP hlen hes hns hcq hbb hp hel hts hn
  go_enter Tryd.func47, Tryd.ntmps47
  go_upto_region 1 with fail
  rw [← hwq, ← hB1]
  clear hwq hB1
  rcases (by omega : k = 0 ∨ k = 1 ∨ k = 2 ∨ k = 3 ∨ k = 4 ∨ k = 5) with rfl | rfl | rfl | rfl | rfl | rfl
  · rw [if_pos rfl] at HE
    rw [HE.out] at Hlen
    go_wp2_with fail
    refine (ws_any B b l ⟨#[110, 117, 108, 108]⟩ wq HBq.out.1 (by have := Hlen.out; exact this) HBq.out.2).mono ?_
    rintro e w2 ⟨rfl, h1, hc1, hz1⟩
    have HB2 : Hid (BW B b (l ++ [110, 117, 108, 108]) w2 ∧ ChgP (bldSet B b w) w w2) := Lib.hid ⟨h1, bset_pre Hcq.out hc1⟩
    clear h1 hc1 hz1
    go_wp2_with fail
    go_end0
    exact ⟨rfl, by rw [HE.out]; exact HB2.out.1, HB2.out.2, HB2.out.2.size⟩
  · rw [if_neg (by decide), if_pos rfl] at HE
    rw [HE.out] at Hlen
    obtain ⟨q, hq⟩ : ∃ q, q = decide (n = 1) := ⟨_, rfl⟩
    rw [← hq] at Hlen HE
    have hq2 : (n == 1) = q := by rw [hq]; rfl
    have Hfb := Lib.hid (Tryd.strconv_FormatBool q)
    clear hq
    go_wp2_with fail
    refine (Hfb.out wq).mono ?_
    rintro e w' ⟨rfl, rfl⟩
    go_wp2_with fail
    refine (ws_any B b l _ w' HBq.out.1 (by have := Hlen.out; exact this) HBq.out.2).mono ?_
    rintro e w2 ⟨rfl, h1, hc1, hz1⟩
    have HB2 : Hid (BW B b (l ++ Lib.formatBool q) w2 ∧ ChgP (bldSet B b w) w w2) := Lib.hid ⟨h1, bset_pre Hcq.out hc1⟩
    clear h1 hc1 hz1
    go_wp2_with fail
    go_end0
    exact ⟨rfl, by rw [HE.out]; exact HB2.out.1, HB2.out.2, HB2.out.2.size⟩
  · rw [if_neg (by decide), if_neg (by decide), if_pos rfl] at HE
    rw [HE.out] at Hlen
    go_wp2_with fail
    refine (itoa_any n wq (Hn.out (by first | trivial | rfl)).1 (Hn.out (by first | trivial | rfl)).2 HP.out).mono ?_
    rintro e w1 ⟨rfl, hc1⟩
    have HB1 := Lib.hid (And.intro (HBq.out.1.same hc1) (And.intro (Nat.le_trans HBq.out.2 hc1.size) (Hcq.out.trans hc1)))
    clear hc1
    go_wp2_with fail
    refine (ws_any B b l _ w1 HB1.out.1 (by have := Hlen.out; exact this) HB1.out.2.1).mono ?_
    rintro e w2 ⟨rfl, h1, hc1, hz1⟩
    have HB2 : Hid (BW B b (l ++ Lib.itoa n) w2 ∧ ChgP (bldSet B b w) w w2) := Lib.hid ⟨h1, bset_pre HB1.out.2.2 hc1⟩
    clear h1 hc1 hz1
    go_wp2_with fail
    go_end0
    exact ⟨rfl, by rw [HE.out]; exact HB2.out.1, HB2.out.2, HB2.out.2.size⟩
  · rw [if_neg (by decide), if_neg (by decide), if_neg (by decide), if_pos rfl] at HE
    rw [HE.out] at Hlen
    go_wp2_with fail
    refine (encS_any B b l t wq HBq.out.1 Hlen.out HBq.out.2 Hts.out).mono ?_
    rintro e w2 ⟨rfl, h1, hc1, hz1⟩
    have HB2 : Hid (BW B b (l ++ encS t) w2 ∧ ChgP (bldSet B b w) w w2) := Lib.hid ⟨h1, bset_pre Hcq.out hc1⟩
    clear h1 hc1 hz1
    go_wp2_with fail
    go_end0
    exact ⟨rfl, by rw [HE.out]; exact HB2.out.1, HB2.out.2, HB2.out.2.size⟩
  all_goals
    rw [if_neg (by decide), if_neg (by decide), if_neg (by decide), if_neg (by decide)] at HE
    rw [HE.out] at Hlen
    go_wp2_with fail
    refine (Hel.out l HBq.out.1 HBq.out.2 HP.out Hlen.out).mono ?_
    rintro e w2 ⟨rfl, h1, hc1, hz1⟩
    have HB2 := Lib.hid (And.intro h1 (bset_pre Hcq.out hc1))
    clear h1 hc1 hz1
    go_wp2_with fail
    go_end0
    exact ⟨rfl, by rw [HE.out]; exact HB2.out.1, HB2.out.2, HB2.out.2.size⟩
theorem enc_any (p : Nat → Prop) (B b : Nat) (hp : (∀ g, p g → g < B) ∧ 2 < B) : ∀ f, EncAt 47 J.enc p B b f := by
  intro f
  induction f using Nat.strongRecOn with
  | ind f ih => exact enc_step p B b f hp ih
end Go.Proofs.YtiklgipcgdgkoaaDoor.Jv
