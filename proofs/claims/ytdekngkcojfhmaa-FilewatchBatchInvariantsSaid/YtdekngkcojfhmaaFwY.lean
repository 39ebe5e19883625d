/- FilewatchBatchInvariants: the walk. -/
import Derived.Test.YtdekngkcojfhmaaFwX
namespace Go.Proofs.Ytdekngkcojfhmaa
open Go.RowKit Go.ChangeMaps Go.MapKept Go.Shelf
set_option linter.unusedVariables false
set_option linter.unusedSimpArgs false
theorem bless : ∀ (x y : List UInt8), Op.bytesLess x y = decide (x < y)
  | [], [] => by simp [Op.bytesLess]
  | _ :: _, [] => by simp [Op.bytesLess]
  | [], _ :: _ => by simp [Op.bytesLess]
  | a :: x, b :: y => by
    rw [Op.bytesLess, bless x y]
    simp only [List.cons_lt_cons_iff]
    by_cases h1 : a < b <;> by_cases h2 : a = b <;> by_cases h3 : x < y <;> simp [h1, h2, h3]
theorem less_of {a b : ByteArray} (h : bl a < bl b) : Op.bytesLess a.toList b.toList = true := by
  rw [bless, Lib.toList_data, Lib.toList_data]
  exact decide_eq_true h
theorem bat_pos (d : Int) : ∀ (rest G : List FEv), (∀ e ∈ G ++ rest, 0 ≤ e.1) → ∀ b ∈ bat d G rest, ∀ e ∈ b.2, 0 ≤ e.1 := by
  intro rest
  induction rest with
  | nil => intro G _ b hb; simp [bat] at hb
  | cons x rest ih =>
    intro G hG b hb
    unfold bat at hb
    split at hb
    · exact ih (G ++ [x]) (by simpa using hG) b hb
    · rcases List.mem_append.1 hb with hb | hb
      · split at hb
        · simp at hb
        · rw [List.mem_singleton.1 hb]
          intro e he
          obtain ⟨e', h1, h2⟩ := nb_time _ e he
          rw [← h2]
          refine hG e' ?_
          rcases List.mem_append.1 h1 with h | h
          · simp [h]
          · rw [List.mem_singleton.1 h]; simp
      · exact ih [] (fun e he => hG e (by simp at he; simp [he])) b hb
theorem pw_at {α : Type} {R : α → α → Prop} {l : List α} (h : l.Pairwise R) (i : Nat) (d : α) (h0 : 0 < i) (hi : i < l.length) : R (l.getD (i - 1) d) (l.getD i d) := by
  have := List.pairwise_iff_getElem.1 h (i - 1) i (by omega) hi (by omega)
  rw [List.getD_eq_getElem?_getD, List.getD_eq_getElem?_getD, List.getElem?_eq_getElem hi, List.getElem?_eq_getElem (show i - 1 < l.length by omega)]
  exact this
set_option maxRecDepth 100000 in
set_option maxHeartbeats 8000000 in
theorem batchInvLaw_any (p : Nat → Prop) (w : World) (v : Value) (E0 : List FEv) (xd : Int) (h : EvsP p w v E0) (hpa : ∀ e ∈ E0, e.2.1.size ≤ maxLen) :
    Calls Try.prog 3 #[v, .int .i64 xd] w fun e w' => e = .returned (.bool true) ∧ Chg [] w w' := by
  have H := Lib.hid h
  have Hpa := Lib.hid hpa
  obtain ⟨d, hd⟩ : ∃ x, modI xd 60 = x := ⟨_, rfl⟩
  have hdb := modI_bd xd 60 (by omega)
  rw [hd] at hdb
  have Hd := Lib.hid (show ∀ W, Calls Try.prog 8 #[.int .i64 xd, .int .i64 60] W fun e w' => e = .returned (.int .i64 d) ∧ w' = W from fun W => by
    refine (mod_any xd 60 W (by omega) (by omega)).mono ?_
    rintro e w' ⟨rfl, rfl⟩
    exact ⟨by rw [hd], rfl⟩)
  clear h hpa hd
  go_enter Try.func3, Try.ntmps3
  go_wp2_with fail
  refine (watchExample_any _).mono ?_
  rintro e w1 ⟨rfl, hc1⟩
  have Hc1 := Lib.hid hc1
  have Ht := Lib.hid (timed_any p w1 v E0 (H.out.same hc1) Hpa.out)
  clear hc1
  go_wp2_with fail
  refine Ht.out.mono ?_
  rintro e w2 ⟨tv, E, rfl, hE, hT, hc2⟩
  have Hc2 := Lib.hid (Hc1.out.trans hc2)
  have HB := Lib.hid (batches_any _ w2 tv E d hE.evs (hT.ok (by omega)) (by omega) (by omega))
  have HT := Lib.hid hT
  clear hE hT hc2
  go_wp2_with fail
  refine (Hd.out _).mono ?_
  rintro e w' ⟨rfl, rfl⟩
  go_wp2_with fail
  refine HB.out.mono ?_
  rintro e w3 ⟨bv, rfl, hB, hc3⟩
  have hinv := bat_inv d E [] (by simpa using HT.out.ord)
  have htb : ∀ b ∈ bat d [] E, 0 ≤ b.1 ∧ b.1 ≤ 3000 := by
    intro b hb
    obtain ⟨e, he, h⟩ := (hinv.2 b hb).2.2.2
    have := HT.out.time e he
    omega
  have hpos : ∀ b ∈ bat d [] E, ∀ e ∈ b.2, 0 ≤ e.1 := bat_pos d E [] (by simpa using fun e he => (HT.out.time e he).1)
  obtain ⟨L, hL⟩ : ∃ L, bat d [] E = L := ⟨_, rfl⟩
  rw [hL] at hB hinv htb hpos
  have Hpos := Lib.hid hpos
  obtain ⟨va, vc, rfl, hvl⟩ := hB.shape
  have HbP := Lib.hid hB.bats
  have Hinv := Lib.hid hinv
  have Htb := Lib.hid htb
  have Hc3 := Lib.hid (Hc2.out.trans hc3)
  unfold maxLen at hvl
  clear hB hc3 hinv htb hL hpos
  go_wp2_with fail
  go_loopw [26] (fun jj wr => ∃ k : Nat, k ≤ L.length ∧ jj = .int .i64 (k : Nat) ∧ Chg [] w3 wr) (fun jj _ => L.length - (intOf jj).toNat)
  case atStart => exact ⟨0, by omega, rfl, Chg.refl _ _⟩
  case round =>
    obtain ⟨k, hk, rfl, hc⟩ := hrel
    obtain ⟨wo, rfl⟩ : ∃ x, x = wr := ⟨_, rfl⟩
    by_cases hlt : k < L.length
    · have hk1 : (k : Int) < L.length := by omega
      obtain ⟨g, off, u, rfl, c0, c1, c2⟩ := (HbP.out.same hc).at k hlt
      have hm : L.getD k (0, []) ∈ L := by rw [List.getD_eq_getElem?_getD, List.getElem?_eq_getElem hlt]; simp
      have hi := Hinv.out.2 _ hm
      have hto := pw_at Hinv.out.1 k (0, [])
      have htk := Htb.out _ hm
      obtain ⟨⟨t, l⟩, hr⟩ : ∃ r, L.getD k (0, []) = r := ⟨_, rfl⟩
      rw [hr] at c0 c2 hi hto htk
      simp only at c0 c2 hi hto htk
      obtain ⟨hi1, hi2, hi3, hi4⟩ := hi
      obtain ⟨ua, uc, rfl, hul, huc⟩ := c2.shape
      have hl0 : ((l.length : Int) == 0) = false := by have := List.length_pos_iff.2 hi1; simp; omega
      have Hi := Lib.hid (And.intro hi2 hi3)
      have Het := Lib.hid (show ∀ e ∈ l, -3000 ≤ e.1 ∧ e.1 ≤ 3000 from fun e he => by have h1 := hi3 e he; have h2 := Hpos.out _ hm e (by rw [hr]; exact he); omega)
      have lc := lt_of_cell c0
      have Hc := Lib.hid hc
      have Hu := Lib.hid c2
      by_cases hk0 : 0 < k
      · have hd1 : decide ((0 : Int) < k) = true := decide_eq_true (by omega)
        obtain ⟨g', off', u', he, b0, b1, b2⟩ := (HbP.out.same hc).at (k - 1) (by omega)
        simp only [Option.some.injEq, Addr.mk.injEq, and_true] at he
        obtain ⟨rfl, rfl⟩ := he
        have hto := hto hk0 hlt
        obtain ⟨⟨t', l'⟩, hr'⟩ : ∃ r, L.getD (k - 1) (0, []) = r := ⟨_, rfl⟩
        rw [hr'] at b0 hto
        simp only at b0 hto
        have hd2 : decide (t < t') = false := decide_eq_false (by omega)
        have hka : (k : Int) - 1 < L.length := by omega
        have hkb : (0 : Int) ≤ (k : Int) - 1 := by omega
        have hkn : ((k : Int) - 1).toNat = k - 1 := by omega
        have hke : (k : Int) - 1 = ((k - 1 : Nat) : Int) := by omega
        unfold maxLen at hul
        clear hr hr' hto hi1 hi2 hi3 hi4 c2 b1 b2 hm hc
        go_wp2_with fail
        go_quiet (fail)
        go_wp2_with fail
        go_loopw [57] (fun jj wr => ∃ m : Nat, m ≤ l.length ∧ jj = .int .i64 (m : Nat) ∧ Chg [] wo wr) (fun jj _ => l.length - (intOf jj).toNat)
        case atStart => exact ⟨0, by omega, rfl, (Chg.refl [] wo).drewN _⟩
        case round =>
          obtain ⟨m, hm, rfl, hcm⟩ := hrel
          by_cases hml : m < l.length
          · have hm1 : (m : Int) < l.length := by omega
            obtain ⟨gu, ou, rfl, _, f0, f1, f2⟩ := (Hu.out.same hcm).cells m hml
            have hem := getD_memE hml
            have hti := Hi.out.2 _ hem
            have hord := pw_at Hi.out.1 m ev0
            obtain ⟨⟨et, ep, ek⟩, her⟩ : ∃ r, l.getD m ev0 = r := ⟨_, rfl⟩
            rw [her] at f0 f1 f2 hti hord
            simp only at f0 f1 f2 hti hord
            have c0' := (hcm.cell lc (by simp)).trans c0
            have hwrp : IntKind.i64.wrap (et + d) = et + d := IntWalk.i64_in _ (by have := Het.out _ hem; rw [her] at this; simp only at this; omega)
            have hd4 : decide (t < et + d) = false := decide_eq_false (by omega)
            have Hcm := Lib.hid hcm
            by_cases hm0 : 0 < m
            · have hd3 : decide ((0 : Int) < m) = true := decide_eq_true (by omega)
              have hord := less_of (hord hm0 hml)
              obtain ⟨gu', ou', hue, _, a0, a1, a2⟩ := (Hu.out.same hcm).cells (m - 1) (by omega)
              simp only [Option.some.injEq, Addr.mk.injEq, and_true] at hue
              obtain ⟨rfl, rfl⟩ := hue
              obtain ⟨⟨et', ep', ek'⟩, her'⟩ : ∃ r, l.getD (m - 1) ev0 = r := ⟨_, rfl⟩
              rw [her'] at a1 hord
              simp only at a1 hord
              have hma : (m : Int) - 1 < l.length := by omega
              have hmb : (0 : Int) ≤ (m : Int) - 1 := by omega
              have hmn : ((m : Int) - 1).toNat = m - 1 := by omega
              have hme : (m : Int) - 1 = ((m - 1 : Nat) : Int) := by omega
              clear her her' hti hem hcm a0 a2
              go_wp2_with fail
              go_quiet (fail)
              go_wp2_with fail
              exact ⟨⟨m + 1, by omega, by go_num, Hcm.out.drewN _⟩, by simp [intOf]; omega⟩
            · obtain rfl : m = 0 := by omega
              simp only [Nat.zero_mul, Nat.add_zero, Nat.zero_add] at f0 f1 f2
              have hd3 : decide ((0 : Int) < 0) = false := rfl
              clear her hti hem hcm hord
              go_wp2_with fail
              go_quiet (fail)
              go_wp2_with fail
              exact ⟨⟨1, by omega, rfl, Hcm.out.drewN _⟩, by simp [intOf]; omega⟩
          · obtain rfl : m = l.length := by omega
            have hm1 : ¬ ((l.length : Int) < l.length) := by omega
            have Hcm := Lib.hid (Hc.out.trans hcm)
            clear hcm
            go_wp2_with fail
            go_roundw
            case rel => exact ⟨k + 1, by omega, by go_num, Hcm.out⟩
            case measure => simp [intOf]; omega
      · obtain rfl : k = 0 := by omega
        simp only [Nat.zero_mul, Nat.add_zero, Nat.zero_add] at c0 c1
        unfold maxLen at hul
        clear hr hto hi1 hi2 hi3 hi4 c2 hm hc
        go_wp2_with fail
        go_quiet (fail)
        go_wp2_with fail
        go_loopw [57] (fun jj wr => ∃ m : Nat, m ≤ l.length ∧ jj = .int .i64 (m : Nat) ∧ Chg [] wo wr) (fun jj _ => l.length - (intOf jj).toNat)
        case atStart => exact ⟨0, by omega, rfl, (Chg.refl [] wo).drewN _⟩
        case round =>
          obtain ⟨m, hm, rfl, hcm⟩ := hrel
          by_cases hml : m < l.length
          · have hm1 : (m : Int) < l.length := by omega
            obtain ⟨gu, ou, rfl, _, f0, f1, f2⟩ := (Hu.out.same hcm).cells m hml
            have hem := getD_memE hml
            have hti := Hi.out.2 _ hem
            have hord := pw_at Hi.out.1 m ev0
            obtain ⟨⟨et, ep, ek⟩, her⟩ : ∃ r, l.getD m ev0 = r := ⟨_, rfl⟩
            rw [her] at f0 f1 f2 hti hord
            simp only at f0 f1 f2 hti hord
            have c0' := (hcm.cell lc (by simp)).trans c0
            have hwrp : IntKind.i64.wrap (et + d) = et + d := IntWalk.i64_in _ (by have := Het.out _ hem; rw [her] at this; simp only at this; omega)
            have hd4 : decide (t < et + d) = false := decide_eq_false (by omega)
            have Hcm := Lib.hid hcm
            by_cases hm0 : 0 < m
            · have hd3 : decide ((0 : Int) < m) = true := decide_eq_true (by omega)
              have hord := less_of (hord hm0 hml)
              obtain ⟨gu', ou', hue, _, a0, a1, a2⟩ := (Hu.out.same hcm).cells (m - 1) (by omega)
              simp only [Option.some.injEq, Addr.mk.injEq, and_true] at hue
              obtain ⟨rfl, rfl⟩ := hue
              obtain ⟨⟨et', ep', ek'⟩, her'⟩ : ∃ r, l.getD (m - 1) ev0 = r := ⟨_, rfl⟩
              rw [her'] at a1 hord
              simp only at a1 hord
              have hma : (m : Int) - 1 < l.length := by omega
              have hmb : (0 : Int) ≤ (m : Int) - 1 := by omega
              have hmn : ((m : Int) - 1).toNat = m - 1 := by omega
              have hme : (m : Int) - 1 = ((m - 1 : Nat) : Int) := by omega
              clear her her' hti hem hcm a0 a2
              go_wp2_with fail
              go_quiet (fail)
              go_wp2_with fail
              exact ⟨⟨m + 1, by omega, by go_num, Hcm.out.drewN _⟩, by simp [intOf]; omega⟩
            · obtain rfl : m = 0 := by omega
              simp only [Nat.zero_mul, Nat.add_zero, Nat.zero_add] at f0 f1 f2
              have hd3 : decide ((0 : Int) < 0) = false := rfl
              clear her hti hem hcm hord
              go_wp2_with fail
              go_quiet (fail)
              go_wp2_with fail
              exact ⟨⟨1, by omega, rfl, Hcm.out.drewN _⟩, by simp [intOf]; omega⟩
          · obtain rfl : m = l.length := by omega
            have hm1 : ¬ ((l.length : Int) < l.length) := by omega
            have Hcm := Lib.hid (Hc.out.trans hcm)
            clear hcm
            go_wp2_with fail
            go_roundw
            case rel => exact ⟨1, by omega, rfl, Hcm.out⟩
            case measure => simp [intOf]; omega
    · obtain rfl : k = L.length := by omega
      have hk1 : ¬ ((L.length : Int) < L.length) := by omega
      have Hc := Lib.hid (Hc3.out.trans hc)
      clear hc
      go_wp2_with fail
      refine (watchExample_any _).mono ?_
      rintro e w4 ⟨rfl, hc4⟩
      have Hc4 := Lib.hid (Hc.out.trans hc4)
      clear hc4
      go_wp2_with fail
      go_ret
      exact ⟨rfl, Hc4.out⟩
end Go.Proofs.Ytdekngkcojfhmaa
