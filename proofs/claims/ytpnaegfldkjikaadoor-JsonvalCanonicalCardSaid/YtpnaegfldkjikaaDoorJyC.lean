/- JSON texts, any text: unicodeEscape; what a rune's bytes cost. -/
import Derived.Test.YtpnaegfldkjikaaDoorJyB
import Derived.Lib.Bytes2
namespace Go.Proofs.YtpnaegfldkjikaaDoor.Jv
open Go.RowKit Go.ChangeMaps Go.MapKept
set_option linter.unusedVariables false
set_option linter.unusedSimpArgs false
/-- what the decoder reads besides itself: the errors' variables, the tables -/
def DE (db : Nat) (w : World) : Prop := Er w ∧ Tb w ∧ 5 < db ∧ Tryd.laysValid_ren.g 3 < db ∧ Tryd.laysValid_ren.g 4 < db
theorem DE.kept {S : Nat → Prop} {db : Nat} {w w' : World} (h : DE db w) (hc : ChgP S w w') (hS : ∀ k, S k → db ≤ k) : DE db w' := by
  obtain ⟨h1, h2, h3, h4, h5⟩ := h
  refine ⟨?_, h2.kept hc (fun h => by have := hS _ h; omega) (fun h => by have := hS _ h; omega), h3, h4, h5⟩
  obtain ⟨a, b, ha, hb, hab⟩ := h1
  exact ⟨a, b, (hc.cell (lt_of_cell ha) (fun h => by have := hS _ h; simp at this; omega)).trans ha, (hc.cell (lt_of_cell hb) (fun h => by have := hS _ h; simp at this; omega)).trans hb, hab⟩
theorem DE.db {db : Nat} {w w' : World} (h : DE db w) (hc : Chg [db] w w') : DE db w' := h.kept hc.toP (fun k hk => by simp at hk; omega)
theorem DE.new {db : Nat} {w w' : World} (h : DE db w) (hc : Chg [] w w') : DE db w' := h.kept (S := fun _ => False) hc.p (fun k hk => hk.elim)
theorem escN_six (a : Nat) : (escN a).length ≤ 6 := by
  unfold escN
  repeat' split
  all_goals simp
theorem escL_big : ∀ l : List UInt8, (∀ c ∈ l, 128 ≤ c.toNat) → (escL l).length = l.length
  | [], _ => rfl
  | c :: l, h => by
    have h1 := h c (by simp)
    rw [escL, List.length_append, escL_big l (fun x hx => h x (by simp [hx])), escN_plain (by omega)]
    simp
    omega
theorem rune_cells (r : Int) : Lib.runeCells r = Lib.byteCells (Lib.encodeRune r) := by
  unfold Lib.runeCells Lib.byteCells Lib.encodeRune
  rw [List.map_map]
  refine List.map_congr_left fun x hx => ?_
  have h := Lib.encodeRuneZ_byte r x hx
  have : (x.toNat.toUInt8.toNat : Int) = x := by
    simp [Nat.toUInt8, UInt8.toNat_ofNat']
    omega
  simp only [Function.comp, this]
theorem rune_esc (r : Int) : (escL (Lib.encodeRune r)).length ≤ 6 ∧ (Lib.encodeRune r).length ≤ 4 := by
  have hl : (Lib.encodeRune r).length ≤ 4 := by
    unfold Lib.encodeRune
    rw [List.length_map]
    exact (Lib.encodeRuneZ_length r).2
  refine ⟨?_, hl⟩
  by_cases h : 0 ≤ r ∧ r ≤ 127
  · unfold Lib.encodeRune
    rw [Lib.encodeRuneZ_one h.1 h.2]
    simp only [List.map_cons, List.map_nil, escL, List.append_nil]
    exact escN_six _
  · rw [escL_big]
    · omega
    · intro c hc
      unfold Lib.encodeRune at hc
      rw [List.mem_map] at hc
      obtain ⟨x, hx, rfl⟩ := hc
      have h2 := Lib.encodeRuneZ_byte r x hx
      have h3 : 128 ≤ x := by
        unfold Lib.encodeRuneZ at hx
        rw [if_neg h] at hx
        split at hx
        · simp at hx; omega
        split at hx
        · simp at hx; omega
        split at hx
        · simp at hx; omega
        · simp at hx; omega
      simp [Nat.toUInt8, UInt8.toNat_ofNat']
      omega
/-- what unicodeEscape answers, on any text -/
def UnPost (db : Nat) (s : ByteArray) (o : Nat) (w : World) (e : Ending) (w' : World) : Prop :=
  (e = .panicked sx ∧ Chg [db] w w') ∨ ∃ (n : Int) (q : Nat), -2147483648 ≤ n ∧ n ≤ 2147483647 ∧ e = .returned (.int .i32 n) ∧ o + 4 ≤ q ∧ q ≤ s.size ∧ DS w' db s q ∧ Chg [db] w w'
set_option maxRecDepth 100000 in
set_option maxHeartbeats 4000000 in
theorem unesc_any (db : Nat) (s : ByteArray) (o : Nat) (w : World) (h : DS w db s o) (ho : o ≤ s.size) (hs : s.size ≤ 100000) (hE : DE db w) :
    Calls Tryd.prog 61 #[.pointer (some ⟨db, 0, none⟩)] w (UnPost db s o w) := by
  have Hx := Lib.hid (fun o W (hd : DS W db s o) (ho : o ≤ s.size) (hE : DE db W) => hex4_any db s o W hd ho hs hE.1)
  have He := Lib.hid (fun b W => expect_any db b W)
  have H := Lib.hid (And.intro h (And.intro ho hE))
  clear h ho hE
  go_enter Tryd.func61, Tryd.ntmps61
  go_wp2_with fail
  refine (Hx.out o w H.out.1 H.out.2.1 H.out.2.2).mono ?_
  rintro e w1 (⟨rfl, hc⟩ | ⟨n, hn, rfl, ho4, hd1, hc1⟩)
  · have Hc := Lib.hid hc
    clear hc
    go_wp2_with fail
    exact ⟨rfl, Or.inl ⟨rfl, Hc.out⟩⟩
  have H1 := Lib.hid (And.intro hd1 (And.intro ho4 (And.intro hc1 (H.out.2.2.db hc1))))
  clear hd1 hc1 ho4
  obtain ⟨z, hz⟩ : ∃ z : Int, z = (n : Nat) := ⟨_, rfl⟩
  rw [← hz]
  have hz0 : 0 ≤ z := by omega
  have hz1 : z < 65536 := by omega
  clear hz hn
  by_cases hsur : 55296 ≤ z ∧ z ≤ 56319
  · obtain ⟨hs0, hs1⟩ := hsur
    have Hac := Lib.hid (accept_any db s ⟨#[92, 117]⟩ (o + 4) w1 H1.out.1 H1.out.2.1 hs (by show 2 ≤ 100; decide))
    have hpl := fun h => Lib.hasPrefix_le (s := s.data.toList.drop (o + 4)) (p := (ByteArray.mk #[92, 117]).data.toList) h
    generalize Lib.hasPrefix (s.data.toList.drop (o + 4)) (ByteArray.mk #[92, 117]).data.toList = q at Hac hpl
    have Hpl := Lib.hid hpl
    clear hpl
    go_wp2_with fail
    refine Hac.out.mono ?_
    rintro e w2 ⟨rfl, hd2, hc2⟩
    have H2 := Lib.hid (And.intro hd2 (And.intro (H1.out.2.2.1.trans hc2) (H1.out.2.2.2.db hc2)))
    clear hd2 hc2
    cases q with
    | false =>
      go_wp2_with fail
      refine (He.out false w2).mono ?_
      rintro e w3 ⟨rfl, rfl⟩
      go_wp2_with fail
      exact ⟨rfl, Or.inl ⟨rfl, H2.out.2.1⟩⟩
    | true =>
      have ho6 : o + 4 + 2 ≤ s.size := by
        have h1 : 2 ≤ (s.data.toList.drop (o + 4)).length := Hpl.out rfl
        rw [List.length_drop] at h1
        have h2 : s.data.toList.length = s.size := rfl
        omega
      go_wp2_with fail
      refine (He.out true w2).mono ?_
      rintro e w3 ⟨rfl, rfl⟩
      go_wp2_with fail
      refine (Hx.out (o + 4 + 2) w3 H2.out.1 ho6 H2.out.2.2).mono ?_
      rintro e w4 (⟨rfl, hc⟩ | ⟨m, hm, rfl, ho10, hd4, hc4⟩)
      · have Hc := Lib.hid (H2.out.2.1.trans hc)
        clear hc
        go_wp2_with fail
        exact ⟨rfl, Or.inl ⟨rfl, Hc.out⟩⟩
      have H4 := Lib.hid (And.intro hd4 (H2.out.2.1.trans hc4))
      have Ho := Lib.hid ho10
      clear hd4 hc4 ho6 ho10
      obtain ⟨y, hy⟩ : ∃ y : Int, y = (m : Nat) := ⟨_, rfl⟩
      rw [← hy]
      have hy0 : 0 ≤ y := by omega
      have hy1 : y < 65536 := by omega
      clear hy hm
      by_cases hl0 : 56320 ≤ y
      · by_cases hl1 : y ≤ 57343
        · go_wp2_with fail
          refine (He.out true w4).mono ?_
          rintro e w5 ⟨rfl, rfl⟩
          go_wp2_with fail
          go_ret
          exact Or.inr ⟨_, o + 4 + 2 + 4, by omega, by omega, rfl, by omega, Ho.out, H4.out⟩
        · have hd1 : decide (y ≤ 57343) = false := decide_eq_false hl1
          go_wp2_with fail
          refine (He.out false w4).mono ?_
          rintro e w5 ⟨rfl, rfl⟩
          go_wp2_with fail
          exact ⟨rfl, Or.inl ⟨rfl, H4.out.2⟩⟩
      · go_wp2_with fail
        refine (He.out false w4).mono ?_
        rintro e w5 ⟨rfl, rfl⟩
        go_wp2_with fail
        exact ⟨rfl, Or.inl ⟨rfl, H4.out.2⟩⟩
  · have hfin : Hid (DS w1 db s (o + 4) ∧ Chg [db] w w1) := Lib.hid ⟨H1.out.1, H1.out.2.2.1⟩
    by_cases ha : z < 55296
    · have hb : z < 56320 := by omega
      clear hsur
      go_wp2_with fail
      refine (He.out true w1).mono ?_
      rintro e w5 ⟨rfl, rfl⟩
      go_wp2_with fail
      go_ret
      exact Or.inr ⟨z, o + 4, by omega, by omega, rfl, Nat.le_refl _, H1.out.2.1, hfin.out⟩
    · have hb : 56319 < z := by omega
      clear hsur
      by_cases hc : 57343 < z
      · go_wp2_with fail
        refine (He.out true w1).mono ?_
        rintro e w5 ⟨rfl, rfl⟩
        go_wp2_with fail
        go_ret
        exact Or.inr ⟨z, o + 4, by omega, by omega, rfl, Nat.le_refl _, H1.out.2.1, hfin.out⟩
      · have hd1 : decide (z < 56320) = false := decide_eq_false (by omega)
        have hd2 : decide (57343 < z) = false := decide_eq_false hc
        go_wp2_with fail
        refine (He.out false w1).mono ?_
        rintro e w5 ⟨rfl, rfl⟩
        go_wp2_with fail
        exact ⟨rfl, Or.inl ⟨rfl, hfin.out.2⟩⟩
end Go.Proofs.YtpnaegfldkjikaaDoor.Jv
