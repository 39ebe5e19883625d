/- Batches compared: glossatorref3.EqualBatches. -/
import Derived.Test.YtdekngkcojfhmaaFwS
namespace Go.Proofs.Ytdekngkcojfhmaa
open Go.RowKit Go.ChangeMaps Go.MapKept Go.Shelf
set_option linter.unusedVariables false
set_option linter.unusedSimpArgs false
def rdBat (p : Nat → Prop) (w : World) (ad : Addr) (b : Bt) : Prop := w.cell? ad = some (.int .i64 b.1) ∧ ∃ u, w.cell? ⟨ad.block, ad.off + 1, none⟩ = some u ∧ EvsP p w u b.2
def BatP (p : Nat → Prop) (w : World) (v : Value) (bs : List Bt) : Prop := SlR p 2 (rdBat p) w v bs
theorem BatP.same {p : Nat → Prop} {w w' : World} {v : Value} {bs : List Bt} (h : BatP p w v bs) (hc : Chg [] w w') : BatP p w' v bs :=
  SlR.imp h (fun _ h => h) fun ad b _ hx => by
    obtain ⟨h1, u, h2, h3⟩ := hx
    have l := lt_of_cell h1
    exact ⟨(hc.cell l (by simp)).trans h1, u, (hc.cell (p := ⟨ad.block, ad.off + 1, none⟩) l (by simp)).trans h2, h3.same hc⟩
theorem BatO.bats {w : World} {base : Nat} {v : Value} {bs : List Bt} (h : BatO w base v bs) : BatP (fun _ => True) w v bs := by
  obtain ⟨a, cap, rfl, hl⟩ := h.shape
  have h' := h
  obtain ⟨us, h1, h2, h3⟩ := h'
  have hcap : bs.length ≤ cap ∧ cap ≤ maxLen := by
    rcases h2.2 with ⟨hv, hx⟩ | ⟨g, cap', cur', hv, hge, hh, h3, h4, h5, h6⟩
    · simp only [Value.slice.injEq] at hv
      obtain ⟨_, _, rfl⟩ := hv
      rw [← h1, hx]
      exact ⟨by simp, by simp⟩
    · simp only [Value.slice.injEq] at hv
      obtain ⟨_, _, rfl⟩ := hv
      exact ⟨by omega, by omega⟩
  refine ⟨a, cap, rfl, hcap.1, hcap.2, fun h0 => ?_⟩
  obtain ⟨g, u, rfl, _, _, _, _, _⟩ := h.at 0 h0 (0, [])
  refine ⟨g, 0, rfl, trivial, fun j hj => ?_⟩
  obtain ⟨g', u, he, _, _, c0, c1, c2⟩ := h.at j hj (0, [])
  simp only [Option.some.injEq, Addr.mk.injEq, and_true] at he
  obtain rfl := he
  rw [List.getD_eq_getElem?_getD, List.getElem?_eq_getElem hj] at c0 c2
  rw [Nat.zero_add]
  exact ⟨c0, u, c1, c2.evs.imp fun _ _ => trivial⟩
theorem BatP.at {p : Nat → Prop} {w : World} {a : Option Addr} {n cap : Nat} {bs : List Bt} (h : BatP p w (.slice a n cap) bs) (i : Nat) (hi : i < bs.length) :
    ∃ g off u, a = some ⟨g, off, none⟩ ∧ w.cell? ⟨g, off + i * 2, none⟩ = some (.int .i64 (bs.getD i (0, [])).1) ∧ w.cell? ⟨g, off + i * 2 + 1, none⟩ = some u ∧ EvsP p w u (bs.getD i (0, [])).2 := by
  obtain ⟨g, off, rfl, hp, h1, u, h2, h3⟩ := SlR.at h i hi (0, [])
  exact ⟨g, off, u, rfl, h1, h2, h3⟩
set_option maxRecDepth 100000 in
set_option maxHeartbeats 8000000 in
theorem eqBats_any (p q : Nat → Prop) (w : World) (v1 v2 : Value) (E : List Bt) (h1 : BatP p w v1 E) (h2 : BatP q w v2 E) :
    Calls Try.prog 17 #[v1, v2] w fun e w' => e = .returned (.bool true) ∧ Chg [] w w' := by
  obtain ⟨a1, cap1, rfl, hml, hcp1⟩ := SlR.shape h1
  obtain ⟨a2, cap2, rfl, _, hcp2⟩ := SlR.shape h2
  have H1 := Lib.hid h1
  have H2 := Lib.hid h2
  unfold maxLen at hml
  clear h1 h2
  go_enter Try.func17, Try.ntmps17
  go_wp2_with fail
  go_loopw [13] (fun i wr => ∃ k : Nat, k ≤ E.length ∧ i = .int .i64 (k : Nat) ∧ Chg [] w wr) (fun i _ => E.length - (intOf i).toNat)
  case atStart => exact ⟨0, by omega, rfl, Chg.refl _ _⟩
  case round =>
    obtain ⟨k, hk, rfl, hc⟩ := hrel
    by_cases hlt : k < E.length
    · obtain ⟨g, off, u, rfl, c0, c1, c2⟩ := (H1.out.same hc).at k hlt
      obtain ⟨g2, off2, u2, rfl, d0, d1, d2⟩ := (H2.out.same hc).at k hlt
      obtain ⟨⟨t, es⟩, hr⟩ : ∃ r, E.getD k (0, []) = r := ⟨_, rfl⟩
      rw [hr] at c0 c2 d0 d2
      simp only at c0 c2 d0 d2
      have Hc := Lib.hid hc
      have Heq := Lib.hid (fun W (hW : Chg [] wr W) => eqEvs_any p q W u u2 es (c2.same hW) (d2.same hW))
      have lc := lt_of_cell c0
      have ld := lt_of_cell d0
      have hk1 : (k : Int) < E.length := by omega
      have htt : (t != t) = false := by simp
      clear hr hc c2 d2
      go_wp2_with fail
      go_region_held3 (fun w' => w'.cell? ⟨g, off + k * 2, none⟩ = some (.int .i64 t) ∧ w'.cell? ⟨g, off + k * 2 + 1, none⟩ = some u ∧ w'.cell? ⟨g2, off2 + k * 2, none⟩ = some (.int .i64 t) ∧ w'.cell? ⟨g2, off2 + k * 2 + 1, none⟩ = some u2)
        (first | (go_keep; done) | (exact ⟨a0, a1, a2, a3⟩))
        (first | (go_at_call 18; refine (Heq.out _ ((Chg.refl [] wr).drew)).mono ?_; rintro e wA ⟨rfl, cA'⟩; have cA : Chg [] wr wA := ((Chg.refl [] wr).drew).trans cA'; have a0 := (cA.cell lc (by simp)).trans c0; have a1 := (cA.cell (p := ⟨g, off + k * 2 + 1, none⟩) lc (by simp)).trans c1; have a2 := (cA.cell ld (by simp)).trans d0; have a3 := (cA.cell (p := ⟨g2, off2 + k * 2 + 1, none⟩) ld (by simp)).trans d1; have HcA := Lib.hid (Hc.out.trans cA); clear cA cA'))
      all_goals
        try simp only [List.getElem_toArray, List.getElem_cons_zero, List.getElem_cons_succ]
        go_wp2_with fail
        exact ⟨⟨k + 1, by omega, by go_num, HcA.out⟩, by simp [intOf]; omega⟩
    · obtain rfl : k = E.length := by omega
      have hk1 : ¬ ((E.length : Int) < E.length) := by omega
      have Hc := Lib.hid hc
      clear hc
      go_wp2_with fail
      go_ret
      exact ⟨rfl, Hc.out⟩
end Go.Proofs.Ytdekngkcojfhmaa
