/- Add: the walk. -/
import Derived.Test.YtaciceaipmclgaaFixP
namespace Go.Proofs.Ytaciceaipmclgaa
open Go.RowKit
set_option linter.unusedVariables false
set_option maxRecDepth 100000 in
set_option maxHeartbeats 4000000 in
theorem add_any (B b gs : Nat) (R : Rules) (S : List Nat) (i : Nat) (r : Rule) (u : Value) (p : Nat → Prop) (w : World) (h : Solv B b gs R S w) (hi : i < R.length) (hu : Ints p w u r.2) (hr : r.2.length ≤ 17592186044416) :
    Calls Try.prog 12 #[.pointer (some ⟨b, 0, none⟩), .int .i64 (i : Int), .agg #[.int .i64 r.1, u]] w (AddPost B b gs R S i r w) := by
  obtain ⟨a3, cap3, rfl⟩ := SlF.shape hu
  obtain ⟨i0, hi0, hz0, hz1, hz2⟩ := info_parts Try.infoRule
  have Hi0 := Lib.hid hi0
  have Hz0 := Lib.hid hz0
  have Hz1 := Lib.hid hz1
  have Hz2 := Lib.hid hz2
  have hn60 := h.ok.size
  have hl20 := h.ok.rules _ (getD_memb' hi (d := []))
  obtain ⟨rv, c0, hru⟩ := h.c0
  have c1 := h.c1
  have f0 := h.f0
  have lb := lt_of_cell c0
  obtain ⟨av, capv, rfl⟩ : ∃ a cap, rv = .slice a R.length cap := by obtain ⟨a, cap, h, _⟩ := hru; exact ⟨a, cap, h⟩
  have H := Lib.hid h
  have Hru := Lib.hid hru
  have Hu := Lib.hid hu
  have hi1 : (i : Int) < R.length := by omega
  have hi0' : (0 : Int) ≤ (i : Int) := by omega
  have hc0 : Chg [] w (w.alloc (.cells #[.int .i64 r.1, .slice a3 r.2.length cap3] 31)) := (Chg.refl [] w).alloc _
  have Hc0 := Lib.hid hc0
  clear hi0 hz0 hz1 hz2 h hru hu hc0
  go_enter Try.func12, Try.ntmps12
  go_wp2_with fail
  refine (cloneRules_any _ _ R _ (Hru.out.kept Hc0.out (by simp)) H.out.ok).mono ?_
  rintro e w2 ⟨V, us, rfl, h2, c2⟩
  have c2' := Hc0.out.trans c2
  have s1 : w2.cell? ⟨w.heap.size, 0, none⟩ = some (.int .i64 r.1) := (c2.cell (p := ⟨w.heap.size, 0, none⟩) (by simp) (by simp)).trans (cell_of_heap (heap_at _ _ _ rfl) rfl)
  have s2 : w2.cell? ⟨w.heap.size, 1, none⟩ = some (.slice a3 r.2.length cap3) := (c2.cell (p := ⟨w.heap.size, 1, none⟩) (by simp) (by simp)).trans (cell_of_heap (heap_at _ _ _ rfl) rfl)
  have hgr : (w.alloc (.cells #[.int .i64 r.1, .slice a3 r.2.length cap3] 31)).heap.size = w.heap.size + 1 := by simp
  rw [hgr] at h2
  have hsz0 := lt_of_cell s1
  have hlen : (us i).length = (R.getD i []).length := h2.len i hi
  obtain ⟨k, hk⟩ : ∃ k, (R.getD i []).length = k := ⟨_, rfl⟩
  rw [hk] at hlen hl20
  obtain ⟨ai, capi, hvi⟩ := own_shape (h2.own i hi)
  rw [hlen] at hvi
  have s0 := h2.row.cell hi
  have sf := h2.row.frozen i
  rw [hvi] at s0
  have lgr := lt_of_cell s0
  have hown0 := h2.own i hi
  rw [hvi, hlen] at hown0
  have hob := fun g' (hg' : (Value.slice ai k capi).ownBlock = some g') => (ownsRow_lt hown0 hg')
  have Hvi := Lib.hid hvi
  have Hlen := Lib.hid hlen
  have Hk := Lib.hid hk
  have Hob := Lib.hid hob
  have Hown0 := Lib.hid hown0
  have Hc2 := Lib.hid c2'
  have Hkd := Lib.hid (h2.kept (w' := w2.drew) ((Chg.refl [] w2).drew) (by simp))
  clear hvi hlen hob hown0 h2 c2 c2' hk
  have hgrlt : w.heap.size + 1 < w2.heap.size := lgr
  go_wp2_with fail
  go_region_law (first
    | (rw [if_pos (by simp [Region.wanted])]; go_simp; refine (sClone_any p w2.drew _ r.2.length (fun j => .int .i64 (r.2.getD j 0)) (SlF.kept Hu.out Hc2.out.drew (by simp)) (fun j hj => by simp [Value.oneCell']) (by omega)).mono ?_; rintro e w3 ⟨v3, rfl, hu3, c3⟩; obtain ⟨au3, cu3, rfl⟩ := SlF.shape hu3; have kb3 : w3.cell? ⟨w.heap.size + 1, i, none⟩ = some (.slice ai k capi) := (c3.cell (p := ⟨w.heap.size + 1, i, none⟩) hgrlt (by simp)).trans s0; have kf3 : w3.frozen? ⟨w.heap.size + 1, i, none⟩ = false := (c3.frozen (p := ⟨w.heap.size + 1, i, none⟩) hgrlt (by simp)).trans sf; have hz3 : w.heap.size + 1 < w3.heap.size := lt_of_cell kb3; have t1 : w3.cell? ⟨w.heap.size, 0, none⟩ = some (.int .i64 r.1) := (c3.cell (p := ⟨w.heap.size, 0, none⟩) hsz0 (by simp)).trans s1; have t2 : w3.cell? ⟨w.heap.size, 1, none⟩ = some (.slice a3 r.2.length cap3) := (c3.cell (p := ⟨w.heap.size, 1, none⟩) hsz0 (by simp)).trans s2; have Hrow3 := Lib.hid (ownsRow_block (w' := w3) (Hown0.out) (fun g' hg' hl' => c3.block g' hl' (by simp))); have Hu3 := Lib.hid hu3; have Hc3 := Lib.hid c3; clear hu3 c3)
    | (refine step_append_lies _ (by rfl) _ _ _ (by rfl) (w.heap.size + 1 + 1) 31 i0 (.agg #[.int .i64 0, .slice none 0 0]) 2 32 Try.underlying39 Hi0.out Hz0.out Hz1.out Hz2.out rfl (by omega) (.slice ai k capi) k (flatP (us i)) (by rfl) (Hrow3.out.alloc _) ⟨w3.heap.size, 0, none⟩ 1 1 [.int .i64 r.1, .slice au3 r.2.length cu3] (by rfl) (by rfl) (World.news_of_block (cs := #[.int .i64 r.1, .slice au3 r.2.length cu3]) (t := 31) (fr := (0, 0)) (heap_alloc_new w3 _)) (by simp [Value.oneCell']) (by omega) (by unfold maxLen; omega) (by omega) (by simp; omega) (w3.heap.size + 1) (by simp) ?_; intro gg cap4 w4 hown4 hgrow4 hat4 hlt4; have hc4 := ((Chg.refl (Value.slice ai k capi).ownBlock.toList w3).alloc (.cells #[.int .i64 r.1, .slice au3 r.2.length cu3] 31)).grown hgrow4 (fun k h => Or.inl (by simp [h])); have hnot : w.heap.size + 1 ∉ (Value.slice ai k capi).ownBlock.toList := (fun h => absurd (Hob.out _ (by simpa using h)).1 (Nat.not_succ_le_self _)); have kc4 : w4.cell? ⟨w.heap.size + 1, i, none⟩ = some (.slice ai k capi) := (hc4.cell (p := ⟨w.heap.size + 1, i, none⟩) hz3 hnot).trans kb3; have kf4 : w4.frozen? ⟨w.heap.size + 1, i, none⟩ = false := (hc4.frozen (p := ⟨w.heap.size + 1, i, none⟩) hz3 hnot).trans kf3; have Hown4 := Lib.hid hown4; have Hgr4 := Lib.hid hgrow4; have Hat4 := Lib.hid hat4; clear hown4 hgrow4 hat4 hc4 hnot))
  all_goals
    have hcl := Hkd.out.step hi r (u := .slice au3 r.2.length cu3) (v' := .slice (some ⟨gg, 0, none⟩) (k + 1) cap4) (w2 := w4) Hc3.out Hu3.out (by rw [Hlen.out]; exact Hown4.out) (by rw [Hvi.out]; exact Hgr4.out) (by rw [Hvi.out]; exact Hat4.out.elim (fun h => Or.inl h.symm) (fun h => Or.inr (congrArg some h)))
    have hrul : RulesAt (fun g => w.heap.size + 1 ≤ g ∧ g < (w4.setCell ⟨w.heap.size + 1, i, none⟩ (.slice (some ⟨gg, 0, none⟩) (k + 1) cap4)).heap.size) (w4.setCell ⟨w.heap.size + 1, i, none⟩ (.slice (some ⟨gg, 0, none⟩) (k + 1) cap4)) (.slice (some ⟨w.heap.size + 1, 0, none⟩) R.length R.length) (addR R i r) := by
      have := ClV.rules (R := addR R i r) (by rw [addR_len]; exact hcl) (fun a ha => by rw [addR_getD hi]) (by rw [addR_len]; omega) (fun l hl => by
        rcases addR_mem hi hl with h | h
        · have := H.out.ok.rules l h; omega
        · rw [h, List.length_append, List.length_singleton, Hk.out]; omega)
      rw [addR_len] at this
      exact this
    have hch : Chg [] w (w4.setCell ⟨w.heap.size + 1, i, none⟩ (.slice (some ⟨gg, 0, none⟩) (k + 1) cap4)) := (((Hc2.out.drew.trans Hc3.out).alloc _).grown Hgr4.out (fun g hg => Or.inr (by have := (Hob.out g hg).1; omega))).setCell (Or.inr (Nat.le_succ _)) _
    have Hrul := Lib.hid hrul
    have Hch := Lib.hid hch
    clear hcl hrul hch
    go_wp2_with fail
    refine (check_any _ _ (addR R i r) _ Hrul.out).mono ?_
    rintro e w5 ⟨c, rfl, hc, c5⟩
    have Hc5 := Lib.hid (Hch.out.trans c5)
    have Hrul5 := Lib.hid (Hrul.out.kept c5 (by simp))
    have Hh5 := Lib.hid c5.size
    clear c5
    by_cases hcz : c = 0
    · subst hcz
      have Hok := Lib.hid (hc.1 rfl)
      clear hc
      have k0 := (Hc5.out.cell (p := ⟨b, 0, none⟩) lb (by simp)).trans c0
      have k1 := (Hc5.out.cell (p := ⟨b, 1, none⟩) lb (by simp)).trans c1
      have kf := (Hc5.out.frozen (p := ⟨b, 0, none⟩) lb (by simp)).trans f0
      have lb5 := lt_of_cell k0
      have hprop := add_prop (gr := w.heap.size + 1) H.out hi Hok.out Hc5.out (Hrul5.out.imp (q := fun g => w.heap.size + 1 ≤ g ∧ g < w5.heap.size) (fun g hg => ⟨hg.1, Nat.lt_of_lt_of_le hg.2 Hh5.out⟩)) (Nat.le_succ _) k0 k1
      have Hprop := Lib.hid hprop
      clear hprop
      go_wp2_with fail
      refine (Hprop.out).mono ?_
      rintro e w8 ⟨rfl, S', hsol, hsub, hch⟩
      have Hsol := Lib.hid (And.intro hsol (And.intro hsub hch))
      clear hsol hsub hch
      go_wp2
      go_ret
      exact ⟨Or.inl ⟨S', rfl, Hsol.out.1, Hsol.out.2.1⟩, Hsol.out.2.2⟩
    · have hcb : (c != 0) = true := by rw [bne_iff_ne]; exact hcz
      have Hcz := Lib.hid hcz
      clear hcz hc
      go_wp2
      go_ret
      exact ⟨Or.inr ⟨c, Hcz.out, rfl, H.out.kept Hc5.out⟩, Hc5.out.nil⟩
end Go.Proofs.Ytaciceaipmclgaa
