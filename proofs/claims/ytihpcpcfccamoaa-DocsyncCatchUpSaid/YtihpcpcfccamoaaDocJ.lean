/- Open; NewRoom. -/
import Derived.Test.YtihpcpcfccamoaaDocI
namespace Go.Proofs.Ytihpcpcfccamoaa
open Go.RowKit
set_option linter.unusedVariables false
set_option linter.unusedSimpArgs false
variable {B : Nat} {P q : Nat → Prop} {w w2 : World} {rb db dc pb : Nat} {dcs : Array Value} {cv hv rv : Value} {hvs : List Value} {nm : ByteArray} {cl : List Int} {ver : Int} {text : ByteArray} {hist : List (List Edit)} {rd : List Int}
set_option maxRecDepth 100000 in
set_option maxHeartbeats 4000000 in
theorem open_any (h : RoomAt B P w rb nm cl ver text hist rd) (c : Int) (hc : c ∈ cl) (hs : rd.Pairwise (· ≤ ·)) (hx : ∀ y ∈ rd, y < c) (hn : rd.length ≤ 10) :
    Calls Try.prog 8 #[.pointer (some ⟨rb, 0, none⟩), .int .i64 c, .string nm] w fun e w' => e = .returned (.tuple #[.agg #[.string nm, .int .i64 ver, .string text], .int .i64 0]) ∧ (∃ P', RoomAt B P' w' rb nm cl ver text hist (rd ++ [c]) ∧ ∀ k, P' k → P k ∨ w.heap.size ≤ k) ∧ ChgP P w w' := by
  obtain ⟨q, db, dc, pb, dcs, cv, hv, rv, hvs, h⟩ := h
  have H := Lib.hid h
  have Hc := Lib.hid hc
  have Hs := Lib.hid hs
  have Hx := Lib.hid hx
  obtain ⟨a, cap, hcv, _⟩ := ints_of_own h.rds
  subst hcv
  clear h hc hs hx
  go_enter Try.func8, Try.ntmps8
  go_wp2_with fail
  refine (forClient_any (H.out.same ((Chg.refl [] w).alloc _)) c Hc.out).mono ?_
  rintro e w1 ⟨rfl, c1⟩
  have hcw1 := ((Chg.refl [] w).alloc (.cells #[.string ⟨#[]⟩, .int .i64 0, .string ⟨#[]⟩] 30 (0, 0))).new c1
  have hb1 := (c1.block w.heap.size (by simp) (by simp)).trans (heap_at w (.cells #[.string ⟨#[]⟩, .int .i64 0, .string ⟨#[]⟩] 30 (0, 0)) _ rfl)
  have H1 := Lib.hid (H.out.same hcw1)
  have C1 := Lib.hid hcw1
  have Hb1 := Lib.hid hb1
  clear c1 hcw1 hb1
  obtain ⟨x0, x1, x2, x3, x4⟩ := H1.out.dcells
  obtain ⟨k1, k2, k3⟩ := H1.out.lts
  go_wp2_with fail
  refine (searchI_any H1.out.rds c (by omega) Hs.out Hx.out).mono ?_
  rintro e w2 ⟨rfl, c2⟩
  have H2 := Lib.hid (H1.out.same c2)
  have C2 := Lib.hid (C1.out.trans c2)
  have Hb2 := Lib.hid ((c2.block _ (lt_of_obj Hb1.out) (by simp)).trans Hb1.out)
  clear c2 x0 x1 x2 x3 x4 k1 k2 k3
  obtain ⟨x0, x1, x2, x3, x4⟩ := H2.out.dcells
  obtain ⟨k1, k2, k3⟩ := H2.out.lts
  have hBw : B ≤ w2.heap.size := by have := H2.out.pB rb (H2.out.foot _ (Or.inl rfl)); omega
  go_wp2_with fail
  refine (insertEnd_any (v := .slice a rd.length cap) (H2.out.rds.alloc _) c w2.heap.size 1 (heap_at _ (.cells #[.int .i64 c] 3 (0, 0)) _ rfl) hn (by simp; omega)).mono ?_
  rintro e w3 ⟨gg, cap3, rfl, hown3, hc3, hat3⟩
  have hc23 : ChgP (fun k => Value.ownBlock (.slice a rd.length cap) = some k) w2 w3 := ((ChgP.refl _ w2).alloc _).trans hc3
  have hX := H2.out.putRd (c := c) hc23 hown3 (fun k hk => by
    simp only [Value.ownBlock, Option.some.injEq] at hk
    subst hk
    exact hat3.imp id (fun e => by simp at e; omega))
  have hpb3 := (hc23.block _ k3 (own_ne H2.out.rds H2.out.doc (by decide))).trans H2.out.doc
  have z0 : w3.frozen? ⟨pb, 4, none⟩ = false := frozen_of_heap hpb3
  have z1 : w3.cell? ⟨pb, 4, none⟩ = some (.slice a rd.length cap) := cell_of_heap hpb3 rfl
  have hrb3 : ¬ Value.ownBlock (.slice a rd.length cap) = some w.heap.size := fun e => by have := (H.out.rds.lt _ e).2; omega
  have hpbl : pb < w.heap.size := H.out.lts.2.2
  have hb4 : (w3.setCell ⟨pb, 4, none⟩ (.slice (some ⟨gg, 0, none⟩) (rd.length + 1) cap3)).heap[w.heap.size]? = some (.cells #[.string ⟨#[]⟩, .int .i64 0, .string ⟨#[]⟩] 30 (0, 0)) :=
    (heap_setCell_ne _ _ _ _ (by simp; omega)).trans ((hc23.block _ (lt_of_obj Hb2.out) hrb3).trans Hb2.out)
  obtain ⟨y0, y1, y2, f0, f1, f2⟩ := three hb4
  obtain ⟨d0, d1, d2, d3, d4⟩ := hX.dcells
  have hcP : ChgP P w (w3.setCell ⟨pb, 4, none⟩ (.slice (some ⟨gg, 0, none⟩) (rd.length + 1) cap3)) := ((C2.out.p.trans (hc23.mono fun k hk => H2.out.foot k (Or.inr (Or.inr (Or.inr (Or.inr (Or.inr hk))))))).setCell (p := ⟨pb, 4, none⟩) (Or.inl (H2.out.foot pb (Or.inr (Or.inr (Or.inl rfl))))) _)
  have HX := Lib.hid hX
  have HcP := Lib.hid hcP
  have Hb4 := Lib.hid hb4
  have hsz2 := C2.out.size
  clear hX hcP hc3 hc23 hpb3 hown3 hat3 hb4 hrb3
  go_wp2_with fail
  obtain ⟨r0, r1, r2, _, _, _⟩ := three (put3 Hb4.out (.string nm) (.int .i64 ver) (.string text))
  have hw2 : w.heap.size < w2.heap.size := lt_of_obj Hb2.out
  refine bodyPost_ret (v := .tuple #[.agg #[.string nm, .int .i64 ver, .string text], .int .i64 0]) (by simp [results, Try.results8, go_sem, r0, r1, r2]) rfl ⟨rfl, ⟨_, ⟨_, _, _, _, _, _, _, _, _, HX.out.kept (S := fun k => k = w.heap.size) (((ChgP.refl (fun k => k = w.heap.size) _).setCell (p := ⟨w.heap.size, 0, none⟩) (Or.inl rfl) _).setCell (p := ⟨w.heap.size, 1, none⟩) (Or.inl rfl) _ |>.setCell (p := ⟨w.heap.size, 2, none⟩) (Or.inl rfl) _) ?_⟩, ?_⟩, ?_⟩
  · rintro k (hk | hk) e
    · have := (H.out.pB k hk).2; omega
    · omega
  · rintro k (hk | hk)
    · exact Or.inl hk
    · exact Or.inr (by omega)
  · exact ((HcP.out.setCell (p := ⟨w.heap.size, 0, none⟩) (Or.inr (Nat.le_refl _)) _).setCell (p := ⟨w.heap.size, 1, none⟩) (Or.inr (Nat.le_refl _)) _).setCell (p := ⟨w.heap.size, 2, none⟩) (Or.inr (Nat.le_refl _)) _
theorem room_fresh {w4 : World} {gg cap4 : Nat} (hown : w4.ownsRow B 62 1 (.slice (some ⟨gg, 0, none⟩) 1 cap4) 1 [.pointer (some ⟨pb, 0, none⟩)]) (hroom : w4.heap[rb]? = some (.cells #[.slice none 0 0, .slice none 0 0] 61 (0, 0)))
    (hdoc : w4.heap[pb]? = some (.cells #[.string nm, .int .i64 ver, .string text, .slice none 0 0, .slice none 0 0] 64 (0, 0))) (lo : Nat) (hB : B ≤ lo) (h1 : lo ≤ rb) (h2 : lo ≤ pb) (h3 : lo ≤ gg) :
    RoomAt B (fun k => lo ≤ k ∧ k < w4.heap.size) (w4.setCell ⟨rb, 0, none⟩ (.slice (some ⟨gg, 0, none⟩) 1 cap4)) rb nm [] ver text [] [] := by
  obtain ⟨cur, hcur⟩ := own_at hown rfl
  have hc0 := hown.cells (g := gg) rfl 0 _ rfl
  rw [Addr.add_lit, World.cell?] at hc0
  simp only [Nat.add_zero] at hc0
  rw [hcur] at hc0
  have hset : ChgP (fun k => k = rb) w4 (w4.setCell ⟨rb, 0, none⟩ (.slice (some ⟨gg, 0, none⟩) 1 cap4)) := (ChgP.refl (fun k => k = rb) w4).setCell (p := ⟨rb, 0, none⟩) (Or.inl rfl) _
  have hcap : 1 ≤ cap4 ∧ cap4 ≤ maxLen := by
    rcases hown.2 with ⟨e, _⟩ | ⟨g', cap', cur', e, _, _, h3, h4, _⟩
    · cases e
    · simp only [Value.slice.injEq] at e
      obtain ⟨_, _, rfl⟩ := e
      exact ⟨h3, h4⟩
  refine ⟨fun _ => False, gg, cap4, pb, cur, .slice none 0 0, .slice none 0 0, .slice none 0 0, [], heap_setCell_same hroom _, hcap, ?_, by simpa using hc0, ?_, World.ownsRow_nil _ _ _ _, World.ownsRow_nil _ _ _ _, World.ownsRow_nil _ _ _ _, rfl, fun j hj => by simp at hj, ?_, fun k hk => hk.elim, fun k hk => hk.elim, ?_, fun k hk => by simp [Value.ownBlock] at hk⟩
  · exact (hset.block _ (lt_of_obj hcur) (obj_ne hcur hroom (by decide))).trans hcur
  · exact (hset.block _ (lt_of_obj hdoc) (obj_ne hdoc hroom (by decide))).trans hdoc
  · rintro k (rfl | rfl | rfl | e | e | e)
    · exact ⟨h1, lt_of_obj hroom⟩
    · exact ⟨h3, lt_of_obj hcur⟩
    · exact ⟨h2, lt_of_obj hdoc⟩
    all_goals simp [Value.ownBlock] at e
  · intro k hk
    have hz : (w4.setCell ⟨rb, 0, none⟩ (.slice (some ⟨gg, 0, none⟩) 1 cap4)).heap.size = w4.heap.size := by simp [World.setCell]
    rw [hz]
    omega
set_option maxRecDepth 100000 in
set_option maxHeartbeats 4000000 in
theorem newRoom_one (w : World) (hB : B ≤ w.heap.size) (g cap : Nat) (nm text : ByteArray) (ver : Int) (h0 : w.cell? ⟨g, 0, none⟩ = some (.string nm)) (h1 : w.cell? ⟨g, 1, none⟩ = some (.int .i64 ver)) (h2 : w.cell? ⟨g, 2, none⟩ = some (.string text)) (hcap : 1 ≤ cap)
    (k1 : nm.size ≤ 60) (k2 : text.size ≤ 2000) (k3 : (nm.toList == []) = false) (k4 : 0 ≤ ver) (k5 : ver ≤ 2147483647) :
    Calls Try.prog 6 #[.slice (some ⟨g, 0, none⟩) 1 cap] w fun e w' => ∃ rb P, e = .returned (.tuple #[.pointer (some ⟨rb, 0, none⟩), .int .i64 0]) ∧ RoomAt B P w' rb nm [] ver text [] [] ∧ (∀ k, P k → w.heap.size ≤ k) ∧ Chg [] w w' := by
  have lt := lt_of_cell h0
  obtain ⟨i0, hi, hz0, hz1, hz2⟩ := info_parts (show (Try.prog.info? 62).map (fun i => (i.zero, i.size, i.bytes)) = some (some (.pointer none), 1, 8) by kernel_rfl)
  have Hi0 := Lib.hid hi
  have Hz0 := Lib.hid hz0
  have Hz1 := Lib.hid hz1
  have Hz2 := Lib.hid hz2
  clear hi hz0 hz1 hz2
  go_enter Try.func6, Try.ntmps6
  go_wp2_with fail
  refine (validate_one w g cap nm text ver h0 h1 h2 hcap k1 k2 k3 k4 k5).mono ?_
  rintro e w1 ⟨rfl, c1⟩
  have p0 := (c1.cell lt (by simp)).trans h0
  have p1 := (c1.cell (p := ⟨g, 1, none⟩) lt (by simp)).trans h1
  have p2 := (c1.cell (p := ⟨g, 2, none⟩) lt (by simp)).trans h2
  have lt1 := lt_of_cell p0
  have lt2 : g < w1.heap.size + 1 := by have := lt1; simp only at this; omega
  have C1 := Lib.hid c1
  have hsz1 := c1.size
  clear c1 h0 h1 h2 lt
  go_wp2_with fail
  go_loopw [17] (fun jj wr => (jj = .int .i64 0 ∧ wr = w1.alloc (.cells #[.slice none 0 0, .slice none 0 0] 61 (0, 0))) ∨ (jj = .int .i64 1 ∧ ∃ P, RoomAt B P wr w1.heap.size nm [] ver text [] [] ∧ (∀ k, P k → w.heap.size ≤ k) ∧ Chg [] w wr)) (fun jj _ => 1 - (intOf jj).toNat)
  case atStart => exact Or.inl ⟨rfl, rfl⟩
  case round =>
    rcases hrel with ⟨rfl, rfl⟩ | ⟨rfl, P, hR, hP, hc⟩
    · go_wp2_with fail
      go_region_law (refine step_append_lies _ (by rfl) _ _ _ (by rfl) B 62 i0 (.pointer none) 1 8 Try.underlying58 Hi0.out Hz0.out Hz1.out Hz2.out rfl (by decide) (.slice none 0 0) 0 [] (by rfl) (World.ownsRow_nil _ _ _ _) ⟨w1.heap.size + 3, 0, none⟩ 1 1 [.pointer (some ⟨w1.heap.size + 2, 0, none⟩)] (by rfl) (by rfl) (World.news_of_block (cs := #[.pointer (some ⟨w1.heap.size + 2, 0, none⟩)]) (t := 62) (fr := (0, 0)) (heap_at _ _ _ (by simp))) (by simp [Value.oneCell']) (by omega) (by unfold maxLen; omega) (by omega) (by simp; omega) (w1.heap.size + 4) (by simp) ?_; intro gg cap4 w4 hown4 hgrow4 hat4 hlt4; have hroom4 : w4.heap[w1.heap.size]? = some (.cells #[.slice none 0 0, .slice none 0 0] 61 (0, 0)) := (hgrow4.block _ (by simp; omega) (by simp [Value.ownBlock])).trans ((heap_past _ _ _ (by simp; omega)).trans ((heap_past _ _ _ (by simp; omega)).trans ((heap_past _ _ _ (by simp)).trans (heap_at _ _ _ rfl)))); have hdoc4 : w4.heap[w1.heap.size + 2]? = some (.cells #[.string nm, .int .i64 ver, .string text, .slice none 0 0, .slice none 0 0] 64 (0, 0)) := (hgrow4.block _ (by simp) (by simp [Value.ownBlock])).trans ((heap_past _ _ _ (by simp)).trans (heap_at _ _ _ (by simp))); have f4 : w4.frozen? ⟨w1.heap.size, 0, none⟩ = false := frozen_of_heap hroom4; have q4 : w4.cell? ⟨w1.heap.size, 0, none⟩ = some (.slice none 0 0) := cell_of_heap hroom4 rfl; have hc4 : Chg [] w w4 := (((((C1.out.alloc _).alloc _).drew).alloc _).alloc _).grown hgrow4 (by simp [Value.ownBlock]); have Hown4 := Lib.hid hown4; have Hat4 := Lib.hid hat4; have Hc4 := Lib.hid hc4; have Hroom4 := Lib.hid hroom4; have Hdoc4 := Lib.hid hdoc4; clear hown4 hgrow4 hat4 hc4 hroom4 hdoc4)
      all_goals
        go_wp2_with fail
        refine ⟨Or.inr ⟨rfl, _, room_fresh Hown4.out Hroom4.out Hdoc4.out w1.heap.size (by omega) (Nat.le_refl _) (by omega) (Hat4.out.elim (fun e => by simp [Value.ownBlock] at e) (fun e => by omega)), fun k hk => by omega, Hc4.out.setCell (Or.inr (by simp; omega)) _⟩, by simp [intOf]⟩
    · go_wp2_with fail
      go_ret2
      exact ⟨_, P, rfl, hR, hP, hc⟩
end Go.Proofs.Ytihpcpcfccamoaa
