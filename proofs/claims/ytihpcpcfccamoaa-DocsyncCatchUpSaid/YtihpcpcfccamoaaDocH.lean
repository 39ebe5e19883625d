/- A room of one document, in memory; find, forClient, opened, Document. -/
import Derived.Test.YtihpcpcfccamoaaDocG
namespace Go.Proofs.Ytihpcpcfccamoaa
open Go.RowKit
set_option linter.unusedVariables false
set_option linter.unusedSimpArgs false
def ints (l : List Int) : List Value := l.map (Value.int .i64)
/-- the blocks of a room that may be written -/
def Foot (rb db pb : Nat) (cv hv rv : Value) (k : Nat) : Prop := k = rb ∨ k = db ∨ k = pb ∨ cv.ownBlock = some k ∨ hv.ownBlock = some k ∨ rv.ownBlock = some k
structure RoomX (B : Nat) (P q : Nat → Prop) (w : World) (rb db dc pb : Nat) (dcs : Array Value) (cv hv rv : Value) (hvs : List Value) (nm : ByteArray) (cl : List Int) (ver : Int) (text : ByteArray) (hist : List (List Edit)) (rd : List Int) : Prop where
  room : w.heap[rb]? = some (.cells #[.slice (some ⟨db, 0, none⟩) 1 dc, cv] 61 (0, 0))
  dcap : 1 ≤ dc ∧ dc ≤ maxLen
  docs : w.heap[db]? = some (.cells dcs 62 (0, 0))
  doc0 : dcs[0]? = some (.pointer (some ⟨pb, 0, none⟩))
  doc : w.heap[pb]? = some (.cells #[.string nm, .int .i64 ver, .string text, hv, rv] 64 (0, 0))
  cls : w.ownsRow B 3 1 cv cl.length (ints cl)
  rds : w.ownsRow B 3 1 rv rd.length (ints rd)
  his : w.ownsRow B 42 1 hv hist.length hvs
  hlen : hvs.length = hist.length
  heds : ∀ j, j < hist.length → Eds q w (hvs.getD j undef) (hist.getD j [])
  foot : ∀ k, Foot rb db pb cv hv rv k → P k
  qP : ∀ k, q k → P k
  qn : ∀ k, q k → ¬ Foot rb db pb cv hv rv k
  pB : ∀ k, P k → B ≤ k ∧ k < w.heap.size
  cr : ∀ k, cv.ownBlock = some k → rv.ownBlock ≠ some k
def RoomAt (B : Nat) (P : Nat → Prop) (w : World) (rb : Nat) (nm : ByteArray) (cl : List Int) (ver : Int) (text : ByteArray) (hist : List (List Edit)) (rd : List Int) : Prop :=
  ∃ q db dc pb dcs cv hv rv hvs, RoomX B P q w rb db dc pb dcs cv hv rv hvs nm cl ver text hist rd
variable {B : Nat} {P q : Nat → Prop} {w w' : World} {rb db dc pb : Nat} {dcs : Array Value} {cv hv rv : Value} {hvs : List Value} {nm : ByteArray} {cl : List Int} {ver : Int} {text : ByteArray} {hist : List (List Edit)} {rd : List Int}
theorem RoomX.kept {S : Nat → Prop} (h : RoomX B P q w rb db dc pb dcs cv hv rv hvs nm cl ver text hist rd) (hc : ChgP S w w') (hS : ∀ k, P k → ¬ S k) : RoomX B P q w' rb db dc pb dcs cv hv rv hvs nm cl ver text hist rd where
  room := (hc.block _ (lt_of_obj h.room) (hS _ (h.foot _ (Or.inl rfl)))).trans h.room
  dcap := h.dcap
  docs := (hc.block _ (lt_of_obj h.docs) (hS _ (h.foot _ (Or.inr (Or.inl rfl))))).trans h.docs
  doc0 := h.doc0
  doc := (hc.block _ (lt_of_obj h.doc) (hS _ (h.foot _ (Or.inr (Or.inr (Or.inl rfl)))))).trans h.doc
  cls := ownsRow_kept h.cls fun g hg hl => hc.block g hl (hS _ (h.foot _ (Or.inr (Or.inr (Or.inr (Or.inl hg))))))
  rds := ownsRow_kept h.rds fun g hg hl => hc.block g hl (hS _ (h.foot _ (Or.inr (Or.inr (Or.inr (Or.inr (Or.inr hg)))))))
  his := ownsRow_kept h.his fun g hg hl => hc.block g hl (hS _ (h.foot _ (Or.inr (Or.inr (Or.inr (Or.inr (Or.inl hg)))))))
  hlen := h.hlen
  heds := fun j hj => (h.heds j hj).kept hc fun k hk => hS k (h.qP k hk)
  foot := h.foot
  qP := h.qP
  qn := h.qn
  pB := fun k hk => ⟨(h.pB k hk).1, Nat.lt_of_lt_of_le (h.pB k hk).2 hc.size⟩
  cr := h.cr
theorem RoomX.same (h : RoomX B P q w rb db dc pb dcs cv hv rv hvs nm cl ver text hist rd) (hc : Chg [] w w') : RoomX B P q w' rb db dc pb dcs cv hv rv hvs nm cl ver text hist rd := h.kept (S := fun _ => False) hc.p (fun _ _ h => h)
theorem RoomAt.kept {S : Nat → Prop} (h : RoomAt B P w rb nm cl ver text hist rd) (hc : ChgP S w w') (hS : ∀ k, P k → ¬ S k) : RoomAt B P w' rb nm cl ver text hist rd := by
  obtain ⟨q, db, dc, pb, dcs, cv, hv, rv, hvs, h⟩ := h
  exact ⟨q, db, dc, pb, dcs, cv, hv, rv, hvs, h.kept hc hS⟩
theorem RoomAt.same (h : RoomAt B P w rb nm cl ver text hist rd) (hc : Chg [] w w') : RoomAt B P w' rb nm cl ver text hist rd := h.kept (S := fun _ => False) hc.p (fun _ _ h => h)
theorem ints_of_own {v : Value} {l : List Int} (h : w.ownsRow B 3 1 v l.length (ints l)) : (∃ a cap, v = .slice a l.length cap ∧ l.length ≤ cap ∧ l.length ≤ maxLen ∧ (0 < l.length → ∃ g, a = some ⟨g, 0, none⟩ ∧ ∀ j, j < l.length → w.cell? ⟨g, 0 + j, none⟩ = some (.int .i64 (l.getD j 0)))) := by
  have h' := h
  rcases h.2 with ⟨rfl, h0⟩ | ⟨g, cap, cur, rfl, h1, h2, h3, h4, h5, h6⟩
  · exact ⟨none, 0, by rw [h0], by omega, by omega, fun h => by omega⟩
  · refine ⟨_, cap, rfl, h3, by omega, fun _ => ⟨g, rfl, fun j hj => ?_⟩⟩
    have := h'.cells (g := g) rfl j (.int .i64 (l.getD j 0)) (by simp [ints, hj])
    rw [Addr.add_lit] at this
    exact this
/-- slices.Contains at ints of the room's own -/
theorem containsI_any {v : Value} {l : List Int} (h : w.ownsRow B 3 1 v l.length (ints l)) (x : Int) :
    Calls Try.prog 18 #[v, .int .i64 x] w fun e w' => e = .returned (.bool (decide (x ∈ l))) ∧ Chg [] w w' := by
  obtain ⟨a, cap, rfl, h1, h2, h3⟩ := ints_of_own h
  unfold maxLen at h2
  by_cases h0 : 0 < l.length
  · obtain ⟨g, rfl, hc⟩ := h3 h0
    refine (Try.slices_Contains_int g 0 l.length cap l x w (Nat.le_refl _) (by omega) hc).mono ?_
    rintro e w' ⟨rfl, rfl⟩
    exact ⟨by rw [List.take_length, List.contains_eq_mem], Chg.refl _ _⟩
  · obtain rfl : l = [] := List.eq_nil_of_length_eq_zero (by omega)
    refine (Try.slices_Contains_int_empty a cap x w).mono ?_
    rintro e w' ⟨rfl, rfl⟩
    exact ⟨by simp, Chg.refl _ _⟩
/-- where a client that is larger than all goes -/
theorem searchI_any {v : Value} {l : List Int} (h : w.ownsRow B 3 1 v l.length (ints l)) (x : Int) (hn : l.length ≤ 100) (hs : l.Pairwise (· ≤ ·)) (hx : ∀ y ∈ l, y < x) :
    Calls Try.prog 20 #[v, .int .i64 x] w fun e w' => e = .returned (.tuple #[.int .i64 l.length, .bool false]) ∧ Chg [] w w' := by
  obtain ⟨a, cap, rfl, h1, h2, h3⟩ := ints_of_own h
  by_cases h0 : 0 < l.length
  · obtain ⟨g, rfl, hc⟩ := h3 h0
    refine (Try.slices_BinarySearch_int g 0 l.length cap l x w (Nat.le_refl _) (by omega) hc (by rw [List.take_length]; exact hs)).mono ?_
    rintro e w' ⟨rfl, m, rfl⟩
    rw [List.take_length]
    have e1 : l.countP (fun y => decide (y < x)) = l.length := List.countP_eq_length.2 fun y hy => by simpa using hx y hy
    have e2 : l.contains x = false := by
      rw [List.contains_eq_mem]
      exact decide_eq_false fun hm => by have := hx x hm; omega
    exact ⟨by rw [e1, e2], (Chg.refl _ _).drewN _⟩
  · obtain rfl : l = [] := List.eq_nil_of_length_eq_zero (by omega)
    refine (Try.slices_BinarySearch_int_empty a cap x w).mono ?_
    rintro e w' ⟨rfl, rfl⟩
    exact ⟨rfl, Chg.refl _ _⟩
set_option maxHeartbeats 1000000 in
theorem findC_any (w : World) (pb gb : Nat) (nm : ByteArray) (h0 : w.cell? ⟨pb, 0, none⟩ = some (.string nm)) (h1 : w.cell? ⟨gb, 0, none⟩ = some (.string nm)) :
    Calls Try.prog 37 #[.pointer (some ⟨pb, 0, none⟩), .pointer (some ⟨gb, 0, none⟩)] w fun e w' => e = .returned (.bool true) ∧ Chg [] w w' := by
  have hn1 : (nm.toList == nm.toList) = true := by simp
  go_enter Try.func37, Try.ntmps37
  go_wp2_with fail
  go_quiet (fail)
  go_wp2_with fail
  go_ret
  exact ⟨rfl, (Chg.refl _ _).drewN _⟩
set_option maxHeartbeats 1000000 in
theorem idxD_any (w : World) (db dc pb gb : Nat) (nm : ByteArray) (hd : w.cell? ⟨db, 0, none⟩ = some (.pointer (some ⟨pb, 0, none⟩))) (h0 : w.cell? ⟨pb, 0, none⟩ = some (.string nm)) (h1 : w.cell? ⟨gb, 0, none⟩ = some (.string nm)) :
    Calls Try.prog 36 #[.slice (some ⟨db, 0, none⟩) 1 dc, .func (.func 37) #[] #[.pointer (some ⟨gb, 0, none⟩)]] w fun e w' => e = .returned (.int .i64 0) ∧ Chg [] w w' := by
  go_enter Try.func36, Try.ntmps36
  go_wp2
  refine wp_loop_once ?_
  go_wp2_with fail
  refine (findC_any w pb gb nm h0 h1).mono ?_
  rintro e w1 ⟨rfl, c1⟩
  go_wp2_with fail
  go_ret
  exact ⟨rfl, c1⟩
theorem RoomX.cells (h : RoomX B P q w rb db dc pb dcs cv hv rv hvs nm cl ver text hist rd) : w.cell? ⟨rb, 0, none⟩ = some (.slice (some ⟨db, 0, none⟩) 1 dc) ∧ w.cell? ⟨rb, 1, none⟩ = some cv ∧ w.cell? ⟨db, 0, none⟩ = some (.pointer (some ⟨pb, 0, none⟩)) :=
  ⟨cell_of_heap h.room rfl, cell_of_heap h.room rfl, cell_of_heap h.docs h.doc0⟩
theorem RoomX.dcells (h : RoomX B P q w rb db dc pb dcs cv hv rv hvs nm cl ver text hist rd) : w.cell? ⟨pb, 0, none⟩ = some (.string nm) ∧ w.cell? ⟨pb, 1, none⟩ = some (.int .i64 ver) ∧ w.cell? ⟨pb, 2, none⟩ = some (.string text) ∧ w.cell? ⟨pb, 3, none⟩ = some hv ∧ w.cell? ⟨pb, 4, none⟩ = some rv :=
  ⟨cell_of_heap h.doc rfl, cell_of_heap h.doc rfl, cell_of_heap h.doc rfl, cell_of_heap h.doc rfl, cell_of_heap h.doc rfl⟩
theorem RoomX.lts (h : RoomX B P q w rb db dc pb dcs cv hv rv hvs nm cl ver text hist rd) : rb < w.heap.size ∧ db < w.heap.size ∧ pb < w.heap.size := ⟨lt_of_obj h.room, lt_of_obj h.docs, lt_of_obj h.doc⟩
set_option maxHeartbeats 1000000 in
theorem find_any (h : RoomX B P q w rb db dc pb dcs cv hv rv hvs nm cl ver text hist rd) :
    Calls Try.prog 25 #[.pointer (some ⟨rb, 0, none⟩), .string nm] w fun e w' => e = .returned (.pointer (some ⟨pb, 0, none⟩)) ∧ Chg [] w w' := by
  obtain ⟨l1, l2, l3⟩ := h.lts
  obtain ⟨x0, x1, x2⟩ := h.cells
  obtain ⟨y0, _⟩ := h.dcells
  have l4 : rb < w.heap.size + 1 := by omega
  have H := Lib.hid h
  clear h
  go_enter Try.func25, Try.ntmps25
  go_wp2_with fail
  refine (idxD_any _ db dc pb w.heap.size nm ((World.cell?_alloc_past _ _ _ l2).trans x2) ((World.cell?_alloc_past _ _ _ l3).trans y0) (cell_of_heap (heap_at _ _ _ rfl) rfl)).mono ?_
  rintro e w1 ⟨rfl, c1⟩
  have c2 := ((Chg.refl [] w).alloc _).new c1
  obtain ⟨x0, x1, x2⟩ := (H.out.same c2).cells
  obtain ⟨k1, k2, k3⟩ := (H.out.same c2).lts
  go_wp2_with fail
  go_ret
  exact ⟨rfl, c2⟩
set_option maxHeartbeats 1000000 in
theorem forClient_any (h : RoomX B P q w rb db dc pb dcs cv hv rv hvs nm cl ver text hist rd) (c : Int) (hc : c ∈ cl) :
    Calls Try.prog 19 #[.pointer (some ⟨rb, 0, none⟩), .int .i64 c, .string nm] w fun e w' => e = .returned (.tuple #[.pointer (some ⟨pb, 0, none⟩), .int .i64 0]) ∧ Chg [] w w' := by
  have hcd := Lib.hid (decide_eq_true hc)
  have H := Lib.hid h
  clear h hc
  go_enter Try.func19, Try.ntmps19
  go_wp2_with fail
  refine (find_any H.out).mono ?_
  rintro e w1 ⟨rfl, c1⟩
  have H1 := Lib.hid (H.out.same c1)
  have C1 := Lib.hid c1
  clear c1
  obtain ⟨x0, x1, x2⟩ := H1.out.cells
  obtain ⟨a, cap, hcv, _⟩ := ints_of_own H1.out.cls
  subst hcv
  go_wp2_with fail
  refine (containsI_any H1.out.cls c).mono ?_
  rintro e w2 ⟨rfl, c2⟩
  rw [hcd.out]
  go_wp2_with fail
  go_ret2
  exact ⟨rfl, C1.out.trans c2⟩
set_option maxHeartbeats 1000000 in
theorem opened_any (h : RoomX B P q w rb db dc pb dcs cv hv rv hvs nm cl ver text hist rd) (c : Int) (hc : c ∈ cl) (hr : c ∈ rd) :
    Calls Try.prog 22 #[.pointer (some ⟨rb, 0, none⟩), .int .i64 c, .string nm] w fun e w' => e = .returned (.tuple #[.pointer (some ⟨pb, 0, none⟩), .int .i64 0]) ∧ Chg [] w w' := by
  have hcd := Lib.hid (decide_eq_true hr)
  have hc' := Lib.hid hc
  have H := Lib.hid h
  clear h hc hr
  go_enter Try.func22, Try.ntmps22
  go_wp2_with fail
  refine (forClient_any H.out c hc'.out).mono ?_
  rintro e w1 ⟨rfl, c1⟩
  have H1 := Lib.hid (H.out.same c1)
  have C1 := Lib.hid c1
  clear c1
  obtain ⟨x0, x1, x2, x3, x4⟩ := H1.out.dcells
  obtain ⟨a, cap, hcv, _⟩ := ints_of_own H1.out.rds
  subst hcv
  go_wp2_with fail
  refine (containsI_any H1.out.rds c).mono ?_
  rintro e w2 ⟨rfl, c2⟩
  rw [hcd.out]
  go_wp2_with fail
  go_ret2
  exact ⟨rfl, C1.out.trans c2⟩
set_option maxHeartbeats 1000000 in
theorem document_any (h : RoomAt B P w rb nm cl ver text hist rd) :
    Calls Try.prog 15 #[.pointer (some ⟨rb, 0, none⟩), .string nm] w fun e w' => e = .returned (.tuple #[.agg #[.string nm, .int .i64 ver, .string text], .int .i64 0]) ∧ Chg [] w w' := by
  obtain ⟨q, db, dc, pb, dcs, cv, hv, rv, hvs, h⟩ := h
  have H := Lib.hid h
  clear h
  go_enter Try.func15, Try.ntmps15
  go_wp2_with fail
  refine (find_any (H.out.same ((Chg.refl [] w).alloc _))).mono ?_
  rintro e w1 ⟨rfl, c1⟩
  have c2 := ((Chg.refl [] w).alloc (.cells #[.string ⟨#[]⟩, .int .i64 0, .string ⟨#[]⟩] 30 (0, 0))).new c1
  obtain ⟨x0, x1, x2, x3, x4⟩ := (H.out.same c2).dcells
  obtain ⟨k1, k2, k3⟩ := (H.out.same c2).lts
  have hb := (c1.block w.heap.size (by simp) (by simp)).trans (heap_at w (.cells #[.string ⟨#[]⟩, .int .i64 0, .string ⟨#[]⟩] 30 (0, 0)) _ rfl)
  obtain ⟨y0, y1, y2, f0, f1, f2⟩ := three hb
  have C2 := Lib.hid c2
  have Hb := Lib.hid hb
  clear c1 c2 hb
  go_wp2_with fail
  obtain ⟨z0, z1, z2, _, _, _⟩ := three (put3 Hb.out (.string nm) (.int .i64 ver) (.string text))
  refine bodyPost_ret (v := .tuple #[.agg #[.string nm, .int .i64 ver, .string text], .int .i64 0]) (by simp [results, Try.results15, go_sem, z0, z1, z2]) rfl ⟨rfl, ((C2.out.setCell (Or.inr (Nat.le_refl _)) _).setCell (Or.inr (Nat.le_refl _)) _).setCell (Or.inr (Nat.le_refl _)) _⟩
end Go.Proofs.Ytihpcpcfccamoaa
