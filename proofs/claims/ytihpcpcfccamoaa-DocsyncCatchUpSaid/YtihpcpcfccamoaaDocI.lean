/- Join, Open. -/
import Derived.Test.YtihpcpcfccamoaaDocH
namespace Go.Proofs.Ytihpcpcfccamoaa
open Go.RowKit
set_option linter.unusedVariables false
set_option linter.unusedSimpArgs false
set_option linter.unnecessarySimpa false
variable {B : Nat} {P q : Nat → Prop} {w w2 : World} {rb db dc pb : Nat} {dcs : Array Value} {cv hv rv : Value} {hvs : List Value} {nm : ByteArray} {cl : List Int} {ver : Int} {text : ByteArray} {hist : List (List Edit)} {rd : List Int}
theorem Try.infoI : (Try.prog.info? 3).map (fun i => (i.zero, i.size, i.bytes)) = some (some (.int .i64 0), 1, 8) := by kernel_rfl
theorem own_at {w : World} {B : Nat} {e : TypeId} {v : Value} {n : Nat} {xs : List Value} (h : w.ownsRow B e 1 v n xs) {g : Nat} (hg : v.ownBlock = some g) : ∃ cur, w.heap[g]? = some (.cells cur e (0, 0)) := by
  rcases h.2 with ⟨rfl, _⟩ | ⟨g', cap, cur, rfl, _, h2, _⟩
  · simp [Value.ownBlock] at hg
  · simp only [Value.ownBlock, Option.some.injEq] at hg
    subst hg
    exact ⟨cur, h2⟩
theorem own_ne {w : World} {B : Nat} {e T : TypeId} {v : Value} {n : Nat} {xs : List Value} (h : w.ownsRow B e 1 v n xs) {b : Nat} {cs : Array Value} {fr : Nat × Nat} (hb : w.heap[b]? = some (.cells cs T fr)) (hT : T ≠ e) : v.ownBlock ≠ some b := fun hg => by
  obtain ⟨cur, h2⟩ := own_at h hg
  rw [hb] at h2
  simp only [Option.some.injEq, Obj.cells.injEq] at h2
  exact hT h2.2.1
theorem obj_ne {w : World} {a b : Nat} {c c' : Array Value} {T T' : TypeId} {f f' : Nat × Nat} (ha : w.heap[a]? = some (.cells c T f)) (hb : w.heap[b]? = some (.cells c' T' f')) (hT : T ≠ T') : a ≠ b := fun e => by
  subst e
  rw [ha] at hb
  simp only [Option.some.injEq, Obj.cells.injEq] at hb
  exact hT hb.2.1
theorem ints_snoc (l : List Int) (x : Int) : ints (l ++ [x]) = ints l ++ [.int .i64 x] := by simp [ints]
/-- the clients' row has grown -/
theorem RoomX.putCl (h : RoomX B P q w rb db dc pb dcs cv hv rv hvs nm cl ver text hist rd) {v' : Value} {c : Int} (hc : ChgP (fun k => cv.ownBlock = some k) w w2) (hown : w2.ownsRow B 3 1 v' (cl.length + 1) (ints cl ++ [.int .i64 c]))
    (hg : ∀ k, v'.ownBlock = some k → cv.ownBlock = some k ∨ w.heap.size ≤ k) :
    RoomX B (fun k => P k ∨ (w.heap.size ≤ k ∧ k < w2.heap.size)) q (w2.setCell ⟨rb, 1, none⟩ v') rb db dc pb dcs v' hv rv hvs nm (cl ++ [c]) ver text hist rd := by
  obtain ⟨l1, l2, l3⟩ := h.lts
  have hB : B ≤ w.heap.size := by have := h.pB rb (h.foot _ (Or.inl rfl)); omega
  have hsz := hc.size
  have hrb : w2.heap[rb]? = w.heap[rb]? := hc.block _ l1 (own_ne h.cls h.room (by decide))
  have hall : ChgP (fun k => k = rb ∨ cv.ownBlock = some k) w (w2.setCell ⟨rb, 1, none⟩ v') := (hc.mono (T := fun k => k = rb ∨ cv.ownBlock = some k) fun _ h => Or.inr h).setCell (p := ⟨rb, 1, none⟩) (Or.inl (Or.inl rfl)) _
  have hset : ChgP (fun k => k = rb) w2 (w2.setCell ⟨rb, 1, none⟩ v') := (ChgP.refl (fun k => k = rb) w2).setCell (p := ⟨rb, 1, none⟩) (Or.inl rfl) _
  have hv'rb : v'.ownBlock ≠ some rb := fun e => (hg rb e).elim (fun e => own_ne h.cls h.room (by decide) e) (fun e => by omega)
  refine ⟨?_, h.dcap, ?_, h.doc0, ?_, ?_, ?_, ?_, h.hlen, ?_, ?_, fun k hk => Or.inl (h.qP k hk), ?_, ?_, ?_⟩
  · exact heap_setCell_same (hrb.trans h.room) v'
  · exact (hall.block _ l2 (fun e => e.elim (obj_ne h.docs h.room (by decide)) (own_ne h.cls h.docs (by decide)))).trans h.docs
  · exact (hall.block _ l3 (fun e => e.elim (obj_ne h.doc h.room (by decide)) (own_ne h.cls h.doc (by decide)))).trans h.doc
  · rw [ints_snoc, List.length_append]
    exact ownsRow_kept hown fun g hg' hl => hset.block g hl (fun e => hv'rb (by rw [hg', e]))
  · exact ownsRow_kept h.rds fun g hg' hl => hall.block g hl (fun e => e.elim (fun e => own_ne h.rds h.room (by decide) (by rw [hg', e])) (fun e => h.cr g e hg'))
  · exact ownsRow_kept h.his fun g hg' hl => hall.block g hl (fun e => e.elim (fun e => own_ne h.his h.room (by decide) (by rw [hg', e])) (fun e => by
      obtain ⟨cur, hcur⟩ := own_at h.cls e
      exact own_ne h.his hcur (by decide) hg'))
  · exact fun j hj => (h.heds j hj).kept hall fun k hk e => h.qn k hk (e.elim Or.inl fun e => Or.inr (Or.inr (Or.inr (Or.inl e))))
  · rintro k (e | e | e | e | e | e)
    · exact Or.inl (h.foot k (Or.inl e))
    · exact Or.inl (h.foot k (Or.inr (Or.inl e)))
    · exact Or.inl (h.foot k (Or.inr (Or.inr (Or.inl e))))
    · exact (hg k e).elim (fun e => Or.inl (h.foot k (Or.inr (Or.inr (Or.inr (Or.inl e)))))) (fun e' => Or.inr ⟨e', (hown.lt k e).2⟩)
    · exact Or.inl (h.foot k (Or.inr (Or.inr (Or.inr (Or.inr (Or.inl e))))))
    · exact Or.inl (h.foot k (Or.inr (Or.inr (Or.inr (Or.inr (Or.inr e))))))
  · intro k hk hf
    refine h.qn k hk ?_
    rcases hf with e | e | e | e | e | e
    · exact Or.inl e
    · exact Or.inr (Or.inl e)
    · exact Or.inr (Or.inr (Or.inl e))
    · exact (hg k e).elim (fun e => Or.inr (Or.inr (Or.inr (Or.inl e)))) (fun e => by have := (h.pB k (h.qP k hk)).2; omega)
    · exact Or.inr (Or.inr (Or.inr (Or.inr (Or.inl e))))
    · exact Or.inr (Or.inr (Or.inr (Or.inr (Or.inr e))))
  · intro k hk
    have hz : (w2.setCell ⟨rb, 1, none⟩ v').heap.size = w2.heap.size := by simp [World.setCell]
    rw [hz]
    rcases hk with hk | hk
    · have := h.pB k hk; omega
    · omega
  · intro k hk hr
    rcases hg k hk with e | e
    · exact h.cr k e hr
    · have := (h.rds.lt k hr).2; omega
/-- the readers' row has grown -/
theorem RoomX.putRd (h : RoomX B P q w rb db dc pb dcs cv hv rv hvs nm cl ver text hist rd) {v' : Value} {c : Int} (hc : ChgP (fun k => rv.ownBlock = some k) w w2) (hown : w2.ownsRow B 3 1 v' (rd.length + 1) (ints rd ++ [.int .i64 c]))
    (hg : ∀ k, v'.ownBlock = some k → rv.ownBlock = some k ∨ w.heap.size ≤ k) :
    RoomX B (fun k => P k ∨ (w.heap.size ≤ k ∧ k < w2.heap.size)) q (w2.setCell ⟨pb, 4, none⟩ v') rb db dc pb dcs cv hv v' hvs nm cl ver text hist (rd ++ [c]) := by
  obtain ⟨l1, l2, l3⟩ := h.lts
  have hB : B ≤ w.heap.size := by have := h.pB rb (h.foot _ (Or.inl rfl)); omega
  have hsz := hc.size
  have hpb : w2.heap[pb]? = w.heap[pb]? := hc.block _ l3 (own_ne h.rds h.doc (by decide))
  have hall : ChgP (fun k => k = pb ∨ rv.ownBlock = some k) w (w2.setCell ⟨pb, 4, none⟩ v') := (hc.mono (T := fun k => k = pb ∨ rv.ownBlock = some k) fun _ h => Or.inr h).setCell (p := ⟨pb, 4, none⟩) (Or.inl (Or.inl rfl)) _
  have hset : ChgP (fun k => k = pb) w2 (w2.setCell ⟨pb, 4, none⟩ v') := (ChgP.refl (fun k => k = pb) w2).setCell (p := ⟨pb, 4, none⟩) (Or.inl rfl) _
  have hv'pb : v'.ownBlock ≠ some pb := fun e => (hg pb e).elim (fun e => own_ne h.rds h.doc (by decide) e) (fun e => by omega)
  refine ⟨?_, h.dcap, ?_, h.doc0, ?_, ?_, ?_, ?_, h.hlen, ?_, ?_, fun k hk => Or.inl (h.qP k hk), ?_, ?_, ?_⟩
  · exact (hall.block _ l1 (fun e => e.elim (obj_ne h.room h.doc (by decide)) (own_ne h.rds h.room (by decide)))).trans h.room
  · exact (hall.block _ l2 (fun e => e.elim (obj_ne h.docs h.doc (by decide)) (own_ne h.rds h.docs (by decide)))).trans h.docs
  · exact heap_setCell_same (hpb.trans h.doc) v'
  · exact ownsRow_kept h.cls fun g hg' hl => hall.block g hl (fun e => e.elim (fun e => own_ne h.cls h.doc (by decide) (by rw [hg', e])) (fun e => h.cr g hg' e))
  · rw [ints_snoc, List.length_append]
    exact ownsRow_kept hown fun g hg' hl => hset.block g hl (fun e => hv'pb (by rw [hg', e]))
  · exact ownsRow_kept h.his fun g hg' hl => hall.block g hl (fun e => e.elim (fun e => own_ne h.his h.doc (by decide) (by rw [hg', e])) (fun e => by
      obtain ⟨cur, hcur⟩ := own_at h.rds e
      exact own_ne h.his hcur (by decide) hg'))
  · exact fun j hj => (h.heds j hj).kept hall fun k hk e => h.qn k hk (e.elim (fun e => Or.inr (Or.inr (Or.inl e))) fun e => Or.inr (Or.inr (Or.inr (Or.inr (Or.inr e)))))
  · rintro k (e | e | e | e | e | e)
    · exact Or.inl (h.foot k (Or.inl e))
    · exact Or.inl (h.foot k (Or.inr (Or.inl e)))
    · exact Or.inl (h.foot k (Or.inr (Or.inr (Or.inl e))))
    · exact Or.inl (h.foot k (Or.inr (Or.inr (Or.inr (Or.inl e)))))
    · exact Or.inl (h.foot k (Or.inr (Or.inr (Or.inr (Or.inr (Or.inl e))))))
    · exact (hg k e).elim (fun e => Or.inl (h.foot k (Or.inr (Or.inr (Or.inr (Or.inr (Or.inr e))))))) (fun e' => Or.inr ⟨e', (hown.lt k e).2⟩)
  · intro k hk hf
    refine h.qn k hk ?_
    rcases hf with e | e | e | e | e | e
    · exact Or.inl e
    · exact Or.inr (Or.inl e)
    · exact Or.inr (Or.inr (Or.inl e))
    · exact Or.inr (Or.inr (Or.inr (Or.inl e)))
    · exact Or.inr (Or.inr (Or.inr (Or.inr (Or.inl e))))
    · exact (hg k e).elim (fun e => Or.inr (Or.inr (Or.inr (Or.inr (Or.inr e))))) (fun e => by have := (h.pB k (h.qP k hk)).2; omega)
  · intro k hk
    have hz : (w2.setCell ⟨pb, 4, none⟩ v').heap.size = w2.heap.size := by simp [World.setCell]
    rw [hz]
    rcases hk with hk | hk
    · have := h.pB k hk; omega
    · omega
  · intro k hk hr
    rcases hg k hr with e | e
    · exact h.cr k hk e
    · have := (h.cls.lt k hk).2; omega
theorem chgP_sub {S T : Nat → Prop} {a b : World} (h : ChgP S a b) (hT : ∀ x, S x → T x) : ChgP T a b := h.mono hT
set_option maxRecDepth 100000 in
set_option maxHeartbeats 4000000 in
theorem join_any (h : RoomAt B P w rb nm cl ver text hist rd) (c : Int) (h0 : 0 ≤ c) (h8 : c < 8) (hc : c ∉ cl) (hn : cl.length ≤ 10) :
    Calls Try.prog 7 #[.pointer (some ⟨rb, 0, none⟩), .int .i64 c] w fun e w' => e = .returned (.int .i64 0) ∧ (∃ P', RoomAt B P' w' rb nm (cl ++ [c]) ver text hist rd ∧ ∀ k, P' k → P k ∨ w.heap.size ≤ k) ∧ ChgP P w w' := by
  obtain ⟨q, db, dc, pb, dcs, cv, hv, rv, hvs, h⟩ := h
  obtain ⟨i0, hi, hz0, hz1, hz2⟩ := info_parts Try.infoI
  have Hi0 := Lib.hid hi
  have Hz0 := Lib.hid hz0
  have Hz1 := Lib.hid hz1
  have Hz2 := Lib.hid hz2
  clear hi hz0 hz1 hz2
  have H := Lib.hid h
  have hcd := Lib.hid (decide_eq_false hc)
  have hc0 : ¬ c < 0 := by omega
  have hc8 : ¬ (8 : Int) ≤ c := by omega
  obtain ⟨x0, x1, x2⟩ := h.cells
  obtain ⟨l1, l2, l3⟩ := h.lts
  obtain ⟨a, cap, hcv, _⟩ := ints_of_own h.cls
  subst hcv
  clear h hc
  go_enter Try.func7, Try.ntmps7
  go_wp2_with fail
  refine (containsI_any H.out.cls c).mono ?_
  rintro e w1 ⟨rfl, c1⟩
  rw [hcd.out]
  have H1 := Lib.hid (H.out.same c1)
  have C1 := Lib.hid c1
  clear c1
  obtain ⟨y0, y1, y2⟩ := H1.out.cells
  obtain ⟨k1, k2, k3⟩ := H1.out.lts
  have k4 : rb < w1.heap.size + 1 := by omega
  have hBw : B ≤ w1.heap.size := by have := H1.out.pB rb (H1.out.foot _ (Or.inl rfl)); omega
  clear x0 x1 x2 l1 l2 l3
  go_wp2_with (at_builtin; refine wpList_append_lies _ (by rfl) _ _ 59 (by rfl) B 3 i0 (.int .i64 0) 1 8 Try.underlying59 Hi0.out Hz0.out Hz1.out Hz2.out rfl (by decide) (.slice a cl.length cap) cl.length (ints cl) (by rfl) (H1.out.cls.alloc _) ⟨w1.heap.size, 0, none⟩ 1 1 [.int .i64 c] (by rfl) (by rfl) (World.news_of_block (cs := #[.int .i64 c]) (t := 3) (fr := (0, 0)) (heap_alloc_new w1 _)) (by simp [Value.oneCell']) (by omega) (by unfold maxLen; omega) (by omega) (by simp; omega) (w1.heap.size + 1) (by simp) ?_; intro gg cap4 w4 hown4 hgrow4 hat4 hlt4; have hc4 : ChgP (fun k => Value.ownBlock (.slice a cl.length cap) = some k) w1 w4 := ((ChgP.refl _ w1).alloc _).grown hgrow4 (fun k hk => Or.inl hk); have hrb4 := (hc4.block _ k1 (own_ne H1.out.cls H1.out.room (by decide))).trans H1.out.room; have z0 : w4.frozen? ⟨rb, 1, none⟩ = false := frozen_of_heap hrb4; have z1 : w4.cell? ⟨rb, 1, none⟩ = some (.slice a cl.length cap) := cell_of_heap hrb4 rfl; have Hown4 := Lib.hid hown4; have Hat4 := Lib.hid hat4; have Hc4 := Lib.hid hc4; clear hc4 hrb4 hown4 hgrow4 hat4)
  have hX := H1.out.putCl (c := c) Hc4.out Hown4.out (fun k hk => by
    simp only [Value.ownBlock, Option.some.injEq] at hk
    subst hk
    exact Hat4.out.imp id (fun e => by omega))
  have hcP : ChgP P w (w4.setCell ⟨rb, 1, none⟩ (.slice (some ⟨gg, 0, none⟩) (cl.length + 1) cap4)) := ((C1.out.p.trans (Hc4.out.mono fun k hk => H1.out.foot k (Or.inr (Or.inr (Or.inr (Or.inl hk)))))).setCell (p := ⟨rb, 1, none⟩) (Or.inl (H1.out.foot rb (Or.inl rfl))) _)
  have hsz := C1.out.size
  go_ret
  exact ⟨rfl, ⟨_, ⟨_, _, _, _, _, _, _, _, _, hX⟩, fun k hk => hk.imp id (fun h => by omega)⟩, hcP⟩
set_option maxRecDepth 100000 in
set_option maxHeartbeats 4000000 in
/-- slices.Insert at the end -/
theorem insertEnd_any {v : Value} {l : List Int} (h : w.ownsRow B 3 1 v l.length (ints l)) (x : Int) (g c1 : Nat) (hg : w.heap[g]? = some (.cells #[.int .i64 x] 3 (0, 0))) (hn : l.length ≤ 10) (hB : B ≤ w.heap.size) :
    Calls Try.prog 21 #[v, .int .i64 l.length, .slice (some ⟨g, 0, none⟩) 1 c1] w fun e w' => ∃ g' cap', e = .returned (.slice (some ⟨g', 0, none⟩) (l.length + 1) cap') ∧ w'.ownsRow B 3 1 (.slice (some ⟨g', 0, none⟩) (l.length + 1) cap') (l.length + 1) (ints l ++ [.int .i64 x]) ∧
      ChgP (fun k => v.ownBlock = some k) w w' ∧ (v.ownBlock = some g' ∨ w.heap.size ≤ g') := by
  obtain ⟨i0, hi, hz0, hz1, hz2⟩ := info_parts Try.infoI
  have Hi0 := Lib.hid hi
  have Hz0 := Lib.hid hz0
  have Hz1 := Lib.hid hz1
  have Hz2 := Lib.hid hz2
  clear hi hz0 hz1 hz2
  obtain ⟨a, cap, rfl, hcap, hml, _⟩ := ints_of_own h
  have H := Lib.hid h
  have Hg := Lib.hid hg
  have hcap' : (l.length : Int) ≤ cap := by omega
  clear h hg
  unfold maxLen at hml
  go_enter Try.func21, Try.ntmps21
  go_wp2_with (at_builtin; refine wpList_append_lies _ (by rfl) _ _ 59 (by rfl) B 3 i0 (.int .i64 0) 1 8 Try.underlying59 Hi0.out Hz0.out Hz1.out Hz2.out rfl (by decide) (.slice a l.length cap) l.length (ints l) (by rfl) H.out ⟨g, 0, none⟩ 1 c1 [.int .i64 x] (by rfl) (by rfl) (World.news_of_block (cs := #[.int .i64 x]) (t := 3) (fr := (0, 0)) Hg.out) (by simp [Value.oneCell']) (by omega) (by unfold maxLen; omega) (by omega) (by omega) w.heap.size rfl ?_; intro gg cap4 w4 hown4 hgrow4 hat4 hlt4)
  all_goals
    go_ret
    exact ⟨gg, cap4, rfl, hown4, (ChgP.refl _ w).grown hgrow4 (fun k hk => Or.inl (by cases a <;> simpa [Value.ownBlock] using hk)), hat4.imp (fun hk => by cases a <;> simpa [Value.ownBlock] using hk) (fun e => by omega)⟩
end Go.Proofs.Ytihpcpcfccamoaa
