/- Protocol messages: toObject (printed by wip/gen_jsc.py). -/
import Derived.Test.YtiklgipcgdgkoaaDoorJsB
namespace Go.Proofs.YtiklgipcgdgkoaaDoor.Jv
open Go.RowKit Go.ChangeMaps Go.MapKept
set_option linter.unusedVariables false
set_option linter.unusedSimpArgs false
section
variable {P : Program} {ops : Array Oper} {Q : Exit → Act → World → Prop} {md : Region.Mode} {S S0 : World → Prop} {t : Nat}
/-- three operations may come up -/
theorem anyU_three {k k' k'' f : Nat} {o o' o'' : Oper} {listed : Array Bool} {a : Act} {w : World} (hr : Region.ready md ops listed = [k, k', k'']) (ho : ops[k]? = some o) (ho' : ops[k']? = some o') (ho'' : ops[k'']? = some o'')
    (h : ∀ K : Act → World → Prop, (∀ a' w', ((listed.setIfInBounds k true).getD t true = false → S w') → S0 w' → anyU P md ops Q S S0 t f (listed.setIfInBounds k true) a' w' → K a' w') → if Region.wanted o (yielded ops a.tmps) = true then Oper.wp P o a w K Q else K (a.put o.dst undef) w)
    (h' : ∀ K : Act → World → Prop, (∀ a' w', ((listed.setIfInBounds k' true).getD t true = false → S w') → S0 w' → anyU P md ops Q S S0 t f (listed.setIfInBounds k' true) a' w' → K a' w') → if Region.wanted o' (yielded ops a.tmps) = true then Oper.wp P o' a w K Q else K (a.put o'.dst undef) w)
    (h'' : ∀ K : Act → World → Prop, (∀ a' w', ((listed.setIfInBounds k'' true).getD t true = false → S w') → S0 w' → anyU P md ops Q S S0 t f (listed.setIfInBounds k'' true) a' w' → K a' w') → if Region.wanted o'' (yielded ops a.tmps) = true then Oper.wp P o'' a w K Q else K (a.put o''.dst undef) w) : anyU P md ops Q S S0 t (f + 1) listed a w := by
  have one : ∀ (k : Nat) (o : Oper), ops[k]? = some o → (∀ K : Act → World → Prop, (∀ a' w', ((listed.setIfInBounds k true).getD t true = false → S w') → S0 w' → anyU P md ops Q S S0 t f (listed.setIfInBounds k true) a' w' → K a' w') → if Region.wanted o (yielded ops a.tmps) = true then Oper.wp P o a w K Q else K (a.put o.dst undef) w) →
      wpOp P ops Q k (fun a' w' => ((listed.setIfInBounds k true).getD t true = false → S w') ∧ S0 w' ∧ anyU P md ops Q S S0 t f (listed.setIfInBounds k true) a' w') a w := by
    intro k o ho h
    have := h (fun a' w' => ((listed.setIfInBounds k true).getD t true = false → S w') ∧ S0 w' ∧ anyU P md ops Q S S0 t f (listed.setIfInBounds k true) a' w') fun a' w' h1 h0 h2 => ⟨h1, h0, h2⟩
    unfold wpOp
    rw [ho]
    show if Region.wanted o (yielded ops a.tmps) = true then _ else _
    split
    · rename_i hw; rw [if_pos hw] at this; exact Or.inl this
    · rename_i hw; rw [if_neg hw] at this; exact this
  refine ⟨fun h0 => by rw [hr] at h0; exact absurd h0 (by simp), fun i hi => ?_⟩
  rw [hr] at hi
  rcases List.mem_cons.1 hi with rfl | hi
  · exact one _ _ ho h
  rcases List.mem_cons.1 hi with rfl | hi
  · exact one _ _ ho' h'
  · obtain rfl := List.mem_singleton.1 hi
    exact one _ _ ho'' h''
end
/-- what toObject gives -/
def ToPost (j : J) (w : World) (e : Ending) (w' : World) : Prop := ∃ v, e = .returned v ∧ JN w.heap.size 2 w' v j ∧ Chg [] w w'
section
variable {W : World} {B n : Nat} {T : TypeId}
theorem nms_1 {a : ByteArray} (h : W.heap[n]? = some (.cells #[.string a] T (0, 0))) (hB : B ≤ n) (ha : a.size ≤ maxLen) : SlR (fun g => B ≤ g ∧ g < W.heap.size) 1 rdS W (.slice (some ⟨n, 0, none⟩) 1 1) [a] :=
  ⟨_, 1, rfl, Nat.le_refl _, by decide, fun _ => ⟨n, 0, rfl, ⟨hB, lt_of_obj h⟩, fun j hj => match j, hj with
    | 0, _ => ⟨cell_of_heap h rfl, ha⟩⟩⟩
theorem nms_2 {a b : ByteArray} (h : W.heap[n]? = some (.cells #[.string a, .string b] T (0, 0))) (hB : B ≤ n) (ha : a.size ≤ maxLen) (hb : b.size ≤ maxLen) : SlR (fun g => B ≤ g ∧ g < W.heap.size) 1 rdS W (.slice (some ⟨n, 0, none⟩) 2 2) [a, b] :=
  ⟨_, 2, rfl, Nat.le_refl _, by decide, fun _ => ⟨n, 0, rfl, ⟨hB, lt_of_obj h⟩, fun j hj => match j, hj with
    | 0, _ => ⟨cell_of_heap h rfl, ha⟩
    | 1, _ => ⟨cell_of_heap h rfl, hb⟩⟩⟩
theorem nms_3 {a b c : ByteArray} (h : W.heap[n]? = some (.cells #[.string a, .string b, .string c] T (0, 0))) (hB : B ≤ n) (ha : a.size ≤ maxLen) (hb : b.size ≤ maxLen) (hc : c.size ≤ maxLen) : SlR (fun g => B ≤ g ∧ g < W.heap.size) 1 rdS W (.slice (some ⟨n, 0, none⟩) 3 3) [a, b, c] :=
  ⟨_, 3, rfl, Nat.le_refl _, by decide, fun _ => ⟨n, 0, rfl, ⟨hB, lt_of_obj h⟩, fun j hj => match j, hj with
    | 0, _ => ⟨cell_of_heap h rfl, ha⟩
    | 1, _ => ⟨cell_of_heap h rfl, hb⟩
    | 2, _ => ⟨cell_of_heap h rfl, hc⟩⟩⟩
theorem rd_leaf {p : Nat → Prop} {f o : Nat} {k x : Int} {s : ByteArray} (h0 : W.cell? ⟨n, o, none⟩ = some (.int .i64 k)) (h1 : W.cell? ⟨n, o + 1, none⟩ = some (.int .i64 x)) (h2 : W.cell? ⟨n, o + 2, none⟩ = some (.string s)) (h3 : W.cell? ⟨n, o + 3, none⟩ = some (.slice none 0 0)) (h4 : W.cell? ⟨n, o + 4, none⟩ = some (.slice none 0 0)) (hs : s.size ≤ maxLen) : rdJ p (f + 1) W ⟨n, o, none⟩ (.mk k x s [] []) :=
  ⟨h0, h1, ⟨h2, hs⟩, _, _, h3, h4, SlR.nil _ _ _ _, SlR.nil _ _ _ _⟩
theorem rd_obj {p : Nat → Prop} {f o : Nat} {nv iv : Value} {ns : List ByteArray} {es : List J} (h0 : W.cell? ⟨n, o, none⟩ = some (.int .i64 5)) (h1 : W.cell? ⟨n, o + 1, none⟩ = some (.int .i64 0)) (h2 : W.cell? ⟨n, o + 2, none⟩ = some (.string ⟨#[]⟩)) (h3 : W.cell? ⟨n, o + 3, none⟩ = some nv) (h4 : W.cell? ⟨n, o + 4, none⟩ = some iv) (hn : SlR p 1 rdS W nv ns) (hi : SlR p 5 (rdJ p f) W iv es) : rdJ p (f + 1) W ⟨n, o, none⟩ (.mk 5 0 ⟨#[]⟩ ns es) :=
  ⟨h0, h1, ⟨h2, show (ByteArray.mk #[]).size ≤ maxLen by decide⟩, _, _, h3, h4, hn, hi⟩
theorem els_1 {f : Nat} {a : J} (hl : n < W.heap.size) (hB : B ≤ n) (ha : rdJ (fun g => B ≤ g ∧ g < W.heap.size) f W ⟨n, 0, none⟩ a) : SlR (fun g => B ≤ g ∧ g < W.heap.size) 5 (rdJ (fun g => B ≤ g ∧ g < W.heap.size) f) W (.slice (some ⟨n, 0, none⟩) 1 1) [a] :=
  ⟨_, 1, rfl, Nat.le_refl _, by decide, fun _ => ⟨n, 0, rfl, ⟨hB, hl⟩, fun j hj => match j, hj with
    | 0, _ => ha⟩⟩
theorem els_2 {f : Nat} {a b : J} (hl : n < W.heap.size) (hB : B ≤ n) (ha : rdJ (fun g => B ≤ g ∧ g < W.heap.size) f W ⟨n, 0, none⟩ a) (hb : rdJ (fun g => B ≤ g ∧ g < W.heap.size) f W ⟨n, 5, none⟩ b) : SlR (fun g => B ≤ g ∧ g < W.heap.size) 5 (rdJ (fun g => B ≤ g ∧ g < W.heap.size) f) W (.slice (some ⟨n, 0, none⟩) 2 2) [a, b] :=
  ⟨_, 2, rfl, Nat.le_refl _, by decide, fun _ => ⟨n, 0, rfl, ⟨hB, hl⟩, fun j hj => match j, hj with
    | 0, _ => ha
    | 1, _ => hb⟩⟩
theorem els_3 {f : Nat} {a b c : J} (hl : n < W.heap.size) (hB : B ≤ n) (ha : rdJ (fun g => B ≤ g ∧ g < W.heap.size) f W ⟨n, 0, none⟩ a) (hb : rdJ (fun g => B ≤ g ∧ g < W.heap.size) f W ⟨n, 5, none⟩ b) (hc : rdJ (fun g => B ≤ g ∧ g < W.heap.size) f W ⟨n, 10, none⟩ c) : SlR (fun g => B ≤ g ∧ g < W.heap.size) 5 (rdJ (fun g => B ≤ g ∧ g < W.heap.size) f) W (.slice (some ⟨n, 0, none⟩) 3 3) [a, b, c] :=
  ⟨_, 3, rfl, Nat.le_refl _, by decide, fun _ => ⟨n, 0, rfl, ⟨hB, hl⟩, fun j hj => match j, hj with
    | 0, _ => ha
    | 1, _ => hb
    | 2, _ => hc⟩⟩
end
theorem toObj1_end {mb : Nat} {i : Int} {t : ByteArray} {w W : World} {n0 : Nat} {n8 : Nat} (ht : t.size ≤ maxLen)
    (h0 : W.heap[n0]? = some (.cells #[.string ⟨#[105, 100]⟩, .string ⟨#[109, 101, 116, 104, 111, 100]⟩, .string ⟨#[112, 97, 114, 97, 109, 115]⟩] 9 (0, 0)))
    (h8 : W.heap[n8]? = some (.cells #[.int .i64 2, .int .i64 i, .string ⟨#[]⟩, .slice none 0 0, .slice none 0 0, .int .i64 3, .int .i64 0, .string t, .slice none 0 0, .slice none 0 0, .int .i64 0, .int .i64 0, .string ⟨#[]⟩, .slice none 0 0, .slice none 0 0] 25 (0, 0)))
    (g0 : mb ≤ n0)
    (g8 : mb ≤ n8)
    (hm : mb = w.heap.size) (hc : Chg [] w W) : ToPost (.mk 5 0 ⟨#[]⟩ [⟨#[105, 100]⟩, ⟨#[109, 101, 116, 104, 111, 100]⟩, ⟨#[112, 97, 114, 97, 109, 115]⟩] [(.mk 2 i ⟨#[]⟩ [] []), (.mk 3 0 t [] []), J.zero]) w (.returned (.agg #[.int .i64 5, .int .i64 0, .string ⟨#[]⟩, .slice (some ⟨n0, 0, none⟩) 3 3, .slice (some ⟨n8, 0, none⟩) 3 3])) W := by
  exact ⟨_, rfl, JN.mk (nms_3 h0 (by omega) (by decide) (by decide) (by decide)) (els_3 (lt_of_obj h8) (by omega) (rd_leaf (cell_of_heap h8 rfl) (cell_of_heap h8 rfl) (cell_of_heap h8 rfl) (cell_of_heap h8 rfl) (cell_of_heap h8 rfl) (by decide)) (rd_leaf (cell_of_heap h8 rfl) (cell_of_heap h8 rfl) (cell_of_heap h8 rfl) (cell_of_heap h8 rfl) (cell_of_heap h8 rfl) ht) (rd_leaf (cell_of_heap h8 rfl) (cell_of_heap h8 rfl) (cell_of_heap h8 rfl) (cell_of_heap h8 rfl) (cell_of_heap h8 rfl) (by decide))) (by decide), hc⟩
set_option maxRecDepth 100000 in
set_option maxHeartbeats 64000000 in
theorem toObj1 (i : Int) (t : ByteArray) (w : World) (ht : t.size ≤ maxLen) : Calls Tryd.prog 33 #[mV 1 i 0 t] w (ToPost (.mk 5 0 ⟨#[]⟩ [⟨#[105, 100]⟩, ⟨#[109, 101, 116, 104, 111, 100]⟩, ⟨#[112, 97, 114, 97, 109, 115]⟩] [(.mk 2 i ⟨#[]⟩ [] []), (.mk 3 0 t [] []), J.zero]) w) := by
  unfold mV
  obtain ⟨w1, hw1⟩ : ∃ x, x = (w.alloc (.cells #[.int .i64 1, .int .i64 i, .int .i64 0, .string t, .int .i64 0, .int .i64 0, .string ⟨#[]⟩, .slice none 0 0, .slice none 0 0] 27)).alloc (.cells #[.int .i64 0, .int .i64 0, .string ⟨#[]⟩, .slice none 0 0, .slice none 0 0] 25) := ⟨_, rfl⟩
  obtain ⟨mb, hmb⟩ : ∃ x, x = w.heap.size := ⟨_, rfl⟩
  have hc1 : Chg [] w w1 := by rw [hw1]; exact ((Chg.refl _ _).alloc _).alloc _
  have hm1 : w1.heap[mb]? = some (.cells #[.int .i64 1, .int .i64 i, .int .i64 0, .string t, .int .i64 0, .int .i64 0, .string ⟨#[]⟩, .slice none 0 0, .slice none 0 0] 27 (0, 0)) := by
    rw [hw1, hmb, heap_past _ _ _ (by simp)]
    exact heap_at _ _ _ rfl
  have hr1 : w1.heap[mb + 1]? = some (.cells #[.int .i64 0, .int .i64 0, .string ⟨#[]⟩, .slice none 0 0, .slice none 0 0] 25 (0, 0)) := by
    rw [hw1, hmb]
    exact heap_at _ _ _ (by simp)
  have Hmb := Lib.hid hmb
  have HcA := Lib.hid hc1
  have Hm1 := Lib.hid hm1
  have Hr1 := Lib.hid hr1
  have Hts := Lib.hid ht
  clear ht
  clear hc1 hm1 hr1
  go_enter Tryd.func33, Tryd.ntmps33
  go_wp2_with fail
  rw [← hw1, ← hmb]
  clear hw1 hmb
  refine (clone_zero w1).mono ?_
  rintro e w2 ⟨rfl, hc2⟩
  obtain ⟨w3, hw3⟩ : ∃ x, x = w2.alloc (.cells #[.int .i64 0, .int .i64 0, .string ⟨#[]⟩, .slice none 0 0, .slice none 0 0] 25) := ⟨_, rfl⟩
  obtain ⟨bb, hbb⟩ : ∃ x, x = w2.heap.size := ⟨_, rfl⟩
  have hc3 : Chg [] w1 w3 := by rw [hw3]; exact hc2.alloc _
  have hb3 : w3.heap[bb]? = some (.cells #[.int .i64 0, .int .i64 0, .string ⟨#[]⟩, .slice none 0 0, .slice none 0 0] 25 (0, 0)) := by rw [hw3, hbb]; exact heap_at _ _ _ rfl
  obtain ⟨m0, m1, m2, m3, m4, m5, m6, m7, m8⟩ := msg_cells mb Hm1.out hc3
  have hr3 := (hc3.block (mb + 1) (lt_of_obj Hr1.out) (by simp)).trans Hr1.out
  have Hr3 := Lib.hid hr3
  have HS : Hid (∀ W, Chg [] w3 W → W.cell? ⟨mb, 1, none⟩ = some (.int .i64 i) ∧ W.cell? ⟨mb, 2, none⟩ = some (.int .i64 0) ∧ W.cell? ⟨mb, 3, none⟩ = some (.string t) ∧ W.cell? ⟨bb, 0, none⟩ = some (.int .i64 0) ∧ W.cell? ⟨bb, 1, none⟩ = some (.int .i64 0) ∧ W.cell? ⟨bb, 2, none⟩ = some (.string ⟨#[]⟩) ∧ W.cell? ⟨bb, 3, none⟩ = some (.slice none 0 0) ∧ W.cell? ⟨bb, 4, none⟩ = some (.slice none 0 0)) := Lib.hid (fun W hW => by
    obtain ⟨b0, b1, b2, b3, b4⟩ := box_kept bb hb3 hW
    exact ⟨(hW.cell (lt_of_cell m1) (by simp)).trans m1, (hW.cell (lt_of_cell m2) (by simp)).trans m2, (hW.cell (lt_of_cell m3) (by simp)).trans m3, b0, b1, b2, b3, b4⟩)
  have HcB := Lib.hid hc3
  clear hc2 hc3 hb3 hr3
  go_upto_region 2 with fail
  rw [← hw3, ← hbb]
  clear hw3 hbb
  go_upto_region 4 with fail
  clear m0 m1 m2 m3 m4 m5 m6 m7 m8
  refine wp_region_U (fun W => W.cell? ⟨mb, 1, none⟩ = some (.int .i64 i) ∧ W.cell? ⟨mb, 2, none⟩ = some (.int .i64 0) ∧ W.cell? ⟨mb, 3, none⟩ = some (.string t) ∧ W.cell? ⟨bb, 0, none⟩ = some (.int .i64 0) ∧ W.cell? ⟨bb, 1, none⟩ = some (.int .i64 0) ∧ W.cell? ⟨bb, 2, none⟩ = some (.string ⟨#[]⟩) ∧ W.cell? ⟨bb, 3, none⟩ = some (.slice none 0 0) ∧ W.cell? ⟨bb, 4, none⟩ = some (.slice none 0 0)) (fun _ => True) 10 (by kernel_rfl) ?_
  intro W0 hwd
  have Hc0 : Hid (Chg [] w3 W0) := Lib.hid (by rw [hwd]; exact (Chg.refl _ _).drew)
  clear hwd
  have hS := HS.out _ Hc0.out
  refine anyU_pure (i := 1) (v := .pointer (some ⟨mb, 1, none⟩)) rfl (by kernel_rfl) (fun _ _ _ h => h) (Or.inl ⟨by rfl, fun w' hS => by go_simp⟩) (fun _ => hS) trivial ?_
  simp only [Act.put, List.setIfInBounds_toArray, List.set_cons_zero, List.set_cons_succ]
  refine anyU_take (i := 2) (v := .int .i64 i) rfl (by kernel_rfl) (fun _ _ _ h => h) (Or.inl ⟨by rfl, fun w' hS => by go_simp⟩) hS trivial ?_
  simp only [Act.put, List.setIfInBounds_toArray, List.set_cons_zero, List.set_cons_succ]
  refine anyU_pure (i := 4) (v := .pointer (some ⟨mb, 3, none⟩)) rfl (by kernel_rfl) (fun _ _ _ h => h) (Or.inl ⟨by rfl, fun w' hS => by go_simp⟩) (fun _ => hS) trivial ?_
  simp only [Act.put, List.setIfInBounds_toArray, List.set_cons_zero, List.set_cons_succ]
  refine anyU_take (i := 5) (v := .string t) rfl (by kernel_rfl) (fun _ _ _ h => h) (Or.inl ⟨by rfl, fun w' hS => by go_simp⟩) hS trivial ?_
  simp only [Act.put, List.setIfInBounds_toArray, List.set_cons_zero, List.set_cons_succ]
  refine anyU_take (i := 7) (v := .agg #[.int .i64 0, .int .i64 0, .string ⟨#[]⟩, .slice none 0 0, .slice none 0 0]) rfl (by kernel_rfl) (fun _ _ _ h => h) (Or.inl ⟨by rfl, fun w' hS => by go_simp⟩) hS trivial ?_
  simp only [Act.put, List.setIfInBounds_toArray, List.set_cons_zero, List.set_cons_succ]
  refine anyU_two (k := 0) (k' := 3) (by kernel_rfl) rfl rfl (fun K hK => ?_) (fun K hK => ?_) 
  · skip
    go_simp
    obtain ⟨W1, hX⟩ : ∃ x, x = W0.alloc (.cells #[.string ⟨#[105, 100]⟩, .string ⟨#[109, 101, 116, 104, 111, 100]⟩, .string ⟨#[112, 97, 114, 97, 109, 115]⟩] 9) := ⟨_, rfl⟩
    obtain ⟨n0, hn⟩ : ∃ x, x = W0.heap.size := ⟨_, rfl⟩
    have hcx : Chg [] W0 W1 := by rw [hX]; exact (Chg.refl _ _).alloc _
    have hbx : W1.heap[n0]? = some (.cells #[.string ⟨#[105, 100]⟩, .string ⟨#[109, 101, 116, 104, 111, 100]⟩, .string ⟨#[112, 97, 114, 97, 109, 115]⟩] 9 (0, 0)) := by rw [hX, hn]; exact heap_at _ _ _ rfl
    have Hge0 : Hid (mb ≤ n0) := Lib.hid (by have h1 := (HcA.out.trans (HcB.out.trans Hc0.out)).size; have h2 := Hmb.out; omega)
    have Hgt0 : Hid (mb + 1 < n0) := Lib.hid (by have h1 := Hc0.out.size; have h2 := lt_of_obj Hr3.out; omega)
    rw [← hX, ← hn]
    clear hX hn
    have Hc1 := Lib.hid (Hc0.out.trans hcx)
    have Hn0 := Lib.hid hbx
    clear hbx
    have hS := HS.out _ Hc1.out
    refine hK _ _ (fun _ => hS) trivial ?_
    clear hK K hcx
    refine anyU_one (k := 3) (by kernel_rfl) rfl (fun K hK => ?_)
    go_simp
    refine (number_any i W1).mono ?_
    rintro e W2 ⟨rfl, hcx⟩
    have Hc2 := Lib.hid (Hc1.out.trans hcx)
    have Hn0 := Lib.hid ((hcx.block n0 (lt_of_obj Hn0.out) (by simp)).trans Hn0.out)
    have hS := HS.out _ Hc2.out
    refine hK _ _ (fun _ => hS) trivial ?_
    clear hK K hcx
    refine anyU_one (k := 6) (by kernel_rfl) rfl (fun K hK => ?_)
    go_simp
    refine (textV_any t W2).mono ?_
    rintro e W3 ⟨rfl, hcx⟩
    have Hc3 := Lib.hid (Hc2.out.trans hcx)
    have Hn0 := Lib.hid ((hcx.block n0 (lt_of_obj Hn0.out) (by simp)).trans Hn0.out)
    have hS := HS.out _ Hc3.out
    refine hK _ _ (fun _ => hS) trivial ?_
    clear hK K hcx
    refine anyU_one (k := 8) (by kernel_rfl) rfl (fun K hK => ?_)
    go_simp
    obtain ⟨W4, hX⟩ : ∃ x, x = W3.alloc (.cells #[.int .i64 2, .int .i64 i, .string ⟨#[]⟩, .slice none 0 0, .slice none 0 0, .int .i64 3, .int .i64 0, .string t, .slice none 0 0, .slice none 0 0, .int .i64 0, .int .i64 0, .string ⟨#[]⟩, .slice none 0 0, .slice none 0 0] 25) := ⟨_, rfl⟩
    obtain ⟨n8, hn⟩ : ∃ x, x = W3.heap.size := ⟨_, rfl⟩
    have hcx : Chg [] W3 W4 := by rw [hX]; exact (Chg.refl _ _).alloc _
    have hbx : W4.heap[n8]? = some (.cells #[.int .i64 2, .int .i64 i, .string ⟨#[]⟩, .slice none 0 0, .slice none 0 0, .int .i64 3, .int .i64 0, .string t, .slice none 0 0, .slice none 0 0, .int .i64 0, .int .i64 0, .string ⟨#[]⟩, .slice none 0 0, .slice none 0 0] 25 (0, 0)) := by rw [hX, hn]; exact heap_at _ _ _ rfl
    have Hge8 : Hid (mb ≤ n8) := Lib.hid (by have h1 := (HcA.out.trans (HcB.out.trans Hc3.out)).size; have h2 := Hmb.out; omega)
    have Hgt8 : Hid (mb + 1 < n8) := Lib.hid (by have h1 := Hc3.out.size; have h2 := lt_of_obj Hr3.out; omega)
    rw [← hX, ← hn]
    clear hX hn
    have Hc4 := Lib.hid (Hc3.out.trans hcx)
    have Hn0 := Lib.hid ((hcx.block n0 (lt_of_obj Hn0.out) (by simp)).trans Hn0.out)
    have Hn8 := Lib.hid hbx
    clear hbx
    have hS := HS.out _ Hc4.out
    refine hK _ _ (fun _ => hS) trivial ?_
    clear hK K hcx
    refine anyU_one (k := 9) (by kernel_rfl) rfl (fun K hK => ?_)
    go_simp
    refine (object_any (some ⟨n0, 0, none⟩) (some ⟨n8, 0, none⟩) 3 3 3 3 W4).mono ?_
    rintro e W5 ⟨rfl, hcx⟩
    have Hc5 := Lib.hid (Hc4.out.trans hcx)
    have Hn0 := Lib.hid ((hcx.block n0 (lt_of_obj Hn0.out) (by simp)).trans Hn0.out)
    have Hn8 := Lib.hid ((hcx.block n8 (lt_of_obj Hn8.out) (by simp)).trans Hn8.out)
    have hS := HS.out _ Hc5.out
    refine hK _ _ (fun _ => hS) trivial ?_
    clear hK K hcx
    refine anyU_one (k := 10) (by kernel_rfl) rfl (fun K hK => ?_)
    have hrx := (Hc5.out.block (mb + 1) (lt_of_obj Hr3.out) (by simp)).trans Hr3.out
    obtain ⟨r0, r1, r2, r3, r4⟩ := box_kept (mb + 1) hrx (Chg.refl [] W5)
    have fr := fun i => frozen_of_heap (i := i) hrx
    have lr := lt_of_cell r0
    go_simp
    refine hK _ _ (fun h => by simp at h) trivial ?_
    clear hK K hS
    refine anyU_done (by kernel_rfl) ?_
    go_wp2_with fail
    refine bodyPost_ret (v := .agg #[.int .i64 5, .int .i64 0, .string ⟨#[]⟩, .slice (some ⟨n0, 0, none⟩) 3 3, .slice (some ⟨n8, 0, none⟩) 3 3]) (by simp [results, Tryd.results33, go_sem, r0, r1, r2, r3, r4]) rfl ?_
    have hcs := st5_chg W5 (mb + 1) 0 ⟨5, 0, ⟨#[]⟩, some ⟨n0, 0, none⟩, 3, 3, some ⟨n8, 0, none⟩, 3, 3⟩
    exact toObj1_end Hts.out ((hcs.block n0 (lt_of_obj Hn0.out) (by have h2 := Hgt0.out; simp; omega)).trans Hn0.out) ((hcs.block n8 (lt_of_obj Hn8.out) (by have h2 := Hgt8.out; simp; omega)).trans Hn8.out) Hge0.out Hge8.out Hmb.out ((HcA.out.trans (HcB.out.trans Hc5.out)).comp hcs fun g hg => Or.inr (by have := List.mem_singleton.1 hg; have := Hmb.out; omega))
  · skip
    go_simp
    refine (number_any i W0).mono ?_
    rintro e W1 ⟨rfl, hcx⟩
    have Hc1 := Lib.hid (Hc0.out.trans hcx)
    have hS := HS.out _ Hc1.out
    refine hK _ _ (fun _ => hS) trivial ?_
    clear hK K hcx
    refine anyU_two (k := 0) (k' := 6) (by kernel_rfl) rfl rfl (fun K hK => ?_) (fun K hK => ?_) 
    · skip
      go_simp
      obtain ⟨W2, hX⟩ : ∃ x, x = W1.alloc (.cells #[.string ⟨#[105, 100]⟩, .string ⟨#[109, 101, 116, 104, 111, 100]⟩, .string ⟨#[112, 97, 114, 97, 109, 115]⟩] 9) := ⟨_, rfl⟩
      obtain ⟨n0, hn⟩ : ∃ x, x = W1.heap.size := ⟨_, rfl⟩
      have hcx : Chg [] W1 W2 := by rw [hX]; exact (Chg.refl _ _).alloc _
      have hbx : W2.heap[n0]? = some (.cells #[.string ⟨#[105, 100]⟩, .string ⟨#[109, 101, 116, 104, 111, 100]⟩, .string ⟨#[112, 97, 114, 97, 109, 115]⟩] 9 (0, 0)) := by rw [hX, hn]; exact heap_at _ _ _ rfl
      have Hge0 : Hid (mb ≤ n0) := Lib.hid (by have h1 := (HcA.out.trans (HcB.out.trans Hc1.out)).size; have h2 := Hmb.out; omega)
      have Hgt0 : Hid (mb + 1 < n0) := Lib.hid (by have h1 := Hc1.out.size; have h2 := lt_of_obj Hr3.out; omega)
      rw [← hX, ← hn]
      clear hX hn
      have Hc2 := Lib.hid (Hc1.out.trans hcx)
      have Hn0 := Lib.hid hbx
      clear hbx
      have hS := HS.out _ Hc2.out
      refine hK _ _ (fun _ => hS) trivial ?_
      clear hK K hcx
      refine anyU_one (k := 6) (by kernel_rfl) rfl (fun K hK => ?_)
      go_simp
      refine (textV_any t W2).mono ?_
      rintro e W3 ⟨rfl, hcx⟩
      have Hc3 := Lib.hid (Hc2.out.trans hcx)
      have Hn0 := Lib.hid ((hcx.block n0 (lt_of_obj Hn0.out) (by simp)).trans Hn0.out)
      have hS := HS.out _ Hc3.out
      refine hK _ _ (fun _ => hS) trivial ?_
      clear hK K hcx
      refine anyU_one (k := 8) (by kernel_rfl) rfl (fun K hK => ?_)
      go_simp
      obtain ⟨W4, hX⟩ : ∃ x, x = W3.alloc (.cells #[.int .i64 2, .int .i64 i, .string ⟨#[]⟩, .slice none 0 0, .slice none 0 0, .int .i64 3, .int .i64 0, .string t, .slice none 0 0, .slice none 0 0, .int .i64 0, .int .i64 0, .string ⟨#[]⟩, .slice none 0 0, .slice none 0 0] 25) := ⟨_, rfl⟩
      obtain ⟨n8, hn⟩ : ∃ x, x = W3.heap.size := ⟨_, rfl⟩
      have hcx : Chg [] W3 W4 := by rw [hX]; exact (Chg.refl _ _).alloc _
      have hbx : W4.heap[n8]? = some (.cells #[.int .i64 2, .int .i64 i, .string ⟨#[]⟩, .slice none 0 0, .slice none 0 0, .int .i64 3, .int .i64 0, .string t, .slice none 0 0, .slice none 0 0, .int .i64 0, .int .i64 0, .string ⟨#[]⟩, .slice none 0 0, .slice none 0 0] 25 (0, 0)) := by rw [hX, hn]; exact heap_at _ _ _ rfl
      have Hge8 : Hid (mb ≤ n8) := Lib.hid (by have h1 := (HcA.out.trans (HcB.out.trans Hc3.out)).size; have h2 := Hmb.out; omega)
      have Hgt8 : Hid (mb + 1 < n8) := Lib.hid (by have h1 := Hc3.out.size; have h2 := lt_of_obj Hr3.out; omega)
      rw [← hX, ← hn]
      clear hX hn
      have Hc4 := Lib.hid (Hc3.out.trans hcx)
      have Hn0 := Lib.hid ((hcx.block n0 (lt_of_obj Hn0.out) (by simp)).trans Hn0.out)
      have Hn8 := Lib.hid hbx
      clear hbx
      have hS := HS.out _ Hc4.out
      refine hK _ _ (fun _ => hS) trivial ?_
      clear hK K hcx
      refine anyU_one (k := 9) (by kernel_rfl) rfl (fun K hK => ?_)
      go_simp
      refine (object_any (some ⟨n0, 0, none⟩) (some ⟨n8, 0, none⟩) 3 3 3 3 W4).mono ?_
      rintro e W5 ⟨rfl, hcx⟩
      have Hc5 := Lib.hid (Hc4.out.trans hcx)
      have Hn0 := Lib.hid ((hcx.block n0 (lt_of_obj Hn0.out) (by simp)).trans Hn0.out)
      have Hn8 := Lib.hid ((hcx.block n8 (lt_of_obj Hn8.out) (by simp)).trans Hn8.out)
      have hS := HS.out _ Hc5.out
      refine hK _ _ (fun _ => hS) trivial ?_
      clear hK K hcx
      refine anyU_one (k := 10) (by kernel_rfl) rfl (fun K hK => ?_)
      have hrx := (Hc5.out.block (mb + 1) (lt_of_obj Hr3.out) (by simp)).trans Hr3.out
      obtain ⟨r0, r1, r2, r3, r4⟩ := box_kept (mb + 1) hrx (Chg.refl [] W5)
      have fr := fun i => frozen_of_heap (i := i) hrx
      have lr := lt_of_cell r0
      go_simp
      refine hK _ _ (fun h => by simp at h) trivial ?_
      clear hK K hS
      refine anyU_done (by kernel_rfl) ?_
      go_wp2_with fail
      refine bodyPost_ret (v := .agg #[.int .i64 5, .int .i64 0, .string ⟨#[]⟩, .slice (some ⟨n0, 0, none⟩) 3 3, .slice (some ⟨n8, 0, none⟩) 3 3]) (by simp [results, Tryd.results33, go_sem, r0, r1, r2, r3, r4]) rfl ?_
      have hcs := st5_chg W5 (mb + 1) 0 ⟨5, 0, ⟨#[]⟩, some ⟨n0, 0, none⟩, 3, 3, some ⟨n8, 0, none⟩, 3, 3⟩
      exact toObj1_end Hts.out ((hcs.block n0 (lt_of_obj Hn0.out) (by have h2 := Hgt0.out; simp; omega)).trans Hn0.out) ((hcs.block n8 (lt_of_obj Hn8.out) (by have h2 := Hgt8.out; simp; omega)).trans Hn8.out) Hge0.out Hge8.out Hmb.out ((HcA.out.trans (HcB.out.trans Hc5.out)).comp hcs fun g hg => Or.inr (by have := List.mem_singleton.1 hg; have := Hmb.out; omega))
    · skip
      go_simp
      refine (textV_any t W1).mono ?_
      rintro e W2 ⟨rfl, hcx⟩
      have Hc2 := Lib.hid (Hc1.out.trans hcx)
      have hS := HS.out _ Hc2.out
      refine hK _ _ (fun _ => hS) trivial ?_
      clear hK K hcx
      refine anyU_two (k := 0) (k' := 8) (by kernel_rfl) rfl rfl (fun K hK => ?_) (fun K hK => ?_) 
      · skip
        go_simp
        obtain ⟨W3, hX⟩ : ∃ x, x = W2.alloc (.cells #[.string ⟨#[105, 100]⟩, .string ⟨#[109, 101, 116, 104, 111, 100]⟩, .string ⟨#[112, 97, 114, 97, 109, 115]⟩] 9) := ⟨_, rfl⟩
        obtain ⟨n0, hn⟩ : ∃ x, x = W2.heap.size := ⟨_, rfl⟩
        have hcx : Chg [] W2 W3 := by rw [hX]; exact (Chg.refl _ _).alloc _
        have hbx : W3.heap[n0]? = some (.cells #[.string ⟨#[105, 100]⟩, .string ⟨#[109, 101, 116, 104, 111, 100]⟩, .string ⟨#[112, 97, 114, 97, 109, 115]⟩] 9 (0, 0)) := by rw [hX, hn]; exact heap_at _ _ _ rfl
        have Hge0 : Hid (mb ≤ n0) := Lib.hid (by have h1 := (HcA.out.trans (HcB.out.trans Hc2.out)).size; have h2 := Hmb.out; omega)
        have Hgt0 : Hid (mb + 1 < n0) := Lib.hid (by have h1 := Hc2.out.size; have h2 := lt_of_obj Hr3.out; omega)
        rw [← hX, ← hn]
        clear hX hn
        have Hc3 := Lib.hid (Hc2.out.trans hcx)
        have Hn0 := Lib.hid hbx
        clear hbx
        have hS := HS.out _ Hc3.out
        refine hK _ _ (fun _ => hS) trivial ?_
        clear hK K hcx
        refine anyU_one (k := 8) (by kernel_rfl) rfl (fun K hK => ?_)
        go_simp
        obtain ⟨W4, hX⟩ : ∃ x, x = W3.alloc (.cells #[.int .i64 2, .int .i64 i, .string ⟨#[]⟩, .slice none 0 0, .slice none 0 0, .int .i64 3, .int .i64 0, .string t, .slice none 0 0, .slice none 0 0, .int .i64 0, .int .i64 0, .string ⟨#[]⟩, .slice none 0 0, .slice none 0 0] 25) := ⟨_, rfl⟩
        obtain ⟨n8, hn⟩ : ∃ x, x = W3.heap.size := ⟨_, rfl⟩
        have hcx : Chg [] W3 W4 := by rw [hX]; exact (Chg.refl _ _).alloc _
        have hbx : W4.heap[n8]? = some (.cells #[.int .i64 2, .int .i64 i, .string ⟨#[]⟩, .slice none 0 0, .slice none 0 0, .int .i64 3, .int .i64 0, .string t, .slice none 0 0, .slice none 0 0, .int .i64 0, .int .i64 0, .string ⟨#[]⟩, .slice none 0 0, .slice none 0 0] 25 (0, 0)) := by rw [hX, hn]; exact heap_at _ _ _ rfl
        have Hge8 : Hid (mb ≤ n8) := Lib.hid (by have h1 := (HcA.out.trans (HcB.out.trans Hc3.out)).size; have h2 := Hmb.out; omega)
        have Hgt8 : Hid (mb + 1 < n8) := Lib.hid (by have h1 := Hc3.out.size; have h2 := lt_of_obj Hr3.out; omega)
        rw [← hX, ← hn]
        clear hX hn
        have Hc4 := Lib.hid (Hc3.out.trans hcx)
        have Hn0 := Lib.hid ((hcx.block n0 (lt_of_obj Hn0.out) (by simp)).trans Hn0.out)
        have Hn8 := Lib.hid hbx
        clear hbx
        have hS := HS.out _ Hc4.out
        refine hK _ _ (fun _ => hS) trivial ?_
        clear hK K hcx
        refine anyU_one (k := 9) (by kernel_rfl) rfl (fun K hK => ?_)
        go_simp
        refine (object_any (some ⟨n0, 0, none⟩) (some ⟨n8, 0, none⟩) 3 3 3 3 W4).mono ?_
        rintro e W5 ⟨rfl, hcx⟩
        have Hc5 := Lib.hid (Hc4.out.trans hcx)
        have Hn0 := Lib.hid ((hcx.block n0 (lt_of_obj Hn0.out) (by simp)).trans Hn0.out)
        have Hn8 := Lib.hid ((hcx.block n8 (lt_of_obj Hn8.out) (by simp)).trans Hn8.out)
        have hS := HS.out _ Hc5.out
        refine hK _ _ (fun _ => hS) trivial ?_
        clear hK K hcx
        refine anyU_one (k := 10) (by kernel_rfl) rfl (fun K hK => ?_)
        have hrx := (Hc5.out.block (mb + 1) (lt_of_obj Hr3.out) (by simp)).trans Hr3.out
        obtain ⟨r0, r1, r2, r3, r4⟩ := box_kept (mb + 1) hrx (Chg.refl [] W5)
        have fr := fun i => frozen_of_heap (i := i) hrx
        have lr := lt_of_cell r0
        go_simp
        refine hK _ _ (fun h => by simp at h) trivial ?_
        clear hK K hS
        refine anyU_done (by kernel_rfl) ?_
        go_wp2_with fail
        refine bodyPost_ret (v := .agg #[.int .i64 5, .int .i64 0, .string ⟨#[]⟩, .slice (some ⟨n0, 0, none⟩) 3 3, .slice (some ⟨n8, 0, none⟩) 3 3]) (by simp [results, Tryd.results33, go_sem, r0, r1, r2, r3, r4]) rfl ?_
        have hcs := st5_chg W5 (mb + 1) 0 ⟨5, 0, ⟨#[]⟩, some ⟨n0, 0, none⟩, 3, 3, some ⟨n8, 0, none⟩, 3, 3⟩
        exact toObj1_end Hts.out ((hcs.block n0 (lt_of_obj Hn0.out) (by have h2 := Hgt0.out; simp; omega)).trans Hn0.out) ((hcs.block n8 (lt_of_obj Hn8.out) (by have h2 := Hgt8.out; simp; omega)).trans Hn8.out) Hge0.out Hge8.out Hmb.out ((HcA.out.trans (HcB.out.trans Hc5.out)).comp hcs fun g hg => Or.inr (by have := List.mem_singleton.1 hg; have := Hmb.out; omega))
      · skip
        go_simp
        obtain ⟨W3, hX⟩ : ∃ x, x = W2.alloc (.cells #[.int .i64 2, .int .i64 i, .string ⟨#[]⟩, .slice none 0 0, .slice none 0 0, .int .i64 3, .int .i64 0, .string t, .slice none 0 0, .slice none 0 0, .int .i64 0, .int .i64 0, .string ⟨#[]⟩, .slice none 0 0, .slice none 0 0] 25) := ⟨_, rfl⟩
        obtain ⟨n8, hn⟩ : ∃ x, x = W2.heap.size := ⟨_, rfl⟩
        have hcx : Chg [] W2 W3 := by rw [hX]; exact (Chg.refl _ _).alloc _
        have hbx : W3.heap[n8]? = some (.cells #[.int .i64 2, .int .i64 i, .string ⟨#[]⟩, .slice none 0 0, .slice none 0 0, .int .i64 3, .int .i64 0, .string t, .slice none 0 0, .slice none 0 0, .int .i64 0, .int .i64 0, .string ⟨#[]⟩, .slice none 0 0, .slice none 0 0] 25 (0, 0)) := by rw [hX, hn]; exact heap_at _ _ _ rfl
        have Hge8 : Hid (mb ≤ n8) := Lib.hid (by have h1 := (HcA.out.trans (HcB.out.trans Hc2.out)).size; have h2 := Hmb.out; omega)
        have Hgt8 : Hid (mb + 1 < n8) := Lib.hid (by have h1 := Hc2.out.size; have h2 := lt_of_obj Hr3.out; omega)
        rw [← hX, ← hn]
        clear hX hn
        have Hc3 := Lib.hid (Hc2.out.trans hcx)
        have Hn8 := Lib.hid hbx
        clear hbx
        have hS := HS.out _ Hc3.out
        refine hK _ _ (fun _ => hS) trivial ?_
        clear hK K hcx
        refine anyU_one (k := 0) (by kernel_rfl) rfl (fun K hK => ?_)
        go_simp
        obtain ⟨W4, hX⟩ : ∃ x, x = W3.alloc (.cells #[.string ⟨#[105, 100]⟩, .string ⟨#[109, 101, 116, 104, 111, 100]⟩, .string ⟨#[112, 97, 114, 97, 109, 115]⟩] 9) := ⟨_, rfl⟩
        obtain ⟨n0, hn⟩ : ∃ x, x = W3.heap.size := ⟨_, rfl⟩
        have hcx : Chg [] W3 W4 := by rw [hX]; exact (Chg.refl _ _).alloc _
        have hbx : W4.heap[n0]? = some (.cells #[.string ⟨#[105, 100]⟩, .string ⟨#[109, 101, 116, 104, 111, 100]⟩, .string ⟨#[112, 97, 114, 97, 109, 115]⟩] 9 (0, 0)) := by rw [hX, hn]; exact heap_at _ _ _ rfl
        have Hge0 : Hid (mb ≤ n0) := Lib.hid (by have h1 := (HcA.out.trans (HcB.out.trans Hc3.out)).size; have h2 := Hmb.out; omega)
        have Hgt0 : Hid (mb + 1 < n0) := Lib.hid (by have h1 := Hc3.out.size; have h2 := lt_of_obj Hr3.out; omega)
        rw [← hX, ← hn]
        clear hX hn
        have Hc4 := Lib.hid (Hc3.out.trans hcx)
        have Hn8 := Lib.hid ((hcx.block n8 (lt_of_obj Hn8.out) (by simp)).trans Hn8.out)
        have Hn0 := Lib.hid hbx
        clear hbx
        have hS := HS.out _ Hc4.out
        refine hK _ _ (fun _ => hS) trivial ?_
        clear hK K hcx
        refine anyU_one (k := 9) (by kernel_rfl) rfl (fun K hK => ?_)
        go_simp
        refine (object_any (some ⟨n0, 0, none⟩) (some ⟨n8, 0, none⟩) 3 3 3 3 W4).mono ?_
        rintro e W5 ⟨rfl, hcx⟩
        have Hc5 := Lib.hid (Hc4.out.trans hcx)
        have Hn8 := Lib.hid ((hcx.block n8 (lt_of_obj Hn8.out) (by simp)).trans Hn8.out)
        have Hn0 := Lib.hid ((hcx.block n0 (lt_of_obj Hn0.out) (by simp)).trans Hn0.out)
        have hS := HS.out _ Hc5.out
        refine hK _ _ (fun _ => hS) trivial ?_
        clear hK K hcx
        refine anyU_one (k := 10) (by kernel_rfl) rfl (fun K hK => ?_)
        have hrx := (Hc5.out.block (mb + 1) (lt_of_obj Hr3.out) (by simp)).trans Hr3.out
        obtain ⟨r0, r1, r2, r3, r4⟩ := box_kept (mb + 1) hrx (Chg.refl [] W5)
        have fr := fun i => frozen_of_heap (i := i) hrx
        have lr := lt_of_cell r0
        go_simp
        refine hK _ _ (fun h => by simp at h) trivial ?_
        clear hK K hS
        refine anyU_done (by kernel_rfl) ?_
        go_wp2_with fail
        refine bodyPost_ret (v := .agg #[.int .i64 5, .int .i64 0, .string ⟨#[]⟩, .slice (some ⟨n0, 0, none⟩) 3 3, .slice (some ⟨n8, 0, none⟩) 3 3]) (by simp [results, Tryd.results33, go_sem, r0, r1, r2, r3, r4]) rfl ?_
        have hcs := st5_chg W5 (mb + 1) 0 ⟨5, 0, ⟨#[]⟩, some ⟨n0, 0, none⟩, 3, 3, some ⟨n8, 0, none⟩, 3, 3⟩
        exact toObj1_end Hts.out ((hcs.block n0 (lt_of_obj Hn0.out) (by have h2 := Hgt0.out; simp; omega)).trans Hn0.out) ((hcs.block n8 (lt_of_obj Hn8.out) (by have h2 := Hgt8.out; simp; omega)).trans Hn8.out) Hge0.out Hge8.out Hmb.out ((HcA.out.trans (HcB.out.trans Hc5.out)).comp hcs fun g hg => Or.inr (by have := List.mem_singleton.1 hg; have := Hmb.out; omega))
theorem toObj3_end {mb : Nat} {i : Int} {w W : World} {n0 : Nat} {n5 : Nat}
    (h0 : W.heap[n0]? = some (.cells #[.string ⟨#[105, 100]⟩, .string ⟨#[114, 101, 115, 117, 108, 116]⟩] 9 (0, 0)))
    (h5 : W.heap[n5]? = some (.cells #[.int .i64 2, .int .i64 i, .string ⟨#[]⟩, .slice none 0 0, .slice none 0 0, .int .i64 0, .int .i64 0, .string ⟨#[]⟩, .slice none 0 0, .slice none 0 0] 25 (0, 0)))
    (g0 : mb ≤ n0)
    (g5 : mb ≤ n5)
    (hm : mb = w.heap.size) (hc : Chg [] w W) : ToPost (.mk 5 0 ⟨#[]⟩ [⟨#[105, 100]⟩, ⟨#[114, 101, 115, 117, 108, 116]⟩] [(.mk 2 i ⟨#[]⟩ [] []), J.zero]) w (.returned (.agg #[.int .i64 5, .int .i64 0, .string ⟨#[]⟩, .slice (some ⟨n0, 0, none⟩) 2 2, .slice (some ⟨n5, 0, none⟩) 2 2])) W := by
  exact ⟨_, rfl, JN.mk (nms_2 h0 (by omega) (by decide) (by decide)) (els_2 (lt_of_obj h5) (by omega) (rd_leaf (cell_of_heap h5 rfl) (cell_of_heap h5 rfl) (cell_of_heap h5 rfl) (cell_of_heap h5 rfl) (cell_of_heap h5 rfl) (by decide)) (rd_leaf (cell_of_heap h5 rfl) (cell_of_heap h5 rfl) (cell_of_heap h5 rfl) (cell_of_heap h5 rfl) (cell_of_heap h5 rfl) (by decide))) (by decide), hc⟩
set_option maxRecDepth 100000 in
set_option maxHeartbeats 64000000 in
theorem toObj3 (i : Int) (w : World) : Calls Tryd.prog 33 #[mV 3 i 0 ⟨#[]⟩] w (ToPost (.mk 5 0 ⟨#[]⟩ [⟨#[105, 100]⟩, ⟨#[114, 101, 115, 117, 108, 116]⟩] [(.mk 2 i ⟨#[]⟩ [] []), J.zero]) w) := by
  unfold mV
  obtain ⟨w1, hw1⟩ : ∃ x, x = (w.alloc (.cells #[.int .i64 3, .int .i64 i, .int .i64 0, .string ⟨#[]⟩, .int .i64 0, .int .i64 0, .string ⟨#[]⟩, .slice none 0 0, .slice none 0 0] 27)).alloc (.cells #[.int .i64 0, .int .i64 0, .string ⟨#[]⟩, .slice none 0 0, .slice none 0 0] 25) := ⟨_, rfl⟩
  obtain ⟨mb, hmb⟩ : ∃ x, x = w.heap.size := ⟨_, rfl⟩
  have hc1 : Chg [] w w1 := by rw [hw1]; exact ((Chg.refl _ _).alloc _).alloc _
  have hm1 : w1.heap[mb]? = some (.cells #[.int .i64 3, .int .i64 i, .int .i64 0, .string ⟨#[]⟩, .int .i64 0, .int .i64 0, .string ⟨#[]⟩, .slice none 0 0, .slice none 0 0] 27 (0, 0)) := by
    rw [hw1, hmb, heap_past _ _ _ (by simp)]
    exact heap_at _ _ _ rfl
  have hr1 : w1.heap[mb + 1]? = some (.cells #[.int .i64 0, .int .i64 0, .string ⟨#[]⟩, .slice none 0 0, .slice none 0 0] 25 (0, 0)) := by
    rw [hw1, hmb]
    exact heap_at _ _ _ (by simp)
  have Hmb := Lib.hid hmb
  have HcA := Lib.hid hc1
  have Hm1 := Lib.hid hm1
  have Hr1 := Lib.hid hr1
  clear hc1 hm1 hr1
  go_enter Tryd.func33, Tryd.ntmps33
  go_wp2_with fail
  rw [← hw1, ← hmb]
  clear hw1 hmb
  refine (clone_zero w1).mono ?_
  rintro e w2 ⟨rfl, hc2⟩
  obtain ⟨w3, hw3⟩ : ∃ x, x = w2.alloc (.cells #[.int .i64 0, .int .i64 0, .string ⟨#[]⟩, .slice none 0 0, .slice none 0 0] 25) := ⟨_, rfl⟩
  obtain ⟨bb, hbb⟩ : ∃ x, x = w2.heap.size := ⟨_, rfl⟩
  have hc3 : Chg [] w1 w3 := by rw [hw3]; exact hc2.alloc _
  have hb3 : w3.heap[bb]? = some (.cells #[.int .i64 0, .int .i64 0, .string ⟨#[]⟩, .slice none 0 0, .slice none 0 0] 25 (0, 0)) := by rw [hw3, hbb]; exact heap_at _ _ _ rfl
  obtain ⟨m0, m1, m2, m3, m4, m5, m6, m7, m8⟩ := msg_cells mb Hm1.out hc3
  have hr3 := (hc3.block (mb + 1) (lt_of_obj Hr1.out) (by simp)).trans Hr1.out
  have Hr3 := Lib.hid hr3
  have HS : Hid (∀ W, Chg [] w3 W → W.cell? ⟨mb, 1, none⟩ = some (.int .i64 i) ∧ W.cell? ⟨mb, 2, none⟩ = some (.int .i64 0) ∧ W.cell? ⟨mb, 3, none⟩ = some (.string ⟨#[]⟩) ∧ W.cell? ⟨bb, 0, none⟩ = some (.int .i64 0) ∧ W.cell? ⟨bb, 1, none⟩ = some (.int .i64 0) ∧ W.cell? ⟨bb, 2, none⟩ = some (.string ⟨#[]⟩) ∧ W.cell? ⟨bb, 3, none⟩ = some (.slice none 0 0) ∧ W.cell? ⟨bb, 4, none⟩ = some (.slice none 0 0)) := Lib.hid (fun W hW => by
    obtain ⟨b0, b1, b2, b3, b4⟩ := box_kept bb hb3 hW
    exact ⟨(hW.cell (lt_of_cell m1) (by simp)).trans m1, (hW.cell (lt_of_cell m2) (by simp)).trans m2, (hW.cell (lt_of_cell m3) (by simp)).trans m3, b0, b1, b2, b3, b4⟩)
  have HcB := Lib.hid hc3
  clear hc2 hc3 hb3 hr3
  go_upto_region 2 with fail
  rw [← hw3, ← hbb]
  clear hw3 hbb
  go_upto_region 8 with fail
  clear m0 m1 m2 m3 m4 m5 m6 m7 m8
  refine wp_region_U (fun W => W.cell? ⟨mb, 1, none⟩ = some (.int .i64 i) ∧ W.cell? ⟨mb, 2, none⟩ = some (.int .i64 0) ∧ W.cell? ⟨mb, 3, none⟩ = some (.string ⟨#[]⟩) ∧ W.cell? ⟨bb, 0, none⟩ = some (.int .i64 0) ∧ W.cell? ⟨bb, 1, none⟩ = some (.int .i64 0) ∧ W.cell? ⟨bb, 2, none⟩ = some (.string ⟨#[]⟩) ∧ W.cell? ⟨bb, 3, none⟩ = some (.slice none 0 0) ∧ W.cell? ⟨bb, 4, none⟩ = some (.slice none 0 0)) (fun _ => True) 7 (by kernel_rfl) ?_
  intro W0 hwd
  have Hc0 : Hid (Chg [] w3 W0) := Lib.hid (by rw [hwd]; exact (Chg.refl _ _).drew)
  clear hwd
  have hS := HS.out _ Hc0.out
  refine anyU_pure (i := 1) (v := .pointer (some ⟨mb, 1, none⟩)) rfl (by kernel_rfl) (fun _ _ _ h => h) (Or.inl ⟨by rfl, fun w' hS => by go_simp⟩) (fun _ => hS) trivial ?_
  simp only [Act.put, List.setIfInBounds_toArray, List.set_cons_zero, List.set_cons_succ]
  refine anyU_take (i := 2) (v := .int .i64 i) rfl (by kernel_rfl) (fun _ _ _ h => h) (Or.inl ⟨by rfl, fun w' hS => by go_simp⟩) hS trivial ?_
  simp only [Act.put, List.setIfInBounds_toArray, List.set_cons_zero, List.set_cons_succ]
  refine anyU_take (i := 4) (v := .agg #[.int .i64 0, .int .i64 0, .string ⟨#[]⟩, .slice none 0 0, .slice none 0 0]) rfl (by kernel_rfl) (fun _ _ _ h => h) (Or.inl ⟨by rfl, fun w' hS => by go_simp⟩) hS trivial ?_
  simp only [Act.put, List.setIfInBounds_toArray, List.set_cons_zero, List.set_cons_succ]
  refine anyU_two (k := 0) (k' := 3) (by kernel_rfl) rfl rfl (fun K hK => ?_) (fun K hK => ?_) 
  · skip
    go_simp
    obtain ⟨W1, hX⟩ : ∃ x, x = W0.alloc (.cells #[.string ⟨#[105, 100]⟩, .string ⟨#[114, 101, 115, 117, 108, 116]⟩] 9) := ⟨_, rfl⟩
    obtain ⟨n0, hn⟩ : ∃ x, x = W0.heap.size := ⟨_, rfl⟩
    have hcx : Chg [] W0 W1 := by rw [hX]; exact (Chg.refl _ _).alloc _
    have hbx : W1.heap[n0]? = some (.cells #[.string ⟨#[105, 100]⟩, .string ⟨#[114, 101, 115, 117, 108, 116]⟩] 9 (0, 0)) := by rw [hX, hn]; exact heap_at _ _ _ rfl
    have Hge0 : Hid (mb ≤ n0) := Lib.hid (by have h1 := (HcA.out.trans (HcB.out.trans Hc0.out)).size; have h2 := Hmb.out; omega)
    have Hgt0 : Hid (mb + 1 < n0) := Lib.hid (by have h1 := Hc0.out.size; have h2 := lt_of_obj Hr3.out; omega)
    rw [← hX, ← hn]
    clear hX hn
    have Hc1 := Lib.hid (Hc0.out.trans hcx)
    have Hn0 := Lib.hid hbx
    clear hbx
    have hS := HS.out _ Hc1.out
    refine hK _ _ (fun _ => hS) trivial ?_
    clear hK K hcx
    refine anyU_one (k := 3) (by kernel_rfl) rfl (fun K hK => ?_)
    go_simp
    refine (number_any i W1).mono ?_
    rintro e W2 ⟨rfl, hcx⟩
    have Hc2 := Lib.hid (Hc1.out.trans hcx)
    have Hn0 := Lib.hid ((hcx.block n0 (lt_of_obj Hn0.out) (by simp)).trans Hn0.out)
    have hS := HS.out _ Hc2.out
    refine hK _ _ (fun _ => hS) trivial ?_
    clear hK K hcx
    refine anyU_one (k := 5) (by kernel_rfl) rfl (fun K hK => ?_)
    go_simp
    obtain ⟨W3, hX⟩ : ∃ x, x = W2.alloc (.cells #[.int .i64 2, .int .i64 i, .string ⟨#[]⟩, .slice none 0 0, .slice none 0 0, .int .i64 0, .int .i64 0, .string ⟨#[]⟩, .slice none 0 0, .slice none 0 0] 25) := ⟨_, rfl⟩
    obtain ⟨n5, hn⟩ : ∃ x, x = W2.heap.size := ⟨_, rfl⟩
    have hcx : Chg [] W2 W3 := by rw [hX]; exact (Chg.refl _ _).alloc _
    have hbx : W3.heap[n5]? = some (.cells #[.int .i64 2, .int .i64 i, .string ⟨#[]⟩, .slice none 0 0, .slice none 0 0, .int .i64 0, .int .i64 0, .string ⟨#[]⟩, .slice none 0 0, .slice none 0 0] 25 (0, 0)) := by rw [hX, hn]; exact heap_at _ _ _ rfl
    have Hge5 : Hid (mb ≤ n5) := Lib.hid (by have h1 := (HcA.out.trans (HcB.out.trans Hc2.out)).size; have h2 := Hmb.out; omega)
    have Hgt5 : Hid (mb + 1 < n5) := Lib.hid (by have h1 := Hc2.out.size; have h2 := lt_of_obj Hr3.out; omega)
    rw [← hX, ← hn]
    clear hX hn
    have Hc3 := Lib.hid (Hc2.out.trans hcx)
    have Hn0 := Lib.hid ((hcx.block n0 (lt_of_obj Hn0.out) (by simp)).trans Hn0.out)
    have Hn5 := Lib.hid hbx
    clear hbx
    have hS := HS.out _ Hc3.out
    refine hK _ _ (fun _ => hS) trivial ?_
    clear hK K hcx
    refine anyU_one (k := 6) (by kernel_rfl) rfl (fun K hK => ?_)
    go_simp
    refine (object_any (some ⟨n0, 0, none⟩) (some ⟨n5, 0, none⟩) 2 2 2 2 W3).mono ?_
    rintro e W4 ⟨rfl, hcx⟩
    have Hc4 := Lib.hid (Hc3.out.trans hcx)
    have Hn0 := Lib.hid ((hcx.block n0 (lt_of_obj Hn0.out) (by simp)).trans Hn0.out)
    have Hn5 := Lib.hid ((hcx.block n5 (lt_of_obj Hn5.out) (by simp)).trans Hn5.out)
    have hS := HS.out _ Hc4.out
    refine hK _ _ (fun _ => hS) trivial ?_
    clear hK K hcx
    refine anyU_one (k := 7) (by kernel_rfl) rfl (fun K hK => ?_)
    have hrx := (Hc4.out.block (mb + 1) (lt_of_obj Hr3.out) (by simp)).trans Hr3.out
    obtain ⟨r0, r1, r2, r3, r4⟩ := box_kept (mb + 1) hrx (Chg.refl [] W4)
    have fr := fun i => frozen_of_heap (i := i) hrx
    have lr := lt_of_cell r0
    go_simp
    refine hK _ _ (fun h => by simp at h) trivial ?_
    clear hK K hS
    refine anyU_done (by kernel_rfl) ?_
    go_wp2_with fail
    refine bodyPost_ret (v := .agg #[.int .i64 5, .int .i64 0, .string ⟨#[]⟩, .slice (some ⟨n0, 0, none⟩) 2 2, .slice (some ⟨n5, 0, none⟩) 2 2]) (by simp [results, Tryd.results33, go_sem, r0, r1, r2, r3, r4]) rfl ?_
    have hcs := st5_chg W4 (mb + 1) 0 ⟨5, 0, ⟨#[]⟩, some ⟨n0, 0, none⟩, 2, 2, some ⟨n5, 0, none⟩, 2, 2⟩
    exact toObj3_end ((hcs.block n0 (lt_of_obj Hn0.out) (by have h2 := Hgt0.out; simp; omega)).trans Hn0.out) ((hcs.block n5 (lt_of_obj Hn5.out) (by have h2 := Hgt5.out; simp; omega)).trans Hn5.out) Hge0.out Hge5.out Hmb.out ((HcA.out.trans (HcB.out.trans Hc4.out)).comp hcs fun g hg => Or.inr (by have := List.mem_singleton.1 hg; have := Hmb.out; omega))
  · skip
    go_simp
    refine (number_any i W0).mono ?_
    rintro e W1 ⟨rfl, hcx⟩
    have Hc1 := Lib.hid (Hc0.out.trans hcx)
    have hS := HS.out _ Hc1.out
    refine hK _ _ (fun _ => hS) trivial ?_
    clear hK K hcx
    refine anyU_two (k := 0) (k' := 5) (by kernel_rfl) rfl rfl (fun K hK => ?_) (fun K hK => ?_) 
    · skip
      go_simp
      obtain ⟨W2, hX⟩ : ∃ x, x = W1.alloc (.cells #[.string ⟨#[105, 100]⟩, .string ⟨#[114, 101, 115, 117, 108, 116]⟩] 9) := ⟨_, rfl⟩
      obtain ⟨n0, hn⟩ : ∃ x, x = W1.heap.size := ⟨_, rfl⟩
      have hcx : Chg [] W1 W2 := by rw [hX]; exact (Chg.refl _ _).alloc _
      have hbx : W2.heap[n0]? = some (.cells #[.string ⟨#[105, 100]⟩, .string ⟨#[114, 101, 115, 117, 108, 116]⟩] 9 (0, 0)) := by rw [hX, hn]; exact heap_at _ _ _ rfl
      have Hge0 : Hid (mb ≤ n0) := Lib.hid (by have h1 := (HcA.out.trans (HcB.out.trans Hc1.out)).size; have h2 := Hmb.out; omega)
      have Hgt0 : Hid (mb + 1 < n0) := Lib.hid (by have h1 := Hc1.out.size; have h2 := lt_of_obj Hr3.out; omega)
      rw [← hX, ← hn]
      clear hX hn
      have Hc2 := Lib.hid (Hc1.out.trans hcx)
      have Hn0 := Lib.hid hbx
      clear hbx
      have hS := HS.out _ Hc2.out
      refine hK _ _ (fun _ => hS) trivial ?_
      clear hK K hcx
      refine anyU_one (k := 5) (by kernel_rfl) rfl (fun K hK => ?_)
      go_simp
      obtain ⟨W3, hX⟩ : ∃ x, x = W2.alloc (.cells #[.int .i64 2, .int .i64 i, .string ⟨#[]⟩, .slice none 0 0, .slice none 0 0, .int .i64 0, .int .i64 0, .string ⟨#[]⟩, .slice none 0 0, .slice none 0 0] 25) := ⟨_, rfl⟩
      obtain ⟨n5, hn⟩ : ∃ x, x = W2.heap.size := ⟨_, rfl⟩
      have hcx : Chg [] W2 W3 := by rw [hX]; exact (Chg.refl _ _).alloc _
      have hbx : W3.heap[n5]? = some (.cells #[.int .i64 2, .int .i64 i, .string ⟨#[]⟩, .slice none 0 0, .slice none 0 0, .int .i64 0, .int .i64 0, .string ⟨#[]⟩, .slice none 0 0, .slice none 0 0] 25 (0, 0)) := by rw [hX, hn]; exact heap_at _ _ _ rfl
      have Hge5 : Hid (mb ≤ n5) := Lib.hid (by have h1 := (HcA.out.trans (HcB.out.trans Hc2.out)).size; have h2 := Hmb.out; omega)
      have Hgt5 : Hid (mb + 1 < n5) := Lib.hid (by have h1 := Hc2.out.size; have h2 := lt_of_obj Hr3.out; omega)
      rw [← hX, ← hn]
      clear hX hn
      have Hc3 := Lib.hid (Hc2.out.trans hcx)
      have Hn0 := Lib.hid ((hcx.block n0 (lt_of_obj Hn0.out) (by simp)).trans Hn0.out)
      have Hn5 := Lib.hid hbx
      clear hbx
      have hS := HS.out _ Hc3.out
      refine hK _ _ (fun _ => hS) trivial ?_
      clear hK K hcx
      refine anyU_one (k := 6) (by kernel_rfl) rfl (fun K hK => ?_)
      go_simp
      refine (object_any (some ⟨n0, 0, none⟩) (some ⟨n5, 0, none⟩) 2 2 2 2 W3).mono ?_
      rintro e W4 ⟨rfl, hcx⟩
      have Hc4 := Lib.hid (Hc3.out.trans hcx)
      have Hn0 := Lib.hid ((hcx.block n0 (lt_of_obj Hn0.out) (by simp)).trans Hn0.out)
      have Hn5 := Lib.hid ((hcx.block n5 (lt_of_obj Hn5.out) (by simp)).trans Hn5.out)
      have hS := HS.out _ Hc4.out
      refine hK _ _ (fun _ => hS) trivial ?_
      clear hK K hcx
      refine anyU_one (k := 7) (by kernel_rfl) rfl (fun K hK => ?_)
      have hrx := (Hc4.out.block (mb + 1) (lt_of_obj Hr3.out) (by simp)).trans Hr3.out
      obtain ⟨r0, r1, r2, r3, r4⟩ := box_kept (mb + 1) hrx (Chg.refl [] W4)
      have fr := fun i => frozen_of_heap (i := i) hrx
      have lr := lt_of_cell r0
      go_simp
      refine hK _ _ (fun h => by simp at h) trivial ?_
      clear hK K hS
      refine anyU_done (by kernel_rfl) ?_
      go_wp2_with fail
      refine bodyPost_ret (v := .agg #[.int .i64 5, .int .i64 0, .string ⟨#[]⟩, .slice (some ⟨n0, 0, none⟩) 2 2, .slice (some ⟨n5, 0, none⟩) 2 2]) (by simp [results, Tryd.results33, go_sem, r0, r1, r2, r3, r4]) rfl ?_
      have hcs := st5_chg W4 (mb + 1) 0 ⟨5, 0, ⟨#[]⟩, some ⟨n0, 0, none⟩, 2, 2, some ⟨n5, 0, none⟩, 2, 2⟩
      exact toObj3_end ((hcs.block n0 (lt_of_obj Hn0.out) (by have h2 := Hgt0.out; simp; omega)).trans Hn0.out) ((hcs.block n5 (lt_of_obj Hn5.out) (by have h2 := Hgt5.out; simp; omega)).trans Hn5.out) Hge0.out Hge5.out Hmb.out ((HcA.out.trans (HcB.out.trans Hc4.out)).comp hcs fun g hg => Or.inr (by have := List.mem_singleton.1 hg; have := Hmb.out; omega))
    · skip
      go_simp
      obtain ⟨W2, hX⟩ : ∃ x, x = W1.alloc (.cells #[.int .i64 2, .int .i64 i, .string ⟨#[]⟩, .slice none 0 0, .slice none 0 0, .int .i64 0, .int .i64 0, .string ⟨#[]⟩, .slice none 0 0, .slice none 0 0] 25) := ⟨_, rfl⟩
      obtain ⟨n5, hn⟩ : ∃ x, x = W1.heap.size := ⟨_, rfl⟩
      have hcx : Chg [] W1 W2 := by rw [hX]; exact (Chg.refl _ _).alloc _
      have hbx : W2.heap[n5]? = some (.cells #[.int .i64 2, .int .i64 i, .string ⟨#[]⟩, .slice none 0 0, .slice none 0 0, .int .i64 0, .int .i64 0, .string ⟨#[]⟩, .slice none 0 0, .slice none 0 0] 25 (0, 0)) := by rw [hX, hn]; exact heap_at _ _ _ rfl
      have Hge5 : Hid (mb ≤ n5) := Lib.hid (by have h1 := (HcA.out.trans (HcB.out.trans Hc1.out)).size; have h2 := Hmb.out; omega)
      have Hgt5 : Hid (mb + 1 < n5) := Lib.hid (by have h1 := Hc1.out.size; have h2 := lt_of_obj Hr3.out; omega)
      rw [← hX, ← hn]
      clear hX hn
      have Hc2 := Lib.hid (Hc1.out.trans hcx)
      have Hn5 := Lib.hid hbx
      clear hbx
      have hS := HS.out _ Hc2.out
      refine hK _ _ (fun _ => hS) trivial ?_
      clear hK K hcx
      refine anyU_one (k := 0) (by kernel_rfl) rfl (fun K hK => ?_)
      go_simp
      obtain ⟨W3, hX⟩ : ∃ x, x = W2.alloc (.cells #[.string ⟨#[105, 100]⟩, .string ⟨#[114, 101, 115, 117, 108, 116]⟩] 9) := ⟨_, rfl⟩
      obtain ⟨n0, hn⟩ : ∃ x, x = W2.heap.size := ⟨_, rfl⟩
      have hcx : Chg [] W2 W3 := by rw [hX]; exact (Chg.refl _ _).alloc _
      have hbx : W3.heap[n0]? = some (.cells #[.string ⟨#[105, 100]⟩, .string ⟨#[114, 101, 115, 117, 108, 116]⟩] 9 (0, 0)) := by rw [hX, hn]; exact heap_at _ _ _ rfl
      have Hge0 : Hid (mb ≤ n0) := Lib.hid (by have h1 := (HcA.out.trans (HcB.out.trans Hc2.out)).size; have h2 := Hmb.out; omega)
      have Hgt0 : Hid (mb + 1 < n0) := Lib.hid (by have h1 := Hc2.out.size; have h2 := lt_of_obj Hr3.out; omega)
      rw [← hX, ← hn]
      clear hX hn
      have Hc3 := Lib.hid (Hc2.out.trans hcx)
      have Hn5 := Lib.hid ((hcx.block n5 (lt_of_obj Hn5.out) (by simp)).trans Hn5.out)
      have Hn0 := Lib.hid hbx
      clear hbx
      have hS := HS.out _ Hc3.out
      refine hK _ _ (fun _ => hS) trivial ?_
      clear hK K hcx
      refine anyU_one (k := 6) (by kernel_rfl) rfl (fun K hK => ?_)
      go_simp
      refine (object_any (some ⟨n0, 0, none⟩) (some ⟨n5, 0, none⟩) 2 2 2 2 W3).mono ?_
      rintro e W4 ⟨rfl, hcx⟩
      have Hc4 := Lib.hid (Hc3.out.trans hcx)
      have Hn5 := Lib.hid ((hcx.block n5 (lt_of_obj Hn5.out) (by simp)).trans Hn5.out)
      have Hn0 := Lib.hid ((hcx.block n0 (lt_of_obj Hn0.out) (by simp)).trans Hn0.out)
      have hS := HS.out _ Hc4.out
      refine hK _ _ (fun _ => hS) trivial ?_
      clear hK K hcx
      refine anyU_one (k := 7) (by kernel_rfl) rfl (fun K hK => ?_)
      have hrx := (Hc4.out.block (mb + 1) (lt_of_obj Hr3.out) (by simp)).trans Hr3.out
      obtain ⟨r0, r1, r2, r3, r4⟩ := box_kept (mb + 1) hrx (Chg.refl [] W4)
      have fr := fun i => frozen_of_heap (i := i) hrx
      have lr := lt_of_cell r0
      go_simp
      refine hK _ _ (fun h => by simp at h) trivial ?_
      clear hK K hS
      refine anyU_done (by kernel_rfl) ?_
      go_wp2_with fail
      refine bodyPost_ret (v := .agg #[.int .i64 5, .int .i64 0, .string ⟨#[]⟩, .slice (some ⟨n0, 0, none⟩) 2 2, .slice (some ⟨n5, 0, none⟩) 2 2]) (by simp [results, Tryd.results33, go_sem, r0, r1, r2, r3, r4]) rfl ?_
      have hcs := st5_chg W4 (mb + 1) 0 ⟨5, 0, ⟨#[]⟩, some ⟨n0, 0, none⟩, 2, 2, some ⟨n5, 0, none⟩, 2, 2⟩
      exact toObj3_end ((hcs.block n0 (lt_of_obj Hn0.out) (by have h2 := Hgt0.out; simp; omega)).trans Hn0.out) ((hcs.block n5 (lt_of_obj Hn5.out) (by have h2 := Hgt5.out; simp; omega)).trans Hn5.out) Hge0.out Hge5.out Hmb.out ((HcA.out.trans (HcB.out.trans Hc4.out)).comp hcs fun g hg => Or.inr (by have := List.mem_singleton.1 hg; have := Hmb.out; omega))
end Go.Proofs.YtiklgipcgdgkoaaDoor.Jv
