/- slices.Insert at keys, one key. -/
import Derived.Test.YtenjjiilcdgimaaDgC
import Derived.Deep.AppendLies
namespace Go.Proofs.Ytenjjiilcdgimaa
open Go.RowKit Go.ChangeMaps Go.MapKept Go.Shelf
set_option linter.unusedVariables false
set_option linter.unusedSimpArgs false
def InsPost (w : World) (B : Nat) (v : Value) (l : List I3) (k : I3) (i : Nat) (e : Ending) (w' : World) : Prop :=
  ∃ v', e = .returned v' ∧ OwnK w' B v' (l.take i ++ k :: l.drop i) ∧ Chg v.ownBlock.toList w w' ∧ ∀ g, v'.ownBlock = some g → v.ownBlock = some g ∨ w.heap.size ≤ g
set_option maxRecDepth 100000 in
set_option maxHeartbeats 4000000 in
/-- at the end -/
theorem insEnd_any (w : World) (B : Nat) (v : Value) (l : List I3) (k : I3) (vb : Nat) (h : OwnK w B v l) (hl : l.length ≤ 1000) (hvb : w.heap[vb]? = some (.cells #[.int .i64 k.1, .int .i64 k.2.1, .int .i64 k.2.2] 24 (0, 0))) (hB : B ≤ w.heap.size) :
    Calls Try.prog 34 #[v, .int .i64 (l.length : Nat), .slice (some ⟨vb, 0, none⟩) 1 1] w (InsPost w B v l k l.length) := by
  obtain ⟨a, cap, rfl⟩ := ownsRow_shape h
  obtain ⟨i0, hi, hz0, hz1, hz2⟩ := info_parts Try.infoK
  have hcl : l.length ≤ cap := by
    rcases h.2 with ⟨hv, hx⟩ | ⟨g, cap', cur', hv, hge, hh, h3, _⟩
    · omega
    · cases hv; exact h3
  have Hi0 := Lib.hid hi
  have Hz0 := Lib.hid hz0
  have Hz1 := Lib.hid hz1
  have Hz2 := Lib.hid hz2
  have H := Lib.hid h
  have HB := Lib.hid hB
  have Hnews := Lib.hid (show ∀ j u, ([.int .i64 k.1, .int .i64 k.2.1, .int .i64 k.2.2] : List Value)[j]? = some u → w.cell? ((⟨vb, 0, none⟩ : Addr).add j) = some u from news_of hvb)
  have hc1 : (l.length : Int) ≤ (cap : Int) := by omega
  clear hi hz0 hz1 hz2 h hB hvb
  by_cases hcc : cap = l.length
  · subst hcc
    go_enter Try.func34, Try.ntmps34
    go_wp2_with (at_builtin; refine wpList_append_lies _ rfl _ _ 26 rfl B 24 i0 (.agg #[.int .i64 0, .int .i64 0, .int .i64 0]) 3 24 Try.underlying26 Hi0.out Hz0.out Hz1.out Hz2.out rfl (by decide) (.slice a l.length _) l.length (kCells l) rfl H.out ⟨vb, 0, none⟩ 1 1 [.int .i64 k.1, .int .i64 k.2.1, .int .i64 k.2.2] rfl rfl Hnews.out (by simp [Value.oneCell']) (by omega) (by unfold maxLen; omega) (by omega) HB.out w.heap.size rfl ?_; intro gg cap8 w8 hown8 hgr8 hat8 hlt8)
    go_ret
    refine ⟨_, rfl, ?_, (own_chg H.out hgr8).1, fun g hg => ?_⟩
    · unfold OwnK
      rw [List.take_length, List.drop_length, kCells_append, kCells_one, List.length_append]
      exact hown8
    · have hg' : gg = g := by simpa [Value.ownBlock] using hg
      rw [← hg']
      exact hat8.imp id fun h => by omega
  · have hcc1 : ¬ cap = l.length := hcc
    go_enter Try.func34, Try.ntmps34
    go_wp2_with (at_builtin; refine wpList_append_lies _ rfl _ _ 26 rfl B 24 i0 (.agg #[.int .i64 0, .int .i64 0, .int .i64 0]) 3 24 Try.underlying26 Hi0.out Hz0.out Hz1.out Hz2.out rfl (by decide) (.slice a l.length _) l.length (kCells l) rfl H.out ⟨vb, 0, none⟩ 1 1 [.int .i64 k.1, .int .i64 k.2.1, .int .i64 k.2.2] rfl rfl Hnews.out (by simp [Value.oneCell']) (by omega) (by unfold maxLen; omega) (by omega) HB.out w.heap.size rfl ?_; intro gg cap8 w8 hown8 hgr8 hat8 hlt8)
    go_ret
    refine ⟨_, rfl, ?_, (own_chg H.out hgr8).1, fun g hg => ?_⟩
    · unfold OwnK
      rw [List.take_length, List.drop_length, kCells_append, kCells_one, List.length_append]
      exact hown8
    · have hg' : gg = g := by simpa [Value.ownBlock] using hg
      rw [← hg']
      exact hat8.imp id fun h => by omega
theorem shape_of_heap {w : World} {g : Nat} {c : Array Value} {E : TypeId} {fr : Nat × Nat} (h : w.heap[g]? = some (.cells c E fr)) : w.shape? g = some (E, c.size) := by
  simp [World.shape?, h]
theorem sizeK (w : World) : (Go.sizeOf 24).run Try.prog w = .ok 3 w := by
  obtain ⟨i0, hi, hz0, hz1, hz2⟩ := info_parts Try.infoK
  simp [Go.sizeOf, typeInfo, hi, hz1]
theorem sizeK' : (Try.prog.info? 24).map (·.size) = some 3 := by
  obtain ⟨i0, hi, hz0, hz1, hz2⟩ := info_parts Try.infoK
  rw [hi]; simp [hz1]
theorem overlaps_run (w : World) (vb g off lb cb : Nat) (cs cg : Array Value) (hvb : w.heap[vb]? = some (.cells cs 24 (0, 0))) (hg : w.heap[g]? = some (.cells cg 24 (0, 0))) (hne : vb ≠ g) (h0 : cg.size ≠ 0) :
    (callFunc 39 #[.slice (some ⟨vb, 0, none⟩) 1 1, .slice (some ⟨g, off, none⟩) lb cb]).run Try.prog w = .ok (.value (.bool false)) w := by
  rw [run_callFunc_extern Try.func39 (by kernel_rfl) (by kernel_rfl) (by kernel_rfl) (e := Extern.SlicesOverlaps.overlaps #[26, 26] #[4]) (by kernel_rfl),
    Lib.run_overlaps_apart w 26 4 24 Try.underlying26 3 sizeK ⟨vb, 0, none⟩ ⟨g, off, none⟩ 1 1 lb cb hne _ _ _ _ (shape_of_heap hvb) (shape_of_heap hg) h0 (frozen_of_heap hvb) (frozen_of_heap hvb)]
  rfl
theorem setRow_chg (w : World) (g : Nat) (cs : Array Value) : Chg [g] w (w.setRow g cs) :=
  ⟨rfl, rfl, rfl, by simp [World.setRow], fun k hk hn => setRow_other w g k cs (by simpa using hn)⟩
set_option maxRecDepth 100000 in
set_option maxHeartbeats 4000000 in
/-- in the middle, with room -/
theorem insShift_any (w : World) (B g cap : Nat) (l : List I3) (k : I3) (i : Nat) (vb : Nat) (h : OwnK w B (.slice (some ⟨g, 0, none⟩) l.length cap) l) (hl : l.length ≤ 1000) (hil : i < l.length) (hroom : l.length + 1 ≤ cap) (hvb : w.heap[vb]? = some (.cells #[.int .i64 k.1, .int .i64 k.2.1, .int .i64 k.2.2] 24 (0, 0))) (hne : vb ≠ g) (hB : B ≤ w.heap.size) :
    Calls Try.prog 34 #[.slice (some ⟨g, 0, none⟩) l.length cap, .int .i64 (i : Nat), .slice (some ⟨vb, 0, none⟩) 1 1] w (InsPost w B (.slice (some ⟨g, 0, none⟩) l.length cap) l k i) := by
  obtain ⟨cur, hge, hh, h3, h4, h5, h6⟩ : ∃ cur, B ≤ g ∧ w.heap[g]? = some (.cells cur 24 (0, 0)) ∧ l.length ≤ cap ∧ cap ≤ maxLen ∧ cur.size = cap * 3 ∧ cur.toList.take (l.length * 3) = kCells l := by
    rcases h.2 with ⟨hv, hx⟩ | ⟨g', cap', cur', hv, hge, hh, h3, h4, h5, h6⟩
    · omega
    · cases hv; exact ⟨cur', hge, hh, h3, h4, h5, h6⟩
  have hov := fun off lb cb => overlaps_run w vb g off lb cb _ cur hvb hh hne (by omega)
  have hz2 : ¬ ((i : Int) = (l.length : Int)) := by omega
  have hi1 : (i : Int) ≤ l.length := by omega
  have hi2 : (i : Int) ≤ (l.length : Int) + 1 := by omega
  have hi3 : (l.length : Int) + 1 ≤ cap := by omega
  have hi4 : (i : Int) + 1 ≤ (l.length : Int) + 1 := by omega
  have hb2 : ¬ (cap = i + 1) := by omega
  have hb4 : ¬ (cap = i) := by omega
  have hw1 : IntKind.i64.wrap ((i : Int) + 1) = (i : Int) + 1 := IntWalk.i64_in _ (by omega)
  have hb1 : (0 : Int) ≤ (i : Int) + 1 := by omega
  have htn : ((i : Int) + 1).toNat = i + 1 := by omega
  have hsplit : cur.toList = kCells (l.take i) ++ kCells (l.drop i) ++ cur.toList.drop (l.length * 3) := by
    rw [← kCells_append, List.take_append_drop, ← h6, List.take_append_drop]
  have hA : (kCells (l.take i)).length = i * 3 := by rw [kCells_len, List.length_take]; omega
  have hBl : (kCells (l.drop i)).length = (l.length - i) * 3 := by rw [kCells_len, List.length_drop]
  have hR : 3 ≤ (cur.toList.drop (l.length * 3)).length := by rw [List.length_drop, Array.length_toList]; omega
  have hsrcB : ∀ (W : World), W.heap[g]? = w.heap[g]? → ∀ j v, (kCells (l.drop i))[j]? = some v → W.cell? ((⟨g, i * 3, none⟩ : Addr).add j) = some v := by
    intro W hW j v hj
    rw [Addr.add_lit]
    refine cell_of_heap (hW.trans hh) ?_
    have hj' := (List.getElem?_eq_some_iff.1 hj).1
    have : cur.toList[i * 3 + j]? = some v := by
      rw [hsplit, List.append_assoc, List.getElem?_append_right (by omega), hA, List.getElem?_append_left (by omega), show i * 3 + j - i * 3 = j by omega]
      exact hj
    simpa using this
  obtain ⟨C1, hC1⟩ : ∃ C1, C1 = cur.toList.take (i * 3 + 3) ++ kCells (l.drop i) ++ cur.toList.drop (i * 3 + 3 + (kCells (l.drop i)).length) := ⟨_, rfl⟩
  have hC1l : C1.length = cap * 3 := by rw [hC1]; simp only [List.length_append, List.length_take, List.length_drop, Array.length_toList]; omega
  have hcp1 : ∀ (W : World), W.heap[g]? = w.heap[g]? → ∀ ty dc sc, (Builtin.copy_ #[26, 26] ty #[.slice (some ⟨g, (i + 1) * 3, none⟩) (l.length - i) dc, .slice (some ⟨g, i * 3, none⟩) (l.length + 1 - i) sc]).run Try.prog W = .ok (goInt ((l.length - i : Nat) : Int)) (W.setRow g C1.toArray) := by
    intro W hW ty dc sc
    rw [run_copy_rowK (P := Try.prog) W _ _ ty 24 3 g ((i + 1) * 3) _ dc (l.length - i) ⟨g, i * 3, none⟩ _ sc cur 24 (kCells (l.drop i)) Try.underlying26 sizeK' (hW.trans hh) (by simp only [Nat.min_def]; split <;> omega) hBl (hsrcB W hW) (by omega) (kCells_oneCell _)]
    rw [hC1, show (i + 1) * 3 = i * 3 + 3 by omega]
  obtain ⟨C2, hC2⟩ : ∃ C2, C2 = kCells (l.take i) ++ [.int .i64 k.1, .int .i64 k.2.1, .int .i64 k.2.2] ++ kCells (l.drop i) ++ (cur.toList.drop (l.length * 3)).drop 3 := ⟨_, rfl⟩
  have hC2l : C2.length = cap * 3 := by rw [hC2]; simp only [List.length_append, List.length_cons, List.length_nil, List.length_drop, Array.length_toList]; omega
  have hshift := shift_list cur.toList (kCells (l.take i)) (kCells (l.drop i)) [.int .i64 k.1, .int .i64 k.2.1, .int .i64 k.2.2] (cur.toList.drop (l.length * 3)) 3 hsplit rfl hR
  rw [hA, ← hC1, ← hC2] at hshift
  have hcp2 : ∀ (W : World), W.heap[g]? = some (.cells C1.toArray 24 (0, 0)) → W.heap[vb]? = w.heap[vb]? → ∀ ty dc, (Builtin.copy_ #[26, 26] ty #[.slice (some ⟨g, i * 3, none⟩) (l.length + 1 - i) dc, .slice (some ⟨vb, 0, none⟩) 1 1]).run Try.prog W = .ok (goInt 1) (W.setRow g C2.toArray) := by
    intro W hW hV ty dc
    rw [run_copy_rowK (P := Try.prog) W _ _ ty 24 3 g (i * 3) _ dc 1 ⟨vb, 0, none⟩ 1 1 C1.toArray 24 [.int .i64 k.1, .int .i64 k.2.1, .int .i64 k.2.2] Try.underlying26 sizeK' hW (by simp only [Nat.min_def]; split <;> omega) rfl (news_of (hV.trans hvb)) (by simp; omega) (by simp [Value.oneCell'])]
    rw [← hshift]
    simp
  have Hcp1 := Lib.hid hcp1
  have Hcp2 := Lib.hid hcp2
  have Hfin := Lib.hid (And.intro hC1l (And.intro hC2l (And.intro hC2 (And.intro h5 (And.intro hA hBl)))))
  have Hh := Lib.hid hh
  have Hne := Lib.hid hne
  have Hvb := Lib.hid hvb
  have Hge := Lib.hid hge
  clear hcp1 hcp2 hC1l hC2l hC2 hC1 hshift hsrcB hR hsplit h5 h6 hA hBl
  unfold maxLen at h4
  have hcap := h4
  go_enter Try.func34, Try.ntmps34
  go_wp2_with (simp only [hov])
  obtain ⟨W1, hW1⟩ : ∃ x, x = w.drew.setRow g C1.toArray := ⟨_, rfl⟩
  have hr1 := fun ty => Hcp1.out w.drew rfl ty (cap - (i + 1)) (cap - i)
  rw [← hW1] at hr1
  have hrow1 : W1.heap[g]? = some (.cells C1.toArray 24 (0, 0)) := by rw [hW1]; exact setRow_heap w.drew g cur _ 24 (0, 0) Hh.out
  have hvb1 : W1.heap[vb]? = w.heap[vb]? := by rw [hW1]; exact setRow_other w.drew g vb _ Hne.out
  have hch1 : Chg [g] w W1 := by rw [hW1]; exact ((Chg.refl [g] w).drew).trans (setRow_chg w.drew g _)
  have HW1 := Lib.hid (And.intro hrow1 (And.intro hvb1 hch1))
  clear hW1 hrow1 hvb1 hch1
  obtain ⟨W2, hW2⟩ : ∃ x, x = W1.setRow g C2.toArray := ⟨_, rfl⟩
  have hr2 := fun ty => Hcp2.out W1 HW1.out.1 HW1.out.2.1 ty (cap - i)
  rw [← hW2] at hr2
  have hrow2 : W2.heap[g]? = some (.cells C2.toArray 24 (0, 0)) := by rw [hW2]; exact setRow_heap W1 g _ _ 24 (0, 0) HW1.out.1
  have hch2 : Chg [g] w W2 := by rw [hW2]; exact HW1.out.2.2.trans (setRow_chg W1 g _)
  have HW2 := Lib.hid (And.intro hrow2 hch2)
  clear hW2 hrow2 hch2
  go_region
  all_goals
    go_wp2_with fail
    go_ret
    obtain ⟨f1, f2, f3, f4, f5, f6⟩ := Hfin.out
    refine ⟨_, rfl, ⟨?_, .inr ⟨g, cap, C2.toArray, ?_, Hge.out, HW2.out.1, ?_, by unfold maxLen; omega, by simpa using f2, ?_⟩⟩, HW2.out.2, fun g' hg => Or.inl hg⟩
    · rw [kCells_len]
    · simp only [List.length_append, List.length_cons, List.length_take, List.length_drop]; rw [show min i l.length + (l.length - i + 1) = l.length + 1 by omega]; rfl
    · simp only [List.length_append, List.length_cons, List.length_take, List.length_drop]; omega
    · have e1 : l.take i ++ k :: l.drop i = l.take i ++ [k] ++ l.drop i := by simp
      rw [e1, kCells_append, kCells_append, kCells_one]
      have e2 : (l.take i ++ [k] ++ l.drop i).length * 3 = (kCells (l.take i) ++ [Value.int .i64 k.1, Value.int .i64 k.2.1, Value.int .i64 k.2.2] ++ kCells (l.drop i)).length := by
        simp only [List.length_append, List.length_cons, List.length_nil, kCells_len]; omega
      rw [e2]
      show C2.take _ = _
      rw [f3, List.take_left]
end Go.Proofs.Ytenjjiilcdgimaa
