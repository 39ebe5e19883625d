/- slices.AppendSeq, Collect at strings: against whatever iterator. -/
import Derived.Test.YtdekngkcojfhmaaFwK
namespace Go.Proofs.Ytdekngkcojfhmaa
open Go.RowKit Go.ChangeMaps Go.MapKept Go.Shelf
set_option linter.unusedVariables false
set_option linter.unusedSimpArgs false
attribute [local go_sem] Oper.semAt_some
/-- what has come so far -/
def AqS (w : World) (pre : List ByteArray) (W : World) : Prop :=
  ∃ v, Boxed W w.heap.size 35 v ∧ W.ownsRow (w.heap.size + 1) 9 1 v pre.length (pre.map sk) ∧ Chg [] w W ∧ w.heap.size + 1 ≤ W.heap.size
theorem AqS.cells {w W : World} {v : Value} {n : Nat} {us : List Value} (hb : Boxed W w.heap.size 35 v) (hr : W.ownsRow (w.heap.size + 1) 9 1 v n us) : CellB W (w.heap.size :: v.ownBlock.toList) := by
  intro k hk
  rcases List.mem_cons.1 hk with rfl | hk
  · exact ⟨_, _, _, hb⟩
  · rcases hr.2 with ⟨hv, _⟩ | ⟨g', cap', cur', hv, _, hgb, _⟩
    · rw [hv] at hk; simp [Value.ownBlock] at hk
    · rw [hv] at hk
      obtain rfl : g' = k := by simpa [Value.ownBlock, eq_comm] using hk
      exact ⟨_, _, _, hgb⟩
theorem AqS.own (w : World) (D : Nat) (hD : w.heap.size ≤ D) : OwnFrom D (AqS w) := by
  rintro pre A A' row ⟨v, h1, h2, h6, h7⟩ hg hr
  have hne : ∀ {b : Nat} {t : TypeId} {x : Value}, Boxed A b t x → some b ≠ row := fun hb e => by
    obtain ⟨_, o, ho, hc⟩ := hr _ e.symm
    rw [show A.heap[_]? = _ from hb] at ho; cases ho; cases hc
  refine ⟨v, h1.kept hg (hne h1), h2.kept hg ?_, h6.grown hg (fun k e => Or.inr (by have := (hr k e).1; omega)), Nat.le_trans h7 hg.size⟩
  rcases h2.2 with ⟨rfl, _⟩ | ⟨g, cap, cur, rfl, _, hgb, _⟩
  · exact .inl rfl
  · refine .inr fun e' => ?_
    obtain ⟨_, o, ho, hc⟩ := hr g (by simpa [Value.ownBlock] using e'.symm)
    rw [hgb] at ho; cases ho; cases hc
theorem cell_one_new (w : World) (x : Value) (ty : TypeId) : ∀ i u, ([x] : List Value)[i]? = some u → (w.alloc (.cells #[x] ty)).cell? ((⟨w.heap.size, 0, none⟩ : Addr).add i) = some u := by
  intro i u hu
  rw [Addr.add_lit, Nat.zero_add]
  exact cell_of_heap (heap_at _ _ _ rfl) (by simpa using hu)
theorem Try.infoStr : (Try.prog.info? 9).map (fun i => (i.zero, i.size, i.bytes)) = some (some (.string ⟨#[]⟩), 1, 16) := by kernel_rfl
set_option maxRecDepth 100000 in
set_option maxHeartbeats 4000000 in
theorem appendSeqS_in (n : Nat) (gf : Nat) (lb : Array Value) (eg : ∀ args w, (callFunc gf args).run Try.prog w = .ok (.enter gf args) w) (S : List ByteArray → Prop) (N : Nat) (hN : N ≤ 100000) (w : World)
    (hseq : SeqStopsK Fence.wide (n + 1) Try.prog gf lb (fun x : ByteArray => #[sk x]) KeepsWalks S (fun _ => True) N (w.alloc (.cells #[.slice none 0 0] 35))) :
    CallsIn Fence.wide (n + 2) Try.prog 34 #[.slice none 0 0, .func (.func gf) #[] lb] w fun e w' => ∃ v ks, e = .returned v ∧ S ks ∧ w'.ownsRow (w.heap.size + 1) 9 1 v ks.length (ks.map sk) ∧ Chg [] w w' := by
  obtain ⟨i0, hi, hz0, hz1, hz2⟩ := info_parts Try.infoStr
  have Hi := Lib.hid hi
  have Hz0 := Lib.hid hz0
  have Hz1 := Lib.hid hz1
  have Hz2 := Lib.hid hz2
  clear hi hz0 hz1 hz2
  have Hst := hseq
  clear hseq
  refine callsIn_of_wp_marks Try.func34 rfl trivial ?_ rfl
  simp only [Try.ntmps34, List.size_toArray, List.length_cons, List.length_nil, Nat.reduceAdd, Nat.reduceSub, Array.replicate_succ, Array.replicate_zero, List.push_toArray, List.append_toArray, List.nil_append, List.cons_append]
  gi_wp2
  obtain ⟨WL, hWL⟩ : ∃ x, x = w.alloc (.cells #[.slice none 0 0] 35) := ⟨_, rfl⟩
  have hsz : WL.heap.size = w.heap.size + 1 := by rw [hWL]; simp
  have hcw : Chg [] w WL := by rw [hWL]; exact (Chg.refl [] w).alloc _
  have b0 : Boxed WL w.heap.size 35 (.slice none 0 0) := by rw [hWL]; exact Boxed.new w _ _
  rw [← hWL] at Hst ⊢
  clear hWL
  have H0 : AqS w [] WL := ⟨_, b0, World.ownsRow_nil _ _ _ _, hcw, by omega⟩
  refine wpIn_range_boxed rfl (by omega) (gf := gf) (lb := lb) rfl trivial eg Hst KeepsWalks.trans (fun W l o o' _ hl _ hw => KeepsWalks.putObj o' hl hw) (Below.refl _ _) (fun _ => rfl) (AqS w) (fun _ _ _ => False) (AqS.own w _ (by omega)) (fun _ _ _ _ _ hs _ _ => hs) H0
    (fun x gd T => (T.setIfInBounds 7 (sk x)).setIfInBounds 5 (sk x)) (fun _ _ _ => True) (fun x gd _ _ _ _ _ _ _ => trivial) ?assign ?body ?done ?stop
  case assign =>
    rintro l pre x W K ⟨v, hb, hr, hc, hz⟩ hK
    have hfin := hK 0 W (keepsFrom_of_chg (Chg.refl [] W) (fun k hk => by cases hk)) (keepsWalks_of_chg (Chg.refl [] W) (fun k hk => by cases hk)) ⟨v, hb, hr, hc, hz⟩ trivial
    have HF := Lib.hid hfin
    clear hK hfin
    unfold sk at HF ⊢
    simp only [List.setIfInBounds_toArray, List.set_cons_zero, List.set_cons_succ] at HF ⊢
    gi_wp2
    exact HF.out
  case body =>
    rintro l pre x gd W ⟨v, hb, hr, hc, hz⟩ _ hlt
    obtain ⟨av, cv, rfl⟩ := ownsRow_shape hr
    have c2 := hb.cell
    have lb' := hb.lt
    have Hb := Lib.hid hb
    have Hr := Lib.hid hr
    have Hc := Lib.hid hc
    have hlen : pre.length < 100000 := by omega
    clear hb hr hc Hst H0 b0 hsz hcw
    unfold sk
    simp only [List.setIfInBounds_toArray, List.set_cons_zero, List.set_cons_succ]
    have hend : ∀ (a8 : Option Addr) (cap8 : Nat) (w8 : World), w8.ownsRow (w.heap.size + 1) 9 1 (.slice a8 (pre.length + 1) cap8) (pre.length + 1) (pre.map sk ++ [.string x]) → (W.alloc (.cells #[.string x] 9)).grownBy w8 (Value.slice av pre.length cv).ownBlock →
        w8.cell? ⟨w.heap.size, 0, none⟩ = some (.slice av pre.length cv) ∧ w8.frozen? ⟨w.heap.size, 0, none⟩ = false ∧
        KeepsFrom WL.heap.size W (w8.setCell ⟨w.heap.size, 0, none⟩ (.slice a8 (pre.length + 1) cap8)) ∧ KeepsWalks W (w8.setCell ⟨w.heap.size, 0, none⟩ (.slice a8 (pre.length + 1) cap8)) ∧ AqS w (pre ++ [x]) (w8.setCell ⟨w.heap.size, 0, none⟩ (.slice a8 (pre.length + 1) cap8)) := by
      intro a8 cap8 w8 hown8 hgr8
      have hgo : ∀ g, (Value.slice av pre.length cv).ownBlock = some g → w.heap.size + 1 ≤ g := fun g hg => (ownsRow_ge Hr.out hg).1
      have hb8 : Boxed w8 w.heap.size 35 (.slice av pre.length cv) := (Hb.out.alloc _).kept hgr8 (fun e => by have := hgo _ e.symm; omega)
      have hc8 : Chg ((Value.slice av pre.length cv).ownBlock.toList) W w8 := (((Chg.refl _ W).alloc _).grown hgr8 (fun k e => Or.inl (by simp [e])))
      have hc9 : Chg (w.heap.size :: (Value.slice av pre.length cv).ownBlock.toList) W (w8.setCell ⟨w.heap.size, 0, none⟩ (.slice a8 (pre.length + 1) cap8)) := (hc8.mono (fun k hk => List.mem_cons_of_mem _ hk)).setCell (Or.inl (by simp)) _
      have hcb := AqS.cells Hb.out Hr.out
      refine ⟨hb8.cell, hb8.frozen, keepsFrom_of_chg hc9 hcb, keepsWalks_of_chg hc9 hcb, _, heap_setCell_same hb8 _, ?_, ?_, Nat.le_trans hz hc9.size⟩
      · have e1 : (pre ++ [x]).length = pre.length + 1 := by simp
        have e2 : (pre ++ [x]).map sk = pre.map sk ++ [.string x] := by rw [List.map_append]; rfl
        rw [e1, e2]
        exact ownsRow_kept hown8 fun g hg _ => heap_setCell_ne _ _ _ _ (by have := (ownsRow_ge hown8 hg).1; show g ≠ w.heap.size; omega)
      · exact ⟨hc9.os.trans Hc.out.os, hc9.tape.trans Hc.out.tape, hc9.output.trans Hc.out.output, Nat.le_trans Hc.out.size hc9.size, fun k hk _ => (hc9.block k (Nat.lt_of_lt_of_le hk Hc.out.size) (by
          intro hm
          rcases List.mem_cons.1 hm with rfl | hm
          · omega
          · have := hgo k (by simpa using hm); omega)).trans (Hc.out.block k hk (by simp))⟩
    have Hend := Lib.hid hend
    clear hend
    gi_wp2_with (gi_at_builtin; refine wpListIn_append_own _ rfl _ _ 35 rfl (w.heap.size + 1) 9 i0 (.string ⟨#[]⟩) 1 16 Try.underlying35 Hi.out Hz0.out Hz1.out Hz2.out rfl (by decide) (.slice av pre.length cv) pre.length (pre.map sk) rfl (Hr.out.alloc _) ⟨W.heap.size, 0, none⟩ 1 1 [.string x] rfl rfl (cell_one_new _ _ _) (by simp [Value.oneCell']) (by unfold maxLen; omega) (by omega) (by simp; omega) ?_; intro v8 w8 hown8 hgr8 hnil8; obtain ⟨a8, cap8, rfl⟩ := ownsRow_shape hown8; obtain ⟨k12, kf12, hF⟩ := Hend.out a8 cap8 w8 hown8 hgr8; have HF := Lib.hid hF; clear hown8 hgr8 hnil8 hF)
    exact HF.out
  case done =>
    rintro D ks W hD hS ⟨v, hb, hr, hc, hz⟩ hK
    have c2 := hb.cell
    have hne : ∀ g, v.ownBlock = some g → g ≠ D := fun g hg e => by
      obtain ⟨c, t, fr, hcc⟩ := AqS.cells hb hr g (List.mem_cons_of_mem _ (by simp [hg]))
      rw [e, hK] at hcc
      cases hcc
    have hfin : S ks ∧ (W.putObj D (.deferred none)).ownsRow (w.heap.size + 1) 9 1 v ks.length (ks.map sk) ∧ Chg [] w (W.putObj D (.deferred none)) :=
      ⟨hS, ownsRow_kept hr fun g hg _ => World.putObj_heap_other (hne g hg), hc.grown (grownBy_putObj' W D _) (fun k e => Or.inr (by cases e; omega))⟩
    have Hfin := Lib.hid hfin
    clear hS hr hc hb hne hfin Hst H0 b0 hsz hcw
    gi_wp2
    refine ⟨by simp, .inl ⟨_, _, rfl, run_takeDeferred hK, ?_⟩⟩
    refine ⟨_, ?_, _, ks, rfl, Hfin.out.1, Hfin.out.2.1, Hfin.out.2.2⟩
    simp [results, Try.f34, go_sem]
  case stop =>
    rintro D c pre W _ _ h _
    exact h.elim
end Go.Proofs.Ytdekngkcojfhmaa
