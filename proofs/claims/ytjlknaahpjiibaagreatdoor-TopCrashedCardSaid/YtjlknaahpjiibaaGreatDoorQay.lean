/- Part of the proof of topCrashedLaw_holds. -/
import Derived.Deep.QuietTactic
import Derived.BigQuiet
import Derived.Deep.RegionHeld3
import Derived.DeepKeys4
import Derived.Laws.Externs
import Derived.Deep.DeepCutAuto
import Derived.Test.YtjlknaahpjiibaaGreatDoorQaa
import Derived.Test.YtjlknaahpjiibaaGreatDoorQab
import Derived.Test.YtjlknaahpjiibaaGreatDoorQae
import Derived.Test.YtjlknaahpjiibaaGreatDoorRows
namespace Go.Proofs.YtjlknaahpjiibaaGreatDoor.Jv
open Go.RowKit
set_option linter.unusedVariables false
set_option linter.unusedSimpArgs false
def rdS (w : World) (ad : Addr) (s : ByteArray) : Prop := w.cell? ad = some (.string s) ∧ s.size ≤ maxLen
def rdJ (p : Nat → Prop) : Nat → World → Addr → J → Prop
 | 0, _, _, _ => False
 | f + 1, w, ad, j => w.cell? ad = some (.int .i64 j.kind) ∧ w.cell? (⟨ad.block, ad.off + 1, none⟩ : Addr) = some (.int .i64 j.num) ∧ (w.cell? (⟨ad.block, ad.off + 2, none⟩ : Addr) = some (.string j.text) ∧ j.text.size ≤ maxLen) ∧
   ∃ nv iv, w.cell? (⟨ad.block, ad.off + 3, none⟩ : Addr) = some nv ∧ w.cell? (⟨ad.block, ad.off + 4, none⟩ : Addr) = some iv ∧ SlR p 1 rdS w nv j.names ∧ SlR p 5 (rdJ p f) w iv j.elems
def JV (p : Nat → Prop) (f : Nat) (w : World) (v : Value) (j : J) : Prop :=
 ∃ nv iv, v = .agg #[.int .i64 j.kind, .int .i64 j.num, .string j.text, nv, iv] ∧ SlR p 1 rdS w nv j.names ∧ SlR p 5 (rdJ p f) w iv j.elems ∧ j.text.size ≤ maxLen
theorem strs_kept {p : Nat → Prop} {S : Nat → Prop} {w w' : World} {v : Value} {l : List ByteArray} (h : SlR p 1 rdS w v l) (hc : ChgP S w w') (hS : ∀ k, p k → ¬ S k) : SlR p 1 rdS w' v l :=
 SlR.imp h (fun _ h => h) fun ad x hp hx => ⟨(hc.cell (lt_of_cell hx.1) (hS _ hp)).trans hx.1, hx.2⟩
theorem rdJ.kept {p : Nat → Prop} {S : Nat → Prop} {w w' : World} (hc : ChgP S w w') (hS : ∀ k, p k → ¬ S k) : ∀ {f : Nat} {ad : Addr} {j : J}, p ad.block → rdJ p f w ad j → rdJ p f w' ad j := by
 intro f
 induction f with
 | zero => intro ad j _ h; exact h
 | succ f ih =>
   intro ad j hp h
   obtain ⟨h0, h1, h2, nv, iv, h3, h4, h5, h6⟩ := h
   exact ⟨(hc.cell (lt_of_cell h0) (hS _ hp)).trans h0, (hc.cell (lt_of_cell h1) (hS _ hp)).trans h1, ⟨(hc.cell (lt_of_cell h2.1) (hS _ hp)).trans h2.1, h2.2⟩, nv, iv, (hc.cell (lt_of_cell h3) (hS _ hp)).trans h3, (hc.cell (lt_of_cell h4) (hS _ hp)).trans h4, strs_kept h5 hc hS, SlR.imp h6 (fun _ h => h) fun ad x hp hx => ih hp hx⟩
theorem JV.kept {p : Nat → Prop} {S : Nat → Prop} {w w' : World} {f : Nat} {v : Value} {j : J} (h : JV p f w v j) (hc : ChgP S w w') (hS : ∀ k, p k → ¬ S k) : JV p f w' v j := by
 obtain ⟨nv, iv, rfl, h1, h2, h3⟩ := h
 exact ⟨nv, iv, rfl, strs_kept h1 hc hS, SlR.imp h2 (fun _ h => h) fun ad x hp hx => rdJ.kept hc hS hp hx, h3⟩
theorem rdJ.imp {p q : Nat → Prop} {w : World} (hpq : ∀ g, p g → q g) : ∀ {f : Nat} {ad : Addr} {j : J}, rdJ p f w ad j → rdJ q f w ad j := by
 intro f
 induction f with
 | zero => intro ad j h; exact h
 | succ f ih =>
   intro ad j h
   obtain ⟨h0, h1, h2, nv, iv, h3, h4, h5, h6⟩ := h
   exact ⟨h0, h1, h2, nv, iv, h3, h4, SlR.imp h5 hpq fun _ _ _ h => h, SlR.imp h6 hpq fun _ _ _ h => ih h⟩
theorem JV.imp {p q : Nat → Prop} {w : World} {f : Nat} {v : Value} {j : J} (hpq : ∀ g, p g → q g) (h : JV p f w v j) : JV q f w v j := by
 obtain ⟨nv, iv, rfl, h1, h2, h3⟩ := h
 exact ⟨nv, iv, rfl, SlR.imp h1 hpq fun _ _ _ h => h, SlR.imp h2 hpq fun _ _ _ h => rdJ.imp hpq h, h3⟩
theorem JV.shape {p : Nat → Prop} {f : Nat} {w : World} {v : Value} {j : J} (h : JV p f w v j) : ∃ na nc ia ic, v = .agg #[.int .i64 j.kind, .int .i64 j.num, .string j.text, .slice na j.names.length nc, .slice ia j.elems.length ic] ∧ SlR p 1 rdS w (.slice na j.names.length nc) j.names ∧ SlR p 5 (rdJ p f) w (.slice ia j.elems.length ic) j.elems ∧ (j.names.length ≤ nc ∧ nc ≤ maxLen) ∧ (j.elems.length ≤ ic ∧ ic ≤ maxLen) ∧ j.text.size ≤ maxLen := by
 obtain ⟨nv, iv, rfl, h1, h2, h3⟩ := h
 obtain ⟨na, nc, rfl, n1, n2, n3⟩ := h1
 obtain ⟨ia, ic, rfl, i1, i2, i3⟩ := h2
 exact ⟨na, nc, ia, ic, rfl, ⟨na, nc, rfl, n1, n2, n3⟩, ⟨ia, ic, rfl, i1, i2, i3⟩, ⟨n1, n2⟩, ⟨i1, i2⟩, h3⟩
theorem elem_at {p : Nat → Prop} {f : Nat} {w : World} {a : Option Addr} {n cap : Nat} {es : List J} (h : SlR p 5 (rdJ p f) w (.slice a n cap) es) {i : Nat} (hi : i < es.length) :
 ∃ g off na nc ia ic, a = some ⟨g, off, none⟩ ∧ p g ∧ w.cell? ⟨g, off + i * 5, none⟩ = some (.int .i64 es[i].kind) ∧ w.cell? ⟨g, off + i * 5 + 1, none⟩ = some (.int .i64 es[i].num) ∧ w.cell? ⟨g, off + i * 5 + 2, none⟩ = some (.string es[i].text) ∧ w.cell? ⟨g, off + i * 5 + 3, none⟩ = some (.slice na es[i].names.length nc) ∧ w.cell? ⟨g, off + i * 5 + 4, none⟩ = some (.slice ia es[i].elems.length ic) ∧
  ∃ f', f = f' + 1 ∧ JV p f' w (.agg #[.int .i64 es[i].kind, .int .i64 es[i].num, .string es[i].text, .slice na es[i].names.length nc, .slice ia es[i].elems.length ic]) es[i] := by
 obtain ⟨g, off, rfl, hp, hr⟩ := SlR.at h i hi default
 have e : es.getD i default = es[i] := by rw [List.getD_eq_getElem?_getD, List.getElem?_eq_getElem hi, Option.getD_some]
 rw [e] at hr
 cases f with
 | zero => exact hr.elim
 | succ f =>
   obtain ⟨h0, h1, h2, nv, iv, h3, h4, h5, h6⟩ := hr
   obtain ⟨na, nc, rfl, n1, n2, n3⟩ := h5
   obtain ⟨ia, ic, rfl, i1, i2, i3⟩ := h6
   exact ⟨g, off, na, nc, ia, ic, rfl, hp, h0, h1, h2.1, h3, h4, f, rfl, _, _, rfl, ⟨na, nc, rfl, n1, n2, n3⟩, ⟨ia, ic, rfl, i1, i2, i3⟩, h2.2⟩
def LimPost (j : J) (dep cnt : Int) (cb : Nat) (w : World) (e : Ending) (w' : World) : Prop :=
 ∃ b c', e = .returned (.bool b) ∧ Chg [cb] w w' ∧ w'.cell? ⟨cb, 0, none⟩ = some (.int .i64 c') ∧ w'.frozen? ⟨cb, 0, none⟩ = false ∧ (b = true ↔ (cnt + j.nodes ≤ 400 ∧ dep + j.depth ≤ 21)) ∧ (b = true → c' = cnt + j.nodes)
theorem nodesL_take {es : List J} {i : Nat} (hi : i < es.length) : nodesL (es.take (i + 1)) = nodesL (es.take i) + es[i].nodes := by
 rw [List.take_add_one, List.getElem?_eq_getElem hi, Option.toList_some, nodesL_app, nodesL, nodesL]
 omega
theorem depthL_take {es : List J} {i : Nat} (hi : i < es.length) : depthL (es.take (i + 1)) = max (depthL (es.take i)) es[i].depth := by
 rw [List.take_add_one, List.getElem?_eq_getElem hi, Option.toList_some, depthL_app, depthL, depthL]
 omega
theorem nodesL_le (es : List J) (i : Nat) : nodesL (es.take i) ≤ nodesL es := by
 conv => rhs; rw [← List.take_append_drop i es]
 rw [nodesL_app]; omega
set_option maxRecDepth 100000 in
set_option maxHeartbeats 4000000 in
theorem limits_step (p : Nat → Prop) (cb : Nat) (hpc : ¬ p cb) (f : Nat)
 (ih : ∀ f', f' < f → ∀ (w : World) (j : J) (v : Value) (dep cnt : Int), JV p f' w v j → w.cell? ⟨cb, 0, none⟩ = some (.int .i64 cnt) → w.frozen? ⟨cb, 0, none⟩ = false → 0 ≤ cnt ∧ cnt ≤ 400 → 1 ≤ dep ∧ dep ≤ 21 →
  Calls Tryz.prog 120 #[v, .int .i64 dep, .pointer (some ⟨cb, 0, none⟩)] w (LimPost j dep cnt cb w))
 (w : World) (j : J) (v : Value) (dep cnt : Int) (hj : JV p f w v j) (hcb : w.cell? ⟨cb, 0, none⟩ = some (.int .i64 cnt)) (hfr : w.frozen? ⟨cb, 0, none⟩ = false) (hcnt : 0 ≤ cnt ∧ cnt ≤ 400) (hdep : 1 ≤ dep ∧ dep ≤ 21) :
 Calls Tryz.prog 120 #[v, .int .i64 dep, .pointer (some ⟨cb, 0, none⟩)] w (LimPost j dep cnt cb w) := by
 obtain ⟨k, n, t, ns, es⟩ := j
 obtain ⟨na, nc, a, cap, rfl, hns, hes, _, ⟨hl1, hl2⟩, _⟩ := hj.shape
 clear hj
 simp only [J.kind, J.num, J.text, J.names, J.elems] at hns hes hl1 hl2 ⊢
 have lcb := lt_of_cell hcb
 unfold maxLen at hl2
 have Hes := Lib.hid hes
 clear hns hes
 obtain ⟨w2, hw2⟩ : ∃ x, x = (w.setCell ⟨cb, 0, none⟩ (.int .i64 (cnt + 1))).alloc (.cells #[.int .i64 k, .int .i64 n, .string t, .slice na ns.length nc, .slice a es.length cap] 59) := ⟨_, rfl⟩
 have hc1 : Chg [cb] w (w.setCell ⟨cb, 0, none⟩ (.int .i64 (cnt + 1))) := (Chg.refl [cb] w).setCell (Or.inl (by simp)) _
 have hc2 : Chg [cb] w w2 := by rw [hw2]; exact hc1.alloc _
 have hsz : (w.setCell ⟨cb, 0, none⟩ (.int .i64 (cnt + 1))).heap.size = w.heap.size := by simp [World.setCell]
 have c2 : w2.cell? ⟨cb, 0, none⟩ = some (.int .i64 (cnt + 1)) := by
  rw [hw2]
  exact (((Chg.refl [] (w.setCell ⟨cb, 0, none⟩ (.int .i64 (cnt + 1)))).alloc _).cell (p := ⟨cb, 0, none⟩) (by rw [hsz]; exact lcb) (by simp)).trans (World.cell?_setCell_same' _ _ _ (by rw [hcb]; rfl))
 have f2 : w2.frozen? ⟨cb, 0, none⟩ = false := by
  rw [hw2]
  exact (((Chg.refl [] (w.setCell ⟨cb, 0, none⟩ (.int .i64 (cnt + 1)))).alloc _).frozen (p := ⟨cb, 0, none⟩) (by rw [hsz]; exact lcb) (by simp)).trans ((World.frozen?_setCell _ _ _ _).trans hfr)
 have hb2 : w2.heap[w.heap.size]? = some (.cells #[.int .i64 k, .int .i64 n, .string t, .slice na ns.length nc, .slice a es.length cap] 59 (0, 0)) := by rw [hw2]; exact heap_at _ _ _ hsz.symm
 have Hc2 := Lib.hid hc2
 have Hcf := Lib.hid (And.intro c2 f2)
 have Hb2 := Lib.hid hb2
 have Hsz := Lib.hid hsz
 clear hc1 hc2 c2 f2 hb2 hsz
 have hnod : (J.mk k n t ns es).nodes = 1 + nodesL es := by rw [J.nodes]
 have hdp : (J.mk k n t ns es).depth = 1 + depthL es := by rw [J.depth]
 have Hnd := Lib.hid (And.intro hnod hdp)
 clear hnod hdp
 by_cases h1 : cnt + 1 ≤ 400
 · by_cases h2 : dep ≤ 20
   · go_enter Tryz.func120, Tryz.ntmps120
     go_wp2_with fail
     go_loopw [25] (fun ii wr => ∃ (i : Nat) (c : Int), i ≤ es.length ∧ ii = .int .i64 (i : Nat) ∧ Hid (Chg [cb] w2 wr) ∧ Hid (wr.cell? ⟨cb, 0, none⟩ = some (.int .i64 c) ∧ wr.frozen? ⟨cb, 0, none⟩ = false) ∧ c = cnt + 1 + nodesL (es.take i) ∧ c ≤ 400 ∧ dep + 1 + depthL (es.take i) ≤ 21) (fun ii _ => es.length - (intOf ii).toNat)
     case atStart =>
      rw [← hw2]
      exact ⟨0, cnt + 1, by omega, rfl, Lib.hid (Chg.refl _ _), Hcf, by simp [nodesL], h1, by simp [depthL]; omega⟩
     case round =>
      obtain ⟨i, c, hi, rfl, Hcr, Hcc, hc, hc4, hd⟩ := hrel
      by_cases hlt : i < es.length
      · have hij : (i : Int) < es.length := by omega
        have hesr : SlR p 5 (rdJ p f) wr (.slice a es.length cap) es := SlR.imp Hes.out (fun _ h => h) fun ad x hp hx => rdJ.kept (S := fun g => g = cb) (((Hc2.out.trans Hcr.out).toP).mono fun g hg => by simpa using hg) (fun g hg e => hpc (e ▸ hg)) hp hx
        obtain ⟨g, off, na', nc', ia', ic', rfl, hpg, e0, e1, e2, e3, e4, f', rfl, hjv⟩ := elem_at hesr hlt
        obtain ⟨el, hel⟩ : ∃ el, el = es[i] := ⟨_, rfl⟩
        rw [← hel] at e0 e1 e2 e3 e4 hjv
        obtain ⟨ek, hek⟩ : ∃ x, x = el.kind := ⟨_, rfl⟩
        obtain ⟨en, hen⟩ : ∃ x, x = el.num := ⟨_, rfl⟩
        obtain ⟨et, het⟩ : ∃ x, x = el.text := ⟨_, rfl⟩
        rw [← hek] at e0 hjv
        rw [← hen] at e1 hjv
        rw [← het] at e2 hjv
        obtain ⟨nl, hnl⟩ : ∃ x, x = el.names.length := ⟨_, rfl⟩
        obtain ⟨il, hil⟩ : ∃ x, x = el.elems.length := ⟨_, rfl⟩
        rw [← hnl] at e3 hjv
        rw [← hil] at e4 hjv
        obtain ⟨w4, hw4⟩ : ∃ x, x = wr.alloc (.cells #[.int .i64 ek, .int .i64 en, .string et, .slice na' nl nc', .slice ia' il ic'] 59) := ⟨_, rfl⟩
        have hc4' : Chg [] wr w4 := by rw [hw4]; exact (Chg.refl _ _).alloc _
        have lcr := lt_of_cell Hcc.out.1
        have hb4 : w4.heap[wr.heap.size]? = some (.cells #[.int .i64 ek, .int .i64 en, .string et, .slice na' nl nc', .slice ia' il ic'] 59 (0, 0)) := by rw [hw4]; exact heap_at _ _ _ rfl
        have b0 : w4.cell? ⟨wr.heap.size, 0, none⟩ = some (.int .i64 ek) := cell_of_heap hb4 rfl
        have b1 : w4.cell? ⟨wr.heap.size, 1, none⟩ = some (.int .i64 en) := cell_of_heap hb4 rfl
        have b2 : w4.cell? ⟨wr.heap.size, 2, none⟩ = some (.string et) := cell_of_heap hb4 rfl
        have b3 : w4.cell? ⟨wr.heap.size, 3, none⟩ = some (.slice na' nl nc') := cell_of_heap hb4 rfl
        have b4 : w4.cell? ⟨wr.heap.size, 4, none⟩ = some (.slice ia' il ic') := cell_of_heap hb4 rfl
        have hcall := ih f' (by omega) w4 el _ (dep + 1) c (hjv.kept (S := fun _ => False) hc4'.p (fun _ _ h => h)) ((hc4'.cell lcr (by simp)).trans Hcc.out.1) ((hc4'.frozen (p := ⟨cb, 0, none⟩) lcr (by simp)).trans Hcc.out.2) (by omega) (by omega)
        have Hcall := Lib.hid hcall
        have Hc4 := Lib.hid hc4'
        have Hel := Lib.hid hel
        have htn := nodesL_take hlt
        have htd := depthL_take hlt
        rw [← hel] at htn htd
        have Htk := Lib.hid (And.intro htn htd)
        have hsub := nodesL_le es (i + 1)
        clear hesr hcall hc4' hel hek hen het hnl hil hjv hb4 htn htd hpg
        go_upto_region 7 with fail
        rw [← hw4]
        clear hw4 e0 e1 e2 e3 e4
        go_wp2_with fail
        refine Hcall.out.mono ?_
        rintro e w5 ⟨b, c', rfl, hch, hcc', hff', hb, hc'⟩
        have Hc5 := Lib.hid ((Hcr.out.comp Hc4.out (by simp)).trans hch)
        have Hcf5 := Lib.hid (And.intro hcc' hff')
        clear hch hcc' hff' b0 b1 b2 b3 b4
        cases b with
        | true =>
          obtain ⟨x1, x2⟩ := hb.1 rfl
          have x3 := hc' rfl
          clear hb hc'
          have Hx := Lib.hid (And.intro x1 (And.intro x2 x3))
          clear x1 x2 x3
          go_wp2_with fail
          refine ⟨⟨i + 1, c', by omega, by go_num, Hc5, Hcf5, ?_, ?_, ?_⟩, by simp [intOf]; omega⟩
          · have := Hx.out; have := Htk.out; omega
          · have := Hx.out; omega
          · have := Hx.out; have := Htk.out; omega
        | false =>
          have Hb := Lib.hid (show ¬ (c + el.nodes ≤ 400 ∧ dep + 1 + el.depth ≤ 21) from fun h => by have := hb.2 h; cases this)
          clear hb hc'
          go_wp2_with fail
          go_ret
          refine ⟨false, c', rfl, Hc2.out.trans Hc5.out, Hcf5.out.1, Hcf5.out.2, ⟨fun h => (by cases h), fun hh => ?_⟩, fun h => by cases h⟩
          exfalso
          have h1 := Hnd.out
          have h2 := Htk.out
          rw [h1.1, h1.2] at hh
          have hdl := depthL_mem (List.getElem_mem hlt)
          rw [← Hel.out] at hdl
          exact Hb.out ⟨by omega, by omega⟩
      · obtain rfl : i = es.length := by omega
        rw [List.take_length] at hc hd
        go_wp2_with fail
        go_ret
        have h1 := Hnd.out
        exact ⟨true, c, rfl, Hc2.out.trans Hcr.out, Hcc.out.1, Hcc.out.2, ⟨fun _ => by rw [h1.1, h1.2]; omega, fun _ => rfl⟩, fun _ => by rw [h1.1]; omega⟩
   · go_enter Tryz.func120, Tryz.ntmps120
     go_wp2_with fail
     rw [← hw2]
     go_ret
     have h1 := Hnd.out
     exact ⟨false, _, rfl, Hc2.out, Hcf.out.1, Hcf.out.2, ⟨fun h => (by cases h), fun hh => by rw [h1.2] at hh; omega⟩, fun h => by cases h⟩
 · go_enter Tryz.func120, Tryz.ntmps120
   go_wp2_with fail
   rw [← hw2]
   go_ret
   have h1' := Hnd.out
   exact ⟨false, _, rfl, Hc2.out, Hcf.out.1, Hcf.out.2, ⟨fun h => (by cases h), fun hh => by rw [h1'.1] at hh; omega⟩, fun h => by cases h⟩
theorem limits_any (p : Nat → Prop) (cb : Nat) (hpc : ¬ p cb) : ∀ (f : Nat) (w : World) (j : J) (v : Value) (dep cnt : Int), JV p f w v j → w.cell? ⟨cb, 0, none⟩ = some (.int .i64 cnt) → w.frozen? ⟨cb, 0, none⟩ = false → 0 ≤ cnt ∧ cnt ≤ 400 → 1 ≤ dep ∧ dep ≤ 21 →
 Calls Tryz.prog 120 #[v, .int .i64 dep, .pointer (some ⟨cb, 0, none⟩)] w (LimPost j dep cnt cb w) := by
 intro f
 induction f using Nat.strongRecOn with
 | ind f ih => exact fun w j v dep cnt h1 h2 h3 h4 h5 => limits_step p cb hpc f ih w j v dep cnt h1 h2 h3 h4 h5
end Go.Proofs.YtjlknaahpjiibaaGreatDoor.Jv
namespace Go.Proofs.YtjlknaahpjiibaaGreatDoor.Jv
open Go.RowKit Go.ChangeMaps Go.MapKept
set_option linter.unusedVariables false
set_option linter.unusedSimpArgs false
def sk (s : ByteArray) : Value := .string s
theorem skInj (x y : ByteArray) (h : sk x = sk y) : x = y := by unfold sk at h; simpa using h
theorem skOk (s : ByteArray) (h : s.size ≤ maxLen) : KeyOk Tryz.prog 9 (sk s) := by
 unfold KeyOk sk
 simp [keyOf, Tryz.underlying9, mapKey]
 exact h
theorem skeyed : Go.Maps.Keyed Tryz.prog 9 := Go.Maps.string_keyed Tryz.underlying9
theorem zeroInt (w : World) : (zeroValue 3).run Tryz.prog w = .ok (.int .i64 0) w := by
 have h : (Tryz.prog.info? 3).map (fun i => (i.zero, i.size, i.bytes)) = some (some (.int .i64 0), 1, 8) := by kernel_rfl
 obtain ⟨i0, hi, hz0, hz1, hz2⟩ := info_parts h
 simp [zeroValue, typeInfo, hi, hz0]
def mE (l : List ByteArray) : List (ByteArray × Value) := l.map fun s => (s, .int .i64 1)
theorem mE_in {l : List ByteArray} {s : ByteArray} (h : s ∈ l) : aget (mE l) s = some (.int .i64 1) := by
 unfold mE
 induction l with
 | nil => cases h
 | cons a l ih =>
   simp only [List.map_cons, aget_cons]
   by_cases h1 : a = s
   · rw [if_pos h1]
   · rw [if_neg h1]
     exact ih ((List.mem_cons.1 h).resolve_left fun e => h1 e.symm)
theorem mE_no {l : List ByteArray} {s : ByteArray} (h : s ∉ l) : aget (mE l) s = none := by
 unfold mE
 induction l with
 | nil => rfl
 | cons a l ih =>
   simp only [List.map_cons, aget_cons]
   rw [if_neg (fun e => h (by simp [e])), ih (fun hm => h (by simp [hm]))]
theorem mE_ups (l : List ByteArray) (s : ByteArray) (h : s ∉ l) : ups (mE l) s (.int .i64 1) = mE (l ++ [s]) := by
 unfold mE
 induction l with
 | nil => rfl
 | cons a l ih =>
   have h1 : ¬ a = s := fun e => h (by simp [e])
   simp only [List.map_cons, List.cons_append, ups]
   rw [if_neg h1, ih (fun hm => h (by simp [hm]))]
theorem nodup_snoc {l : List ByteArray} {s : ByteArray} (h : l.Nodup) (hs : s ∉ l) : (l ++ [s]).Nodup := by
 rw [List.nodup_append]
 exact ⟨h, by simp, fun a ha b hb e => hs (by rw [List.mem_singleton.1 hb] at e; exact e ▸ ha)⟩
set_option maxRecDepth 100000 in
set_option maxHeartbeats 4000000 in
theorem dups_any (p : Nat → Prop) (w : World) (nv : Value) (l : List ByteArray) (h : SlR p 1 rdS w nv l) :
 Calls Tryz.prog 174 #[nv] w fun e w' => e = .returned (.bool (decide (¬ l.Nodup))) ∧ Chg [] w w' := by
 obtain ⟨a, cap, rfl, hl1, hl2, _⟩ := (show SlR p 1 rdS w nv l from h)
 obtain ⟨w1, hw1⟩ : ∃ x, x = w.alloc (.map #[] 0) := ⟨_, rfl⟩
 have hc1 : Chg [] w w1 := by rw [hw1]; exact (Chg.refl [] w).alloc _
 have hm1 : MapAt Tryz.prog 9 sk w1 w.heap.size (mE (l.take 0)) := by rw [hw1]; exact MapAt.made _ _ _ _
 have Hc1 := Lib.hid hc1
 have Hm1 := Lib.hid hm1
 have H := Lib.hid h
 unfold maxLen at hl2
 clear hc1 hm1 h
 have hmk := @run_makeMap Tryz.prog
 go_enter Tryz.func174, Tryz.ntmps174
 go_wp2_with fail
 rw [← hw1]
 clear hw1
 go_loopw [9] (fun jj wr => ∃ k : Nat, k ≤ l.length ∧ jj = .int .i64 (k : Nat) ∧ MapAt Tryz.prog 9 sk wr w.heap.size (mE (l.take k)) ∧ Chg [] w wr ∧ (l.take k).Nodup) (fun jj _ => l.length - (intOf jj).toNat)
 case atStart => exact ⟨0, by omega, rfl, Hm1.out, Hc1.out, by simp⟩
 case round =>
  obtain ⟨k, hk, rfl, hm, hc, hnd⟩ := hrel
  by_cases hlt : k < l.length
  · have hk1 : (k : Int) < l.length := by omega
    obtain ⟨g, off, rfl, hp, c0, hsz⟩ := SlR.at (strs_kept (S := fun _ => False) H.out hc.p (fun _ _ h => h)) k hlt ⟨#[]⟩
    have htk : l.take (k + 1) = l.take k ++ [l.getD k ⟨#[]⟩] := by rw [List.take_add_one, List.getElem?_eq_getElem hlt, List.getD_eq_getElem?_getD, List.getElem?_eq_getElem hlt]; rfl
    obtain ⟨x, hx⟩ : ∃ x, l.getD k ⟨#[]⟩ = x := ⟨_, rfl⟩
    rw [hx] at c0 hsz htk
    rw [Nat.mul_one] at c0
    have hlk := hm.lookup skeyed skInj Tryz.underlying79 (skOk x hsz) (zeroInt wr) false
    unfold sk at hlk
    by_cases hin : x ∈ l.take k
    · rw [mE_in hin] at hlk
      have Hdup := Lib.hid (show ¬ l.Nodup from fun hn => by
       have h2 : (l.take (k + 1)).Nodup := hn.sublist (List.take_sublist _ _)
       rw [htk, List.nodup_append] at h2
       exact h2.2.2 x hin x (by simp) rfl)
      have Hc := Lib.hid hc
      simp only [Option.getD_some, Bool.false_eq_true, if_false] at hlk
      clear hm hc hnd hin htk hx hsz
      go_wp2_with fail
      go_ret
      exact ⟨by rw [decide_eq_true Hdup.out]; rfl, Hc.out⟩
    · rw [mE_no hin] at hlk
      obtain ⟨o, hup, hmu⟩ := hm.update skeyed skInj Tryz.underlying79 (skOk x hsz) (.int .i64 1)
      rw [mE_ups _ _ hin, ← htk] at hmu
      unfold sk at hup
      have HN := Lib.hid (And.intro hmu (And.intro (hc.setBlock (b := w.heap.size) (Or.inr (Nat.le_refl _)) o) (show (l.take (k + 1)).Nodup by rw [htk]; exact nodup_snoc hnd hin)))
      simp only [Option.getD_none, Bool.false_eq_true, if_false] at hlk
      clear hmu hm hc hnd hin htk hx hsz
      go_wp2_with fail
      exact ⟨⟨k + 1, by omega, by go_num, HN.out.1, HN.out.2.1, HN.out.2.2⟩, by simp [intOf]; omega⟩
  · obtain rfl : k = l.length := by omega
    rw [List.take_length] at hnd
    have Hnd := Lib.hid (And.intro hnd hc)
    clear hm hc hnd
    go_wp2_with fail
    go_ret
    exact ⟨by rw [decide_eq_false (by simp [Hnd.out.1])]; rfl, Hnd.out.2⟩
end Go.Proofs.YtjlknaahpjiibaaGreatDoor.Jv
