/- JsonrpcDecodeEncode: the walk (printed by wip/gen_jrw.py). -/
import Derived.Test.YtiklgipcgdgkoaaDoorJrV
namespace Go.Proofs.YtiklgipcgdgkoaaDoor.Jv
open Go.RowKit Go.ChangeMaps Go.MapKept
set_option linter.unusedVariables false
set_option linter.unusedSimpArgs false
section
variable {P : Program} {ops : Array Oper} {Q : Exit → Act → World → Prop} {md : Region.Mode} {S S0 : World → Prop} {t : Nat}
/-- three operations may come up -/
theorem anyU_three {k k' k'' f : Nat} {o o' o'' : Oper} {listed : Array Bool} {a : Act} {w : World} (hr : Region.ready md ops listed = [k, k', k'']) (ho : ops[k]? = some o) (ho' : ops[k']? = some o') (ho'' : ops[k'']? = some o'')
    (h : ∀ K : Act → World → Prop, (∀ a' w', ((listed.setIfInBounds k true).getD t true = false → S w') → S0 w' → anyU P md ops Q S S0 t f (listed.setIfInBounds k true) a' w' → K a' w') → if Region.wanted o (yielded ops a.tmps) = true then Oper.wp P o a w K Q else K (a.put o.dst undef) w)
    (h' : ∀ K : Act → World → Prop, (∀ a' w', ((listed.setIfInBounds k' true).getD t true = false → S w') → S0 w' → anyU P md ops Q S S0 t f (listed.setIfInBounds k' true) a' w' → K a' w') → if Region.wanted o' (yielded ops a.tmps) = true then Oper.wp P o' a w K Q else K (a.put o'.dst undef) w)
    (h'' : ∀ K : Act → World → Prop, (∀ a' w', ((listed.setIfInBounds k'' true).getD t true = false → S w') → S0 w' → anyU P md ops Q S S0 t f (listed.setIfInBounds k'' true) a' w' → K a' w') → if Region.wanted o'' (yielded ops a.tmps) = true then Oper.wp P o'' a w K Q else K (a.put o''.dst undef) w) : anyU P md ops Q S S0 t (f + 1) listed a w := by
  have one : ∀ (k : Nat) (o : Oper), ops[k]? = some o → (∀ K : Act → World → Prop, (∀ a' w', ((listed.setIfInBounds k true).getD t true = false → S w') → S0 w' → anyU P md ops Q S S0 t f (listed.setIfInBounds k true) a' w' → K a' w') → if Region.wanted o (yielded ops a.tmps) = true then Oper.wp P o a w K Q else K (a.put o.dst undef) w) →
      wpOp P ops Q k (fun a' w' => ((listed.setIfInBounds k true).getD t true = false → S w') ∧ S0 w' ∧ anyU P md ops Q S S0 t f (listed.setIfInBounds k true) a' w') a w := by
    intro k o ho h
    have := h (fun a' w' => ((listed.setIfInBounds k true).getD t true = false → S w') ∧ S0 w' ∧ anyU P md ops Q S S0 t f (listed.setIfInBounds k true) a' w') fun a' w' h1 h0 h2 => ⟨h1, h0, h2⟩
    unfold wpOp
    rw [ho]
    show if Region.wanted o (yielded ops a.tmps) = true then _ else _
    split
    · rename_i hw; rw [if_pos hw] at this; exact Or.inl this
    · rename_i hw; rw [if_neg hw] at this; exact this
  refine ⟨fun h0 => by rw [hr] at h0; exact absurd h0 (by simp), fun i hi => ?_⟩
  rw [hr] at hi
  rcases List.mem_cons.1 hi with rfl | hi
  · exact one _ _ ho h
  rcases List.mem_cons.1 hi with rfl | hi
  · exact one _ _ ho' h'
  · obtain rfl := List.mem_singleton.1 hi
    exact one _ _ ho'' h''
end
theorem apartNE2 {w : World} {B B' : Nat} {v v' : Value} {ns : List ByteArray} {vs : List Ev} (h : OwnN w B v ns) (h' : OwnE w B' v' vs) {g : Nat} (hg : v.ownBlock = some g) (hg' : v'.ownBlock = some g) : False := by
  rcases h'.2 with ⟨h0, _⟩ | ⟨g', cap', cur, hv, _, h2, _⟩
  · subst h0; cases hg'
  · subst hv
    simp only [Value.ownBlock, Option.some.injEq] at hg'
    subst hg'
    exact own_ne h.1 hg h2
theorem dee_end {p : Nat → Prop} {f B BN BE vb : Nat} {W : World} {j : J} {ej : Ev} {aM aF : Option Addr} {cM cF : Nat} {vs : List Ev} (hvb : W.heap[vb]? = some (.cells #[.int .i64 ej.k, .int .i64 ej.n, .string ej.t, .slice ej.na ej.nl ej.nc, .slice ej.ia ej.il ej.ic] 25 (0, 0))) (hlt : vb < B) (hBN : B ≤ BN ∧ BN ≤ W.heap.size) (hBE : B ≤ BE ∧ BE ≤ W.heap.size) (hN : OwnN W BN (.slice aM (j.names.length + 1) cM) (j.names ++ [pT])) (hE : OwnE W BE (.slice aF (j.elems.length + 1) cF) (vs ++ [ev0])) (hvl : vs.length = j.elems.length) (hJ : ∀ i (hi : i < j.elems.length) (hv : i < vs.length), JV p f W vs[i].val j.elems[i]) (hpv : ∀ g, p g → g < vb) (hk : ej.k = j.kind) :
    JV (fun g => g < (((((W.setCell ⟨vb, 0, none⟩ (.int .i64 ej.k)).setCell ⟨vb, 1, none⟩ (.int .i64 0)).setCell ⟨vb, 2, none⟩ (.string ⟨#[]⟩)).setCell ⟨vb, 3, none⟩ (.slice aM (j.names.length + 1) cM)).setCell ⟨vb, 4, none⟩ (.slice aF (j.elems.length + 1) cF)).heap.size) (f + 1) (((((W.setCell ⟨vb, 0, none⟩ (.int .i64 ej.k)).setCell ⟨vb, 1, none⟩ (.int .i64 0)).setCell ⟨vb, 2, none⟩ (.string ⟨#[]⟩)).setCell ⟨vb, 3, none⟩ (.slice aM (j.names.length + 1) cM)).setCell ⟨vb, 4, none⟩ (.slice aF (j.elems.length + 1) cF)) (.agg #[.int .i64 ej.k, .int .i64 0, .string ⟨#[]⟩, .slice aM (j.names.length + 1) cM, .slice aF (j.elems.length + 1) cF]) (withP j) ∧ (((((W.setCell ⟨vb, 0, none⟩ (.int .i64 ej.k)).setCell ⟨vb, 1, none⟩ (.int .i64 0)).setCell ⟨vb, 2, none⟩ (.string ⟨#[]⟩)).setCell ⟨vb, 3, none⟩ (.slice aM (j.names.length + 1) cM)).setCell ⟨vb, 4, none⟩ (.slice aF (j.elems.length + 1) cF)).heap[vb]? = some (.cells #[.int .i64 ej.k, .int .i64 0, .string ⟨#[]⟩, .slice aM (j.names.length + 1) cM, .slice aF (j.elems.length + 1) cF] 25 (0, 0)) ∧ Chg [vb] W (((((W.setCell ⟨vb, 0, none⟩ (.int .i64 ej.k)).setCell ⟨vb, 1, none⟩ (.int .i64 0)).setCell ⟨vb, 2, none⟩ (.string ⟨#[]⟩)).setCell ⟨vb, 3, none⟩ (.slice aM (j.names.length + 1) cM)).setCell ⟨vb, 4, none⟩ (.slice aF (j.elems.length + 1) cF)) := by
  have hcs : Chg [vb] W (((((W.setCell ⟨vb, 0, none⟩ (.int .i64 ej.k)).setCell ⟨vb, 1, none⟩ (.int .i64 0)).setCell ⟨vb, 2, none⟩ (.string ⟨#[]⟩)).setCell ⟨vb, 3, none⟩ (.slice aM (j.names.length + 1) cM)).setCell ⟨vb, 4, none⟩ (.slice aF (j.elems.length + 1) cF)) := (((((Chg.refl [vb] W).setCell (p := ⟨vb, 0, none⟩) (Or.inl (by simp)) _).setCell (p := ⟨vb, 1, none⟩) (Or.inl (by simp)) _).setCell (p := ⟨vb, 2, none⟩) (Or.inl (by simp)) _).setCell (p := ⟨vb, 3, none⟩) (Or.inl (by simp)) _).setCell (p := ⟨vb, 4, none⟩) (Or.inl (by simp)) _
  have h0 := heap_setCell_same (i := 0) hvb (.int .i64 ej.k)
  have h1 := heap_setCell_same (i := 1) h0 (.int .i64 0)
  have h2 := heap_setCell_same (i := 2) h1 (.string ⟨#[]⟩)
  have h3 := heap_setCell_same (i := 3) h2 (.slice aM (j.names.length + 1) cM)
  have h4 := heap_setCell_same (i := 4) h3 (.slice aF (j.elems.length + 1) cF)
  have hN' := hN.kept hcs.toP fun g hg hm => by have := List.mem_singleton.1 hm; have := (ownsRow_ge hN.1 hg).1; omega
  have hE' := hE.kept hcs.toP fun g hg hm => by have := List.mem_singleton.1 hm; have := (ownsRow_ge hE hg).1; omega
  have hJ' : ∀ i (hi : i < j.elems.length) (hv : i < vs.length), JV p f (((((W.setCell ⟨vb, 0, none⟩ (.int .i64 ej.k)).setCell ⟨vb, 1, none⟩ (.int .i64 0)).setCell ⟨vb, 2, none⟩ (.string ⟨#[]⟩)).setCell ⟨vb, 3, none⟩ (.slice aM (j.names.length + 1) cM)).setCell ⟨vb, 4, none⟩ (.slice aF (j.elems.length + 1) cF)) vs[i].val j.elems[i] := fun i hi hv => (hJ i hi hv).kept hcs.toP fun g hg hm => by have := List.mem_singleton.1 hm; have := hpv g hg; omega
  have hsz := hcs.size
  have hvl' := lt_of_obj hvb
  refine ⟨?_, ?_, hcs⟩
  · generalize (((((W.setCell ⟨vb, 0, none⟩ (.int .i64 ej.k)).setCell ⟨vb, 1, none⟩ (.int .i64 0)).setCell ⟨vb, 2, none⟩ (.string ⟨#[]⟩)).setCell ⟨vb, 3, none⟩ (.slice aM (j.names.length + 1) cM)).setCell ⟨vb, 4, none⟩ (.slice aF (j.elems.length + 1) cF)) = X at *
    rw [hk]
    refine ⟨_, _, rfl, hN'.read fun g hg => (ownsRow_ge hN'.1 hg).2, hE'.read ?_ (fun g hg => (ownsRow_ge hE' hg).2) fun i hi => ?_, show (ByteArray.mk #[]).size ≤ maxLen by decide⟩
    · show (vs ++ [ev0]).length = (j.elems ++ [J.zero]).length
      rw [List.length_append, List.length_append, hvl]; rfl
    · show JV _ _ X (vs ++ [ev0])[i].val ((j.elems ++ [J.zero]).getD i J.zero)
      by_cases hlt' : i < vs.length
      · rw [List.getElem_append_left hlt', List.getD_eq_getElem?_getD, List.getElem?_append_left (by omega), List.getElem?_eq_getElem (by omega), Option.getD_some]
        exact (hJ' i (by omega) hlt').imp fun g hg => by have := hpv g hg; omega
      · have hii : i = vs.length := by rw [List.length_append, List.length_singleton] at hi; omega
        subst hii
        rw [List.getElem_append_right (Nat.le_refl _), List.getD_eq_getElem?_getD, List.getElem?_append_right (by omega)]
        simp only [hvl, Nat.sub_self, List.getElem_cons_zero, List.getElem?_cons_zero, Option.getD_some]
        exact JV.zero _ _ _
  · rw [h4]; simp
set_option maxRecDepth 100000 in
set_option maxHeartbeats 8000000 in
theorem dee_any (p : Nat → Prop) (f : Nat) (w : World) (j : J) (v : Value) (hj : JV p f w v j) (hp : ∀ g, p g → g < w.heap.size) (hb : Bd j) (hT : TP2 w) : Calls Tryd.prog 4 #[v] w fun e w' => e = .returned (.bool true) ∧ Chg [] w w' := by
  obtain ⟨ej, rfl⟩ := hj.ev'
  obtain ⟨w1, hw1⟩ : ∃ x, x = w.alloc (.cells #[.int .i64 ej.k, .int .i64 ej.n, .string ej.t, .slice ej.na ej.nl ej.nc, .slice ej.ia ej.il ej.ic] 25) := ⟨_, rfl⟩
  obtain ⟨vb, hvb⟩ : ∃ x, x = w.heap.size := ⟨_, rfl⟩
  have hc1 : Chg [] w w1 := by rw [hw1]; exact (Chg.refl _ _).alloc _
  have hm1 : w1.heap[vb]? = some (.cells #[.int .i64 ej.k, .int .i64 ej.n, .string ej.t, .slice ej.na ej.nl ej.nc, .slice ej.ia ej.il ej.ic] 25 (0, 0)) := by rw [hw1, hvb]; exact heap_at _ _ _ rfl
  have Hc1 := Lib.hid hc1
  have Hm1 := Lib.hid hm1
  have HT := Lib.hid hT
  have Hpv : Hid (∀ g, p g → g < vb) := Lib.hid (by rw [hvb]; exact hp)
  have Hvb0 : Hid (vb = w.heap.size) := Lib.hid hvb
  have Hj := Lib.hid (fun W (hc : Chg [] w W) => hj.chg hc)
  have Hbd := Lib.hid hb
  have Hlens := Lib.hid hj.lens
  have HL0 : Hid (j.names.length * 16 ≤ 140737488355328 ∧ j.elems.length * 80 ≤ 140737488355328) := Lib.hid (by cases hb with | mk h1 h2 _ => exact ⟨h1, h2⟩)
  have HD := Lib.hid (fun W (hc : Chg [] w W) => decode_any p f W j _ (hj.chg hc) (fun g hg => Nat.lt_of_lt_of_le (hp g hg) hc.size) hb (hT.new hc).1)
  clear hj hp hb hT hc1 hm1
  unfold Ev.val at HD ⊢
  go_enter Tryd.func4, Tryd.ntmps4
  go_upto_region 1 with fail
  rw [← hw1, ← hvb]
  clear hw1 hvb
  go_wp2_with fail
  refine (mexB_any w1 (HT.out.new Hc1.out)).mono ?_
  rintro e1 w2 ⟨rfl, hc2⟩
  have Hc2 := Lib.hid (Hc1.out.trans hc2)
  have Hm2 := Lib.hid ((hc2.block vb (lt_of_obj Hm1.out) (by simp)).trans Hm1.out)
  obtain ⟨b0, b1, b2, b3, b4⟩ := box_kept vb Hm2.out (Chg.refl [] w2)
  clear hc2
  go_wp2_with fail
  refine (HD.out w2 Hc2.out).mono ?_
  rintro e1 w3 ⟨hP, hc3⟩
  have Hc3 := Lib.hid (Hc2.out.trans hc3)
  have Hm3 := Lib.hid ((hc3.block vb (lt_of_obj Hm2.out) (by simp)).trans Hm2.out)
  clear hc3 b0 b1 b2 b3 b4 HD
  unfold mB at hP
  rcases hP with ⟨n, hn, hh, _, ev, rfl, hev⟩ | ⟨_, rfl⟩
  case inr =>
    go_wp2_with fail
    refine (mexB_any _ (HT.out.new (Hc3.out.trans ((Chg.refl [] w3).alloc _)))).mono ?_
    rintro e1 w5 ⟨rfl, hc5⟩
    have Hc5 := Lib.hid ((Hc3.out.trans ((Chg.refl [] w3).alloc _)).trans hc5)
    clear hc5
    go_wp2_with fail
    go_ret
    exact ⟨rfl, Hc5.out⟩
  case inl =>
    obtain ⟨hl0, hl1⟩ := de_law hn hh
    have Hlaw := Lib.hid hl1
    have hts := candT_size (Hj.out w (Chg.refl _ _)) n
    obtain ⟨k, hk⟩ : ∃ k, k = (n : Int) + 1 := ⟨_, rfl⟩
    obtain ⟨i, hi⟩ : ∃ i, i = candI j n := ⟨_, rfl⟩
    obtain ⟨c, hc⟩ : ∃ c, c = candC j n := ⟨_, rfl⟩
    obtain ⟨t, ht⟩ : ∃ t, t = candT j n := ⟨_, rfl⟩
    obtain ⟨b, hb⟩ : ∃ b, b = candB j n := ⟨_, rfl⟩
    have HM : Hid (encM k i c t b = encN j n) := Lib.hid (by rw [hk, hi, hc, ht, hb]; rfl)
    rw [← ht] at hts
    rw [← hb] at hev
    rw [← hk, ← hi, ← hc, ← ht]
    have HEc := Lib.hid (fun W (hc : Chg [] w3 W) => encode_b _ f k i c t ev b W hts (JV.chg hev hc) (fun g hg => Nat.lt_of_lt_of_le hg.2 hc.size) (HT.out.new (Hc3.out.trans hc)).1)
    have Hz0 := Lib.hid hl0
    clear hl0 hl1 hts hk hi hc ht hb hev hh hn
    unfold mB at HEc
    obtain ⟨w4, hw4⟩ : ∃ x, x = w3.alloc (.cells #[.int .i64 k, .int .i64 i, .int .i64 c, .string t, .int .i64 ev.k, .int .i64 ev.n, .string ev.t, .slice ev.na ev.nl ev.nc, .slice ev.ia ev.il ev.ic] 27) := ⟨_, rfl⟩
    obtain ⟨mb, hmb⟩ : ∃ x, x = w3.heap.size := ⟨_, rfl⟩
    have hc4 : Chg [] w3 w4 := by rw [hw4]; exact (Chg.refl _ _).alloc _
    have hm4 : w4.heap[mb]? = some (.cells #[.int .i64 k, .int .i64 i, .int .i64 c, .string t, .int .i64 ev.k, .int .i64 ev.n, .string ev.t, .slice ev.na ev.nl ev.nc, .slice ev.ia ev.il ev.ic] 27 (0, 0)) := by rw [hw4, hmb]; exact heap_at _ _ _ rfl
    have Hc4 := Lib.hid (Hc3.out.trans hc4)
    have Hv4 := Lib.hid ((hc4.block vb (lt_of_obj Hm3.out) (by simp)).trans Hm3.out)
    have HEd := Lib.hid (HEc.out w4 hc4)
    obtain ⟨⟨x0, x1, x2, x3, x4, x5, x6, x7, x8⟩, xf, xl⟩ := nineM hm4
    clear hc4 hm4 HEc
    go_upto_region 4 with fail
    rw [← hw4, ← hmb]
    clear hw4 hmb
    go_wp2_with fail
    refine HEd.out.mono ?_
    rintro e1 w5 ⟨f3, ee, rfl, hee, hc5⟩
    rw [HM.out, Hz0.out]
    rw [HM.out] at hee
    unfold Ev.val
    obtain ⟨E, hE⟩ : ∃ E, E = (encN j n).2 := ⟨_, rfl⟩
    rw [← hE] at hee Hlaw
    have Hel := Lib.hid (JV.lens hee)
    obtain ⟨w6, hw6⟩ : ∃ x, x = w5.alloc (.cells #[.int .i64 ee.k, .int .i64 ee.n, .string ee.t, .slice ee.na ee.nl ee.nc, .slice ee.ia ee.il ee.ic] 25) := ⟨_, rfl⟩
    obtain ⟨eb, heb⟩ : ∃ x, x = w5.heap.size := ⟨_, rfl⟩
    have hc6 : Chg [] w5 w6 := by rw [hw6]; exact (Chg.refl _ _).alloc _
    have he6 : w6.heap[eb]? = some (.cells #[.int .i64 ee.k, .int .i64 ee.n, .string ee.t, .slice ee.na ee.nl ee.nc, .slice ee.ia ee.il ee.ic] 25 (0, 0)) := by rw [hw6, heb]; exact heap_at _ _ _ rfl
    have Hc6 := Lib.hid ((Hc4.out.trans hc5).trans hc6)
    have Hv6 := Lib.hid (((hc5.trans hc6).block vb (lt_of_obj Hv4.out) (by simp)).trans Hv4.out)
    have He6 := Lib.hid he6
    have Hj6 := Lib.hid (JN.same hee hc6)
    have Hlt : Hid (vb < w4.heap.size ∧ vb < eb) := Lib.hid ⟨lt_of_obj Hv4.out, by rw [heb]; exact Nat.lt_of_lt_of_le (lt_of_obj Hv4.out) hc5.size⟩
    obtain ⟨b0, b1, b2, b3, b4⟩ := box_kept vb Hv6.out (Chg.refl [] w6)
    obtain ⟨d0, d1, d2, d3, d4⟩ := box_kept eb he6 (Chg.refl [] w6)
    clear hc5 hc6 he6 hee hE x0 x1 x2 x3 x4 x5 x6 x7 x8 xf xl HEd
    go_upto_region 7 with fail
    rw [← hw6, ← heb]
    clear hw6 heb
    have hwr : IntKind.i64.wrap ((ej.nl : Int) + 1) = (ej.nl : Int) + 1 := IntWalk.i64_in _ (by have h1 := Hlens.out.2.2.2.1; have h2 := HL0.out.1; omega)
    by_cases hq : ee.nl = ej.nl + 1
    case neg =>
      have hq1 : ¬ ((ee.nl : Int) = (ej.nl : Int) + 1) := by omega
      have hq2 : ((ee.nl : Int) == (ej.nl : Int) + 1) = false := by simpa using hq1
      have Heq : Hid (j.equal u8 E = true) := Lib.hid (by
        rcases Hlaw.out with h | h
        · exact h.2
        · have h1 := Hlens.out.2.2.2.1
          have h2 := Hel.out.2.2.2.1
          omega)
      clear hq
      go_wp2_with fail
      refine (mexB_any w6 (HT.out.new Hc6.out)).mono ?_
      rintro e1 w7 ⟨rfl, hc7⟩
      have HI := Lib.hid (Equal_any _ _ f f3 w7 j E _ _ (Hj.out w7 (Hc6.out.trans hc7)) (Hj6.out.chg hc7) (fun g hg => Nat.lt_of_lt_of_le (Hpv.out g hg) (Nat.le_trans (Nat.le_of_lt (lt_of_obj Hv6.out)) hc7.size)) (fun g hg => Nat.lt_of_lt_of_le hg.2 hc7.size) (HT.out.new (Hc6.out.trans hc7)).1)
      rw [Heq.out] at HI
      unfold Ev.val at HI
      obtain ⟨b0, b1, b2, b3, b4⟩ := box_kept vb Hv6.out hc7
      obtain ⟨d0, d1, d2, d3, d4⟩ := box_kept eb He6.out hc7
      have Hc7 := Lib.hid (Hc6.out.trans hc7)
      clear hc7
      go_wp2_with fail
      refine HI.out.mono ?_
      rintro e1 w8 ⟨rfl, hc8⟩
      have Hc8 := Lib.hid (Hc7.out.trans hc8)
      clear hc8
      go_wp2_with fail
      go_ret
      exact ⟨rfl, Hc8.out⟩
    case pos =>
      have hq1 : (ee.nl : Int) = (ej.nl : Int) + 1 := by omega
      have hq2 : ((ee.nl : Int) == (ej.nl : Int) + 1) = true := by simpa using hq1
      have Hlw : Hid (j.names.length ≤ 2 ∧ j.elems.length ≤ 2 ∧ j.kind = 5 ∧ (withP j).equal u8 E = true) := Lib.hid (by
        rcases Hlaw.out with h | h
        · have h1 := Hlens.out.2.2.2.1
          have h2 := Hel.out.2.2.2.1
          omega
        · exact h.2)
      obtain ⟨B, hB⟩ : ∃ x, x = w6.heap.size := ⟨_, rfl⟩
      have HB := Lib.hid hB
      have Hpb : Hid (∀ g, p g → g < B) := Lib.hid (fun g hg => by rw [hB]; exact Nat.lt_trans (Hpv.out g hg) (lt_of_obj Hv6.out))
      have HSl : Hid (∀ W, ChgP (fun g => B ≤ g) w6 W → SlR p 1 rdS W (.slice ej.na ej.nl ej.nc) j.names ∧ SlR p 5 (rdJ p f) W (.slice ej.ia ej.il ej.ic) j.elems) := Lib.hid (fun W hW => by
        obtain ⟨nv, iv, hv, h1, h2, _⟩ := Hj.out w6 Hc6.out
        unfold Ev.val at hv
        simp only [Value.agg.injEq, Array.mk.injEq, List.cons.injEq, and_true] at hv
        obtain ⟨_, _, _, rfl, rfl⟩ := hv
        have hS : ∀ g, p g → ¬ B ≤ g := fun g hg => Nat.not_le_of_lt (Hpb.out g hg)
        exact ⟨strs_kept h1 hW hS, SlR.imp h2 (fun _ h => h) fun ad x hp hx => rdJ.kept hW hS hp hx⟩)
      have HL : Hid (j.names.length * 16 ≤ 140737488355328 ∧ j.elems.length * 80 ≤ 140737488355328 ∧ j.names.length ≤ 1000 ∧ j.elems.length ≤ 1000) := Lib.hid ⟨HL0.out.1, HL0.out.2, by have := Hlw.out.1; omega, by have := Hlw.out.2.1; omega⟩
      have Hvb := Hv6
      have HS : Hid (∀ W, ChgP (fun g => B ≤ g) w6 W → W.cell? ⟨vb, 0, none⟩ = some (.int .i64 ej.k) ∧ W.cell? ⟨vb, 3, none⟩ = some (.slice ej.na ej.nl ej.nc) ∧ W.cell? ⟨vb, 4, none⟩ = some (.slice ej.ia ej.il ej.ic)) := Lib.hid (fun W hW => by
        have hbx := (hW.block vb (lt_of_obj Hv6.out) (by have := lt_of_obj Hv6.out; rw [hB]; omega)).trans Hv6.out
        exact ⟨cell_of_heap hbx rfl, cell_of_heap hbx rfl, cell_of_heap hbx rfl⟩)
      clear hB hq
      go_upto_region 10 with fail
      clear b0 b1 b2 b3 b4 d0 d1 d2 d3 d4 hq1 hq2 hwr
      refine wp_region_U (fun W => W.cell? ⟨vb, 0, none⟩ = some (.int .i64 ej.k) ∧ W.cell? ⟨vb, 3, none⟩ = some (.slice ej.na ej.nl ej.nc) ∧ W.cell? ⟨vb, 4, none⟩ = some (.slice ej.ia ej.il ej.ic)) (fun _ => True) 14 (by kernel_rfl) ?_
      intro W0 hwd
      have HK0 : Hid (ChgP (fun g => B ≤ g) w6 W0) := Lib.hid (by rw [hwd]; exact ((Chg.refl [] w6).drew).p)
      clear hwd
      have hS := HS.out W0 HK0.out
      refine anyU_pure (i := 0) (v := .pointer (some ⟨vb, 0, none⟩)) rfl (by kernel_rfl) (fun _ _ _ h => h) (Or.inl ⟨by rfl, fun w' _ => by go_simp⟩) (fun _ => hS) trivial ?_
      simp only [Act.put, List.setIfInBounds_toArray, List.set_cons_zero, List.set_cons_succ]
      refine anyU_take (i := 1) (v := .int .i64 ej.k) rfl (by kernel_rfl) (fun _ _ _ h => h) (Or.inl ⟨by rfl, fun w' hS => by go_simp⟩) hS trivial ?_
      simp only [Act.put, List.setIfInBounds_toArray, List.set_cons_zero, List.set_cons_succ]
      refine anyU_pure (i := 2) (v := .pointer (some ⟨vb, 3, none⟩)) rfl (by kernel_rfl) (fun _ _ _ h => h) (Or.inl ⟨by rfl, fun w' _ => by go_simp⟩) (fun _ => hS) trivial ?_
      simp only [Act.put, List.setIfInBounds_toArray, List.set_cons_zero, List.set_cons_succ]
      refine anyU_take (i := 3) (v := .slice ej.na ej.nl ej.nc) rfl (by kernel_rfl) (fun _ _ _ h => h) (Or.inl ⟨by rfl, fun w' hS => by go_simp⟩) hS trivial ?_
      simp only [Act.put, List.setIfInBounds_toArray, List.set_cons_zero, List.set_cons_succ]
      refine anyU_pure (i := 7) (v := .pointer (some ⟨vb, 4, none⟩)) rfl (by kernel_rfl) (fun _ _ _ h => h) (Or.inl ⟨by rfl, fun w' _ => by go_simp⟩) (fun _ => hS) trivial ?_
      simp only [Act.put, List.setIfInBounds_toArray, List.set_cons_zero, List.set_cons_succ]
      refine anyU_take (i := 8) (v := .slice ej.ia ej.il ej.ic) rfl (by kernel_rfl) (fun _ _ _ h => h) (Or.inl ⟨by rfl, fun w' hS => by go_simp⟩) hS trivial ?_
      simp only [Act.put, List.setIfInBounds_toArray, List.set_cons_zero, List.set_cons_succ]
      refine anyU_pure (i := 10) (v := .agg #[.int .i64 0, .int .i64 0, .string ⟨#[]⟩, .slice none 0 0, .slice none 0 0]) rfl (by kernel_rfl) (fun _ _ _ h => h) (Or.inl ⟨by rfl, fun w' _ => by go_simp⟩) (fun _ => hS) trivial ?_
      simp only [Act.put, List.setIfInBounds_toArray, List.set_cons_zero, List.set_cons_succ]
      refine anyU_three (k := 4) (k' := 5) (k'' := 11) (by kernel_rfl) rfl rfl rfl (fun K hK => ?_) (fun K hK => ?_) (fun K hK => ?_) 
      · skip
        go_simp
        refine (rclone_any p W0 _ _ (HSl.out W0 HK0.out).1 HL.out.1).mono ?_
        rintro e1 W1 ⟨v1, rfl, hon, hcx⟩
        obtain ⟨aN, cN, rfl⟩ := ownsRow_shape hon.1
        have HK1 := Lib.hid (HK0.out.new hcx)
        have HBN : Hid (B ≤ W0.heap.size ∧ W0.heap.size ≤ W1.heap.size) := Lib.hid ⟨HB.out ▸ HK0.out.size, hcx.size⟩
        obtain ⟨BN, hBN⟩ : ∃ x, x = W0.heap.size := ⟨_, rfl⟩
        rw [← hBN] at hon HBN
        clear hBN
        have HN := Lib.hid hon
        clear hon
        have hS := HS.out W1 HK1.out
        refine hK _ _ (fun _ => hS) trivial ?_
        clear hK K hcx
        refine anyU_two (k := 5) (k' := 11) (by kernel_rfl) rfl rfl (fun K hK => ?_) (fun K hK => ?_) 
        · skip
          go_simp
          obtain ⟨W2, hX⟩ : ∃ x, x = W1.alloc (.cells #[.string ⟨#[112, 97, 114, 97, 109, 115]⟩] 9) := ⟨_, rfl⟩
          obtain ⟨gs, hg⟩ : ∃ x, x = W1.heap.size := ⟨_, rfl⟩
          have hcx : Chg [] W1 W2 := by rw [hX]; exact (Chg.refl _ _).alloc _
          have hgs : W2.heap[gs]? = some (.cells #[.string ⟨#[112, 97, 114, 97, 109, 115]⟩] 9 (0, 0)) := by rw [hX, hg]; exact heap_at _ _ _ rfl
          rw [← hX, ← hg]
          clear hX hg
          have HK2 := Lib.hid (HK1.out.new hcx)
          have HN := Lib.hid (HN.out.same hcx)
          have Hgs := Lib.hid hgs
          clear hgs
          have HBN : Hid (B ≤ BN ∧ BN ≤ W2.heap.size) := Lib.hid ⟨HBN.out.1, Nat.le_trans HBN.out.2 hcx.size⟩
          have hS := HS.out W2 HK2.out
          refine hK _ _ (fun _ => hS) trivial ?_
          clear hK K hcx
          refine anyU_two (k := 6) (k' := 11) (by kernel_rfl) rfl rfl (fun K hK => ?_) (fun K hK => ?_) 
          · skip
            have hbn : BN ≤ W2.heap.size := HBN.out.2
            obtain ⟨aM, cM, W3, hr, hon, hcx⟩ := pushN 22 HN.out rfl (by unfold maxLen; decide) Hgs.out HL.out.2.2.1 hbn
            refine step_app rfl _ _ _ rfl _ _ _ _ rfl rfl hr ?_
            have HK3 := Lib.hid (HK2.out.comp hcx.toP fun g hg => Or.inl (Nat.le_trans HBN.out.1 (ownsRow_ge HN.out.1 (by simpa using hg)).1))
            have HN := Lib.hid hon
            clear hr hon hbn
            have HBN : Hid (B ≤ BN ∧ BN ≤ W3.heap.size) := Lib.hid ⟨HBN.out.1, Nat.le_trans HBN.out.2 hcx.size⟩
            have hS := HS.out W3 HK3.out
            refine hK _ _ (fun _ => hS) trivial ?_
            clear hK K hcx
            refine anyU_two (k := 9) (k' := 11) (by kernel_rfl) rfl rfl (fun K hK => ?_) (fun K hK => ?_) 
            · skip
              go_simp
              refine (rcloneE_any p f W3 _ _ _ _ (HSl.out W3 HK3.out).2 HL.out.2.1).mono ?_
              rintro e1 W4 ⟨aE, cE, vs, rfl, hon, hvl, hvj, hcx⟩
              have HK4 := Lib.hid (HK3.out.new hcx)
              have HBE : Hid (B ≤ W3.heap.size ∧ W3.heap.size ≤ W4.heap.size) := Lib.hid ⟨HB.out ▸ HK3.out.size, hcx.size⟩
              obtain ⟨BE, hBE⟩ : ∃ x, x = W3.heap.size := ⟨_, rfl⟩
              rw [← hBE] at hon HBE
              clear hBE
              have HN := Lib.hid (HN.out.same hcx)
              have HE := Lib.hid hon
              have Hvl := Lib.hid hvl
              have HJ := Lib.hid (fun i hi hv => (hvj i hi hv).chg hcx)
              clear hon hvl hvj
              have HBN : Hid (B ≤ BN ∧ BN ≤ W4.heap.size) := Lib.hid ⟨HBN.out.1, Nat.le_trans HBN.out.2 hcx.size⟩
              have hS := HS.out W4 HK4.out
              refine hK _ _ (fun _ => hS) trivial ?_
              clear hK K hcx
              refine anyU_one (k := 11) (by kernel_rfl) rfl (fun K hK => ?_)
              go_simp
              obtain ⟨W5, hX⟩ : ∃ x, x = W4.alloc (.cells #[.int .i64 0, .int .i64 0, .string ⟨#[]⟩, .slice none 0 0, .slice none 0 0] 25) := ⟨_, rfl⟩
              obtain ⟨gv, hg⟩ : ∃ x, x = W4.heap.size := ⟨_, rfl⟩
              have hcx : Chg [] W4 W5 := by rw [hX]; exact (Chg.refl _ _).alloc _
              have hgv : W5.heap[gv]? = some (.cells #[.int .i64 0, .int .i64 0, .string ⟨#[]⟩, .slice none 0 0, .slice none 0 0] 25 (0, 0)) := by rw [hX, hg]; exact heap_at _ _ _ rfl
              rw [← hX, ← hg]
              clear hX hg
              have HK5 := Lib.hid (HK4.out.new hcx)
              have HN := Lib.hid (HN.out.same hcx)
              have HE := Lib.hid (HE.out.same hcx)
              have HJ := Lib.hid (fun i hi hv => (HJ.out i hi hv).chg hcx)
              have Hgv := Lib.hid hgv
              clear hgv
              have HBN : Hid (B ≤ BN ∧ BN ≤ W5.heap.size) := Lib.hid ⟨HBN.out.1, Nat.le_trans HBN.out.2 hcx.size⟩
              have HBE : Hid (B ≤ BE ∧ BE ≤ W5.heap.size) := Lib.hid ⟨HBE.out.1, Nat.le_trans HBE.out.2 hcx.size⟩
              have hS := HS.out W5 HK5.out
              refine hK _ _ (fun _ => hS) trivial ?_
              clear hK K hcx
              refine anyU_one (k := 12) (by kernel_rfl) rfl (fun K hK => ?_)
              have hbe : BE ≤ W5.heap.size := HBE.out.2
              obtain ⟨aF, cF, W6, hr, hon, hcx⟩ := pushE (e := ev0) 23 HE.out Hvl.out.symm Hgv.out (by rw [Hvl.out]; exact HL.out.2.2.2) hbe
              refine step_app rfl _ _ _ rfl _ _ _ _ rfl rfl hr ?_
              have HN := Lib.hid (HN.out.kept hcx.toP fun g hg hm => apartNE2 HN.out HE.out hg (by simpa using hm))
              have HJ := Lib.hid (fun i hi hv => (HJ.out i hi hv).kept hcx.toP fun g hg hm => by have h1 := Hpb.out g hg; have h2 := (ownsRow_ge HE.out (by simpa using hm)).1; have h3 := HBE.out.1; omega)
              have HK6 := Lib.hid (HK5.out.comp hcx.toP fun g hg => Or.inl (Nat.le_trans HBE.out.1 (ownsRow_ge HE.out (by simpa using hg)).1))
              have HE := Lib.hid hon
              clear hr hon hbe
              have HBN : Hid (B ≤ BN ∧ BN ≤ W6.heap.size) := Lib.hid ⟨HBN.out.1, Nat.le_trans HBN.out.2 hcx.size⟩
              have HBE : Hid (B ≤ BE ∧ BE ≤ W6.heap.size) := Lib.hid ⟨HBE.out.1, Nat.le_trans HBE.out.2 hcx.size⟩
              have hS := HS.out W6 HK6.out
              refine hK _ _ (fun _ => hS) trivial ?_
              clear hK K hcx
              refine anyU_one (k := 13) (by kernel_rfl) rfl (fun K hK => ?_)
              go_simp
              refine hK _ _ (fun _ => hS) trivial ?_
              clear hK K
              have hvb := (HK6.out.block vb (lt_of_obj Hvb.out) (by have := HB.out; have := lt_of_obj Hvb.out; omega)).trans Hvb.out
              obtain ⟨r0, r1, r2, r3, r4⟩ := box_kept vb hvb (Chg.refl [] W6)
              have rf := fun i => frozen_of_heap (i := i) hvb
              have rl := lt_of_cell r0
              refine anyU_one (k := 14) (by kernel_rfl) rfl (fun K hK => ?_)
              go_simp
              refine hK _ _ (fun h => by simp at h) trivial ?_
              clear hK K hS
              refine anyU_done (by kernel_rfl) ?_
              obtain ⟨hjv, hbx, hcv⟩ := dee_end hvb (by have := lt_of_obj Hv6.out; rw [HB.out]; exact this) HBN.out HBE.out HN.out HE.out Hvl.out HJ.out Hpv.out Hlens.out.1
              obtain ⟨wf, hwf⟩ : ∃ x, x = (((((W6.setCell ⟨vb, 0, none⟩ (.int .i64 ej.k)).setCell ⟨vb, 1, none⟩ (.int .i64 0)).setCell ⟨vb, 2, none⟩ (.string ⟨#[]⟩)).setCell ⟨vb, 3, none⟩ (.slice aM (j.names.length + 1) cM)).setCell ⟨vb, 4, none⟩ (.slice aF (j.elems.length + 1) cF)) := ⟨_, rfl⟩
              rw [← hwf] at hjv hbx hcv ⊢
              clear hwf hvb r0 r1 r2 r3 r4 rf rl
              have Hcf : Hid (Chg [] w wf) := Lib.hid ((Hc6.out.toP.comp HK6.out fun x hx => Or.inr (by have := HB.out; have := Hc6.out.size; omega)).comp hcv.toP fun x hx => Or.inr (by have := List.mem_singleton.1 hx; have := Hvb0.out; omega)).toL
              have He9 := Lib.hid ((hcv.block eb (lt_of_obj ((HK6.out.block eb (lt_of_obj He6.out) (by have := lt_of_obj He6.out; have := HB.out; omega)).trans He6.out)) (by have := Hlt.out; simp; omega)).trans ((HK6.out.block eb (lt_of_obj He6.out) (by have := lt_of_obj He6.out; have := HB.out; omega)).trans He6.out))
              have Hj9 := Lib.hid (((Hj6.out.kept HK6.out fun g hg => by have := hg.2; have := HB.out; omega).kept hcv.toP fun g hg hm => by have := List.mem_singleton.1 hm; have := Hlt.out; have := hg.1; omega).imp (q := fun g => g < wf.heap.size) fun g hg => by have := hg.2; have := HK6.out.size; have := hcv.size; omega)
              have Hjv := Lib.hid hjv
              have Hbx := Lib.hid hbx
              clear hjv hbx hcv HN HE HJ Hvl HBN HBE
              go_wp2_with fail
              refine (mexB_any wf (HT.out.new Hcf.out)).mono ?_
              rintro e1 w7 ⟨rfl, hc7⟩
              have HI := Lib.hid (Equal_any _ _ (f + 1) f3 w7 (withP j) E _ _ (Hjv.out.chg hc7) (Hj9.out.chg hc7) (fun g hg => Nat.lt_of_lt_of_le hg hc7.size) (fun g hg => Nat.lt_of_lt_of_le hg hc7.size) (HT.out.new (Hcf.out.trans hc7)).1)
              rw [Hlw.out.2.2.2] at HI
              unfold Ev.val at HI
              obtain ⟨b0, b1, b2, b3, b4⟩ := box_kept vb Hbx.out hc7
              obtain ⟨d0, d1, d2, d3, d4⟩ := box_kept eb He9.out hc7
              have Hc7 := Lib.hid (Hcf.out.trans hc7)
              clear hc7
              go_wp2_with fail
              refine HI.out.mono ?_
              rintro e1 w8 ⟨rfl, hc8⟩
              have Hc8 := Lib.hid (Hc7.out.trans hc8)
              clear hc8
              go_wp2_with fail
              go_ret
              exact ⟨rfl, Hc8.out⟩
            · skip
              go_simp
              obtain ⟨W4, hX⟩ : ∃ x, x = W3.alloc (.cells #[.int .i64 0, .int .i64 0, .string ⟨#[]⟩, .slice none 0 0, .slice none 0 0] 25) := ⟨_, rfl⟩
              obtain ⟨gv, hg⟩ : ∃ x, x = W3.heap.size := ⟨_, rfl⟩
              have hcx : Chg [] W3 W4 := by rw [hX]; exact (Chg.refl _ _).alloc _
              have hgv : W4.heap[gv]? = some (.cells #[.int .i64 0, .int .i64 0, .string ⟨#[]⟩, .slice none 0 0, .slice none 0 0] 25 (0, 0)) := by rw [hX, hg]; exact heap_at _ _ _ rfl
              rw [← hX, ← hg]
              clear hX hg
              have HK4 := Lib.hid (HK3.out.new hcx)
              have HN := Lib.hid (HN.out.same hcx)
              have Hgv := Lib.hid hgv
              clear hgv
              have HBN : Hid (B ≤ BN ∧ BN ≤ W4.heap.size) := Lib.hid ⟨HBN.out.1, Nat.le_trans HBN.out.2 hcx.size⟩
              have hS := HS.out W4 HK4.out
              refine hK _ _ (fun _ => hS) trivial ?_
              clear hK K hcx
              refine anyU_one (k := 9) (by kernel_rfl) rfl (fun K hK => ?_)
              go_simp
              refine (rcloneE_any p f W4 _ _ _ _ (HSl.out W4 HK4.out).2 HL.out.2.1).mono ?_
              rintro e1 W5 ⟨aE, cE, vs, rfl, hon, hvl, hvj, hcx⟩
              have HK5 := Lib.hid (HK4.out.new hcx)
              have HBE : Hid (B ≤ W4.heap.size ∧ W4.heap.size ≤ W5.heap.size) := Lib.hid ⟨HB.out ▸ HK4.out.size, hcx.size⟩
              obtain ⟨BE, hBE⟩ : ∃ x, x = W4.heap.size := ⟨_, rfl⟩
              rw [← hBE] at hon HBE
              clear hBE
              have HN := Lib.hid (HN.out.same hcx)
              have Hgv := Lib.hid ((hcx.block gv (lt_of_obj Hgv.out) (by simp)).trans Hgv.out)
              have HE := Lib.hid hon
              have Hvl := Lib.hid hvl
              have HJ := Lib.hid (fun i hi hv => (hvj i hi hv).chg hcx)
              clear hon hvl hvj
              have HBN : Hid (B ≤ BN ∧ BN ≤ W5.heap.size) := Lib.hid ⟨HBN.out.1, Nat.le_trans HBN.out.2 hcx.size⟩
              have hS := HS.out W5 HK5.out
              refine hK _ _ (fun _ => hS) trivial ?_
              clear hK K hcx
              refine anyU_one (k := 12) (by kernel_rfl) rfl (fun K hK => ?_)
              have hbe : BE ≤ W5.heap.size := HBE.out.2
              obtain ⟨aF, cF, W6, hr, hon, hcx⟩ := pushE (e := ev0) 23 HE.out Hvl.out.symm Hgv.out (by rw [Hvl.out]; exact HL.out.2.2.2) hbe
              refine step_app rfl _ _ _ rfl _ _ _ _ rfl rfl hr ?_
              have HN := Lib.hid (HN.out.kept hcx.toP fun g hg hm => apartNE2 HN.out HE.out hg (by simpa using hm))
              have HJ := Lib.hid (fun i hi hv => (HJ.out i hi hv).kept hcx.toP fun g hg hm => by have h1 := Hpb.out g hg; have h2 := (ownsRow_ge HE.out (by simpa using hm)).1; have h3 := HBE.out.1; omega)
              have HK6 := Lib.hid (HK5.out.comp hcx.toP fun g hg => Or.inl (Nat.le_trans HBE.out.1 (ownsRow_ge HE.out (by simpa using hg)).1))
              have HE := Lib.hid hon
              clear hr hon hbe
              have HBN : Hid (B ≤ BN ∧ BN ≤ W6.heap.size) := Lib.hid ⟨HBN.out.1, Nat.le_trans HBN.out.2 hcx.size⟩
              have HBE : Hid (B ≤ BE ∧ BE ≤ W6.heap.size) := Lib.hid ⟨HBE.out.1, Nat.le_trans HBE.out.2 hcx.size⟩
              have hS := HS.out W6 HK6.out
              refine hK _ _ (fun _ => hS) trivial ?_
              clear hK K hcx
              refine anyU_one (k := 13) (by kernel_rfl) rfl (fun K hK => ?_)
              go_simp
              refine hK _ _ (fun _ => hS) trivial ?_
              clear hK K
              have hvb := (HK6.out.block vb (lt_of_obj Hvb.out) (by have := HB.out; have := lt_of_obj Hvb.out; omega)).trans Hvb.out
              obtain ⟨r0, r1, r2, r3, r4⟩ := box_kept vb hvb (Chg.refl [] W6)
              have rf := fun i => frozen_of_heap (i := i) hvb
              have rl := lt_of_cell r0
              refine anyU_one (k := 14) (by kernel_rfl) rfl (fun K hK => ?_)
              go_simp
              refine hK _ _ (fun h => by simp at h) trivial ?_
              clear hK K hS
              refine anyU_done (by kernel_rfl) ?_
              obtain ⟨hjv, hbx, hcv⟩ := dee_end hvb (by have := lt_of_obj Hv6.out; rw [HB.out]; exact this) HBN.out HBE.out HN.out HE.out Hvl.out HJ.out Hpv.out Hlens.out.1
              obtain ⟨wf, hwf⟩ : ∃ x, x = (((((W6.setCell ⟨vb, 0, none⟩ (.int .i64 ej.k)).setCell ⟨vb, 1, none⟩ (.int .i64 0)).setCell ⟨vb, 2, none⟩ (.string ⟨#[]⟩)).setCell ⟨vb, 3, none⟩ (.slice aM (j.names.length + 1) cM)).setCell ⟨vb, 4, none⟩ (.slice aF (j.elems.length + 1) cF)) := ⟨_, rfl⟩
              rw [← hwf] at hjv hbx hcv ⊢
              clear hwf hvb r0 r1 r2 r3 r4 rf rl
              have Hcf : Hid (Chg [] w wf) := Lib.hid ((Hc6.out.toP.comp HK6.out fun x hx => Or.inr (by have := HB.out; have := Hc6.out.size; omega)).comp hcv.toP fun x hx => Or.inr (by have := List.mem_singleton.1 hx; have := Hvb0.out; omega)).toL
              have He9 := Lib.hid ((hcv.block eb (lt_of_obj ((HK6.out.block eb (lt_of_obj He6.out) (by have := lt_of_obj He6.out; have := HB.out; omega)).trans He6.out)) (by have := Hlt.out; simp; omega)).trans ((HK6.out.block eb (lt_of_obj He6.out) (by have := lt_of_obj He6.out; have := HB.out; omega)).trans He6.out))
              have Hj9 := Lib.hid (((Hj6.out.kept HK6.out fun g hg => by have := hg.2; have := HB.out; omega).kept hcv.toP fun g hg hm => by have := List.mem_singleton.1 hm; have := Hlt.out; have := hg.1; omega).imp (q := fun g => g < wf.heap.size) fun g hg => by have := hg.2; have := HK6.out.size; have := hcv.size; omega)
              have Hjv := Lib.hid hjv
              have Hbx := Lib.hid hbx
              clear hjv hbx hcv HN HE HJ Hvl HBN HBE
              go_wp2_with fail
              refine (mexB_any wf (HT.out.new Hcf.out)).mono ?_
              rintro e1 w7 ⟨rfl, hc7⟩
              have HI := Lib.hid (Equal_any _ _ (f + 1) f3 w7 (withP j) E _ _ (Hjv.out.chg hc7) (Hj9.out.chg hc7) (fun g hg => Nat.lt_of_lt_of_le hg hc7.size) (fun g hg => Nat.lt_of_lt_of_le hg hc7.size) (HT.out.new (Hcf.out.trans hc7)).1)
              rw [Hlw.out.2.2.2] at HI
              unfold Ev.val at HI
              obtain ⟨b0, b1, b2, b3, b4⟩ := box_kept vb Hbx.out hc7
              obtain ⟨d0, d1, d2, d3, d4⟩ := box_kept eb He9.out hc7
              have Hc7 := Lib.hid (Hcf.out.trans hc7)
              clear hc7
              go_wp2_with fail
              refine HI.out.mono ?_
              rintro e1 w8 ⟨rfl, hc8⟩
              have Hc8 := Lib.hid (Hc7.out.trans hc8)
              clear hc8
              go_wp2_with fail
              go_ret
              exact ⟨rfl, Hc8.out⟩
          · skip
            go_simp
            obtain ⟨W3, hX⟩ : ∃ x, x = W2.alloc (.cells #[.int .i64 0, .int .i64 0, .string ⟨#[]⟩, .slice none 0 0, .slice none 0 0] 25) := ⟨_, rfl⟩
            obtain ⟨gv, hg⟩ : ∃ x, x = W2.heap.size := ⟨_, rfl⟩
            have hcx : Chg [] W2 W3 := by rw [hX]; exact (Chg.refl _ _).alloc _
            have hgv : W3.heap[gv]? = some (.cells #[.int .i64 0, .int .i64 0, .string ⟨#[]⟩, .slice none 0 0, .slice none 0 0] 25 (0, 0)) := by rw [hX, hg]; exact heap_at _ _ _ rfl
            rw [← hX, ← hg]
            clear hX hg
            have HK3 := Lib.hid (HK2.out.new hcx)
            have HN := Lib.hid (HN.out.same hcx)
            have Hgs := Lib.hid ((hcx.block gs (lt_of_obj Hgs.out) (by simp)).trans Hgs.out)
            have Hgv := Lib.hid hgv
            clear hgv
            have HBN : Hid (B ≤ BN ∧ BN ≤ W3.heap.size) := Lib.hid ⟨HBN.out.1, Nat.le_trans HBN.out.2 hcx.size⟩
            have hS := HS.out W3 HK3.out
            refine hK _ _ (fun _ => hS) trivial ?_
            clear hK K hcx
            refine anyU_one (k := 6) (by kernel_rfl) rfl (fun K hK => ?_)
            have hbn : BN ≤ W3.heap.size := HBN.out.2
            obtain ⟨aM, cM, W4, hr, hon, hcx⟩ := pushN 22 HN.out rfl (by unfold maxLen; decide) Hgs.out HL.out.2.2.1 hbn
            refine step_app rfl _ _ _ rfl _ _ _ _ rfl rfl hr ?_
            have Hgv := Lib.hid ((hcx.block gv (lt_of_obj Hgv.out) (fun hm => own_ne HN.out.1 (by simpa using hm) Hgv.out)).trans Hgv.out)
            have HK4 := Lib.hid (HK3.out.comp hcx.toP fun g hg => Or.inl (Nat.le_trans HBN.out.1 (ownsRow_ge HN.out.1 (by simpa using hg)).1))
            have HN := Lib.hid hon
            clear hr hon hbn
            have HBN : Hid (B ≤ BN ∧ BN ≤ W4.heap.size) := Lib.hid ⟨HBN.out.1, Nat.le_trans HBN.out.2 hcx.size⟩
            have hS := HS.out W4 HK4.out
            refine hK _ _ (fun _ => hS) trivial ?_
            clear hK K hcx
            refine anyU_one (k := 9) (by kernel_rfl) rfl (fun K hK => ?_)
            go_simp
            refine (rcloneE_any p f W4 _ _ _ _ (HSl.out W4 HK4.out).2 HL.out.2.1).mono ?_
            rintro e1 W5 ⟨aE, cE, vs, rfl, hon, hvl, hvj, hcx⟩
            have HK5 := Lib.hid (HK4.out.new hcx)
            have HBE : Hid (B ≤ W4.heap.size ∧ W4.heap.size ≤ W5.heap.size) := Lib.hid ⟨HB.out ▸ HK4.out.size, hcx.size⟩
            obtain ⟨BE, hBE⟩ : ∃ x, x = W4.heap.size := ⟨_, rfl⟩
            rw [← hBE] at hon HBE
            clear hBE
            have HN := Lib.hid (HN.out.same hcx)
            have Hgv := Lib.hid ((hcx.block gv (lt_of_obj Hgv.out) (by simp)).trans Hgv.out)
            have HE := Lib.hid hon
            have Hvl := Lib.hid hvl
            have HJ := Lib.hid (fun i hi hv => (hvj i hi hv).chg hcx)
            clear hon hvl hvj
            have HBN : Hid (B ≤ BN ∧ BN ≤ W5.heap.size) := Lib.hid ⟨HBN.out.1, Nat.le_trans HBN.out.2 hcx.size⟩
            have hS := HS.out W5 HK5.out
            refine hK _ _ (fun _ => hS) trivial ?_
            clear hK K hcx
            refine anyU_one (k := 12) (by kernel_rfl) rfl (fun K hK => ?_)
            have hbe : BE ≤ W5.heap.size := HBE.out.2
            obtain ⟨aF, cF, W6, hr, hon, hcx⟩ := pushE (e := ev0) 23 HE.out Hvl.out.symm Hgv.out (by rw [Hvl.out]; exact HL.out.2.2.2) hbe
            refine step_app rfl _ _ _ rfl _ _ _ _ rfl rfl hr ?_
            have HN := Lib.hid (HN.out.kept hcx.toP fun g hg hm => apartNE2 HN.out HE.out hg (by simpa using hm))
            have HJ := Lib.hid (fun i hi hv => (HJ.out i hi hv).kept hcx.toP fun g hg hm => by have h1 := Hpb.out g hg; have h2 := (ownsRow_ge HE.out (by simpa using hm)).1; have h3 := HBE.out.1; omega)
            have HK6 := Lib.hid (HK5.out.comp hcx.toP fun g hg => Or.inl (Nat.le_trans HBE.out.1 (ownsRow_ge HE.out (by simpa using hg)).1))
            have HE := Lib.hid hon
            clear hr hon hbe
            have HBN : Hid (B ≤ BN ∧ BN ≤ W6.heap.size) := Lib.hid ⟨HBN.out.1, Nat.le_trans HBN.out.2 hcx.size⟩
            have HBE : Hid (B ≤ BE ∧ BE ≤ W6.heap.size) := Lib.hid ⟨HBE.out.1, Nat.le_trans HBE.out.2 hcx.size⟩
            have hS := HS.out W6 HK6.out
            refine hK _ _ (fun _ => hS) trivial ?_
            clear hK K hcx
            refine anyU_one (k := 13) (by kernel_rfl) rfl (fun K hK => ?_)
            go_simp
            refine hK _ _ (fun _ => hS) trivial ?_
            clear hK K
            have hvb := (HK6.out.block vb (lt_of_obj Hvb.out) (by have := HB.out; have := lt_of_obj Hvb.out; omega)).trans Hvb.out
            obtain ⟨r0, r1, r2, r3, r4⟩ := box_kept vb hvb (Chg.refl [] W6)
            have rf := fun i => frozen_of_heap (i := i) hvb
            have rl := lt_of_cell r0
            refine anyU_one (k := 14) (by kernel_rfl) rfl (fun K hK => ?_)
            go_simp
            refine hK _ _ (fun h => by simp at h) trivial ?_
            clear hK K hS
            refine anyU_done (by kernel_rfl) ?_
            obtain ⟨hjv, hbx, hcv⟩ := dee_end hvb (by have := lt_of_obj Hv6.out; rw [HB.out]; exact this) HBN.out HBE.out HN.out HE.out Hvl.out HJ.out Hpv.out Hlens.out.1
            obtain ⟨wf, hwf⟩ : ∃ x, x = (((((W6.setCell ⟨vb, 0, none⟩ (.int .i64 ej.k)).setCell ⟨vb, 1, none⟩ (.int .i64 0)).setCell ⟨vb, 2, none⟩ (.string ⟨#[]⟩)).setCell ⟨vb, 3, none⟩ (.slice aM (j.names.length + 1) cM)).setCell ⟨vb, 4, none⟩ (.slice aF (j.elems.length + 1) cF)) := ⟨_, rfl⟩
            rw [← hwf] at hjv hbx hcv ⊢
            clear hwf hvb r0 r1 r2 r3 r4 rf rl
            have Hcf : Hid (Chg [] w wf) := Lib.hid ((Hc6.out.toP.comp HK6.out fun x hx => Or.inr (by have := HB.out; have := Hc6.out.size; omega)).comp hcv.toP fun x hx => Or.inr (by have := List.mem_singleton.1 hx; have := Hvb0.out; omega)).toL
            have He9 := Lib.hid ((hcv.block eb (lt_of_obj ((HK6.out.block eb (lt_of_obj He6.out) (by have := lt_of_obj He6.out; have := HB.out; omega)).trans He6.out)) (by have := Hlt.out; simp; omega)).trans ((HK6.out.block eb (lt_of_obj He6.out) (by have := lt_of_obj He6.out; have := HB.out; omega)).trans He6.out))
            have Hj9 := Lib.hid (((Hj6.out.kept HK6.out fun g hg => by have := hg.2; have := HB.out; omega).kept hcv.toP fun g hg hm => by have := List.mem_singleton.1 hm; have := Hlt.out; have := hg.1; omega).imp (q := fun g => g < wf.heap.size) fun g hg => by have := hg.2; have := HK6.out.size; have := hcv.size; omega)
            have Hjv := Lib.hid hjv
            have Hbx := Lib.hid hbx
            clear hjv hbx hcv HN HE HJ Hvl HBN HBE
            go_wp2_with fail
            refine (mexB_any wf (HT.out.new Hcf.out)).mono ?_
            rintro e1 w7 ⟨rfl, hc7⟩
            have HI := Lib.hid (Equal_any _ _ (f + 1) f3 w7 (withP j) E _ _ (Hjv.out.chg hc7) (Hj9.out.chg hc7) (fun g hg => Nat.lt_of_lt_of_le hg hc7.size) (fun g hg => Nat.lt_of_lt_of_le hg hc7.size) (HT.out.new (Hcf.out.trans hc7)).1)
            rw [Hlw.out.2.2.2] at HI
            unfold Ev.val at HI
            obtain ⟨b0, b1, b2, b3, b4⟩ := box_kept vb Hbx.out hc7
            obtain ⟨d0, d1, d2, d3, d4⟩ := box_kept eb He9.out hc7
            have Hc7 := Lib.hid (Hcf.out.trans hc7)
            clear hc7
            go_wp2_with fail
            refine HI.out.mono ?_
            rintro e1 w8 ⟨rfl, hc8⟩
            have Hc8 := Lib.hid (Hc7.out.trans hc8)
            clear hc8
            go_wp2_with fail
            go_ret
            exact ⟨rfl, Hc8.out⟩
        · skip
          go_simp
          obtain ⟨W2, hX⟩ : ∃ x, x = W1.alloc (.cells #[.int .i64 0, .int .i64 0, .string ⟨#[]⟩, .slice none 0 0, .slice none 0 0] 25) := ⟨_, rfl⟩
          obtain ⟨gv, hg⟩ : ∃ x, x = W1.heap.size := ⟨_, rfl⟩
          have hcx : Chg [] W1 W2 := by rw [hX]; exact (Chg.refl _ _).alloc _
          have hgv : W2.heap[gv]? = some (.cells #[.int .i64 0, .int .i64 0, .string ⟨#[]⟩, .slice none 0 0, .slice none 0 0] 25 (0, 0)) := by rw [hX, hg]; exact heap_at _ _ _ rfl
          rw [← hX, ← hg]
          clear hX hg
          have HK2 := Lib.hid (HK1.out.new hcx)
          have HN := Lib.hid (HN.out.same hcx)
          have Hgv := Lib.hid hgv
          clear hgv
          have HBN : Hid (B ≤ BN ∧ BN ≤ W2.heap.size) := Lib.hid ⟨HBN.out.1, Nat.le_trans HBN.out.2 hcx.size⟩
          have hS := HS.out W2 HK2.out
          refine hK _ _ (fun _ => hS) trivial ?_
          clear hK K hcx
          refine anyU_one (k := 5) (by kernel_rfl) rfl (fun K hK => ?_)
          go_simp
          obtain ⟨W3, hX⟩ : ∃ x, x = W2.alloc (.cells #[.string ⟨#[112, 97, 114, 97, 109, 115]⟩] 9) := ⟨_, rfl⟩
          obtain ⟨gs, hg⟩ : ∃ x, x = W2.heap.size := ⟨_, rfl⟩
          have hcx : Chg [] W2 W3 := by rw [hX]; exact (Chg.refl _ _).alloc _
          have hgs : W3.heap[gs]? = some (.cells #[.string ⟨#[112, 97, 114, 97, 109, 115]⟩] 9 (0, 0)) := by rw [hX, hg]; exact heap_at _ _ _ rfl
          rw [← hX, ← hg]
          clear hX hg
          have HK3 := Lib.hid (HK2.out.new hcx)
          have HN := Lib.hid (HN.out.same hcx)
          have Hgv := Lib.hid ((hcx.block gv (lt_of_obj Hgv.out) (by simp)).trans Hgv.out)
          have Hgs := Lib.hid hgs
          clear hgs
          have HBN : Hid (B ≤ BN ∧ BN ≤ W3.heap.size) := Lib.hid ⟨HBN.out.1, Nat.le_trans HBN.out.2 hcx.size⟩
          have hS := HS.out W3 HK3.out
          refine hK _ _ (fun _ => hS) trivial ?_
          clear hK K hcx
          refine anyU_one (k := 6) (by kernel_rfl) rfl (fun K hK => ?_)
          have hbn : BN ≤ W3.heap.size := HBN.out.2
          obtain ⟨aM, cM, W4, hr, hon, hcx⟩ := pushN 22 HN.out rfl (by unfold maxLen; decide) Hgs.out HL.out.2.2.1 hbn
          refine step_app rfl _ _ _ rfl _ _ _ _ rfl rfl hr ?_
          have Hgv := Lib.hid ((hcx.block gv (lt_of_obj Hgv.out) (fun hm => own_ne HN.out.1 (by simpa using hm) Hgv.out)).trans Hgv.out)
          have HK4 := Lib.hid (HK3.out.comp hcx.toP fun g hg => Or.inl (Nat.le_trans HBN.out.1 (ownsRow_ge HN.out.1 (by simpa using hg)).1))
          have HN := Lib.hid hon
          clear hr hon hbn
          have HBN : Hid (B ≤ BN ∧ BN ≤ W4.heap.size) := Lib.hid ⟨HBN.out.1, Nat.le_trans HBN.out.2 hcx.size⟩
          have hS := HS.out W4 HK4.out
          refine hK _ _ (fun _ => hS) trivial ?_
          clear hK K hcx
          refine anyU_one (k := 9) (by kernel_rfl) rfl (fun K hK => ?_)
          go_simp
          refine (rcloneE_any p f W4 _ _ _ _ (HSl.out W4 HK4.out).2 HL.out.2.1).mono ?_
          rintro e1 W5 ⟨aE, cE, vs, rfl, hon, hvl, hvj, hcx⟩
          have HK5 := Lib.hid (HK4.out.new hcx)
          have HBE : Hid (B ≤ W4.heap.size ∧ W4.heap.size ≤ W5.heap.size) := Lib.hid ⟨HB.out ▸ HK4.out.size, hcx.size⟩
          obtain ⟨BE, hBE⟩ : ∃ x, x = W4.heap.size := ⟨_, rfl⟩
          rw [← hBE] at hon HBE
          clear hBE
          have HN := Lib.hid (HN.out.same hcx)
          have Hgv := Lib.hid ((hcx.block gv (lt_of_obj Hgv.out) (by simp)).trans Hgv.out)
          have HE := Lib.hid hon
          have Hvl := Lib.hid hvl
          have HJ := Lib.hid (fun i hi hv => (hvj i hi hv).chg hcx)
          clear hon hvl hvj
          have HBN : Hid (B ≤ BN ∧ BN ≤ W5.heap.size) := Lib.hid ⟨HBN.out.1, Nat.le_trans HBN.out.2 hcx.size⟩
          have hS := HS.out W5 HK5.out
          refine hK _ _ (fun _ => hS) trivial ?_
          clear hK K hcx
          refine anyU_one (k := 12) (by kernel_rfl) rfl (fun K hK => ?_)
          have hbe : BE ≤ W5.heap.size := HBE.out.2
          obtain ⟨aF, cF, W6, hr, hon, hcx⟩ := pushE (e := ev0) 23 HE.out Hvl.out.symm Hgv.out (by rw [Hvl.out]; exact HL.out.2.2.2) hbe
          refine step_app rfl _ _ _ rfl _ _ _ _ rfl rfl hr ?_
          have HN := Lib.hid (HN.out.kept hcx.toP fun g hg hm => apartNE2 HN.out HE.out hg (by simpa using hm))
          have HJ := Lib.hid (fun i hi hv => (HJ.out i hi hv).kept hcx.toP fun g hg hm => by have h1 := Hpb.out g hg; have h2 := (ownsRow_ge HE.out (by simpa using hm)).1; have h3 := HBE.out.1; omega)
          have HK6 := Lib.hid (HK5.out.comp hcx.toP fun g hg => Or.inl (Nat.le_trans HBE.out.1 (ownsRow_ge HE.out (by simpa using hg)).1))
          have HE := Lib.hid hon
          clear hr hon hbe
          have HBN : Hid (B ≤ BN ∧ BN ≤ W6.heap.size) := Lib.hid ⟨HBN.out.1, Nat.le_trans HBN.out.2 hcx.size⟩
          have HBE : Hid (B ≤ BE ∧ BE ≤ W6.heap.size) := Lib.hid ⟨HBE.out.1, Nat.le_trans HBE.out.2 hcx.size⟩
          have hS := HS.out W6 HK6.out
          refine hK _ _ (fun _ => hS) trivial ?_
          clear hK K hcx
          refine anyU_one (k := 13) (by kernel_rfl) rfl (fun K hK => ?_)
          go_simp
          refine hK _ _ (fun _ => hS) trivial ?_
          clear hK K
          have hvb := (HK6.out.block vb (lt_of_obj Hvb.out) (by have := HB.out; have := lt_of_obj Hvb.out; omega)).trans Hvb.out
          obtain ⟨r0, r1, r2, r3, r4⟩ := box_kept vb hvb (Chg.refl [] W6)
          have rf := fun i => frozen_of_heap (i := i) hvb
          have rl := lt_of_cell r0
          refine anyU_one (k := 14) (by kernel_rfl) rfl (fun K hK => ?_)
          go_simp
          refine hK _ _ (fun h => by simp at h) trivial ?_
          clear hK K hS
          refine anyU_done (by kernel_rfl) ?_
          obtain ⟨hjv, hbx, hcv⟩ := dee_end hvb (by have := lt_of_obj Hv6.out; rw [HB.out]; exact this) HBN.out HBE.out HN.out HE.out Hvl.out HJ.out Hpv.out Hlens.out.1
          obtain ⟨wf, hwf⟩ : ∃ x, x = (((((W6.setCell ⟨vb, 0, none⟩ (.int .i64 ej.k)).setCell ⟨vb, 1, none⟩ (.int .i64 0)).setCell ⟨vb, 2, none⟩ (.string ⟨#[]⟩)).setCell ⟨vb, 3, none⟩ (.slice aM (j.names.length + 1) cM)).setCell ⟨vb, 4, none⟩ (.slice aF (j.elems.length + 1) cF)) := ⟨_, rfl⟩
          rw [← hwf] at hjv hbx hcv ⊢
          clear hwf hvb r0 r1 r2 r3 r4 rf rl
          have Hcf : Hid (Chg [] w wf) := Lib.hid ((Hc6.out.toP.comp HK6.out fun x hx => Or.inr (by have := HB.out; have := Hc6.out.size; omega)).comp hcv.toP fun x hx => Or.inr (by have := List.mem_singleton.1 hx; have := Hvb0.out; omega)).toL
          have He9 := Lib.hid ((hcv.block eb (lt_of_obj ((HK6.out.block eb (lt_of_obj He6.out) (by have := lt_of_obj He6.out; have := HB.out; omega)).trans He6.out)) (by have := Hlt.out; simp; omega)).trans ((HK6.out.block eb (lt_of_obj He6.out) (by have := lt_of_obj He6.out; have := HB.out; omega)).trans He6.out))
          have Hj9 := Lib.hid (((Hj6.out.kept HK6.out fun g hg => by have := hg.2; have := HB.out; omega).kept hcv.toP fun g hg hm => by have := List.mem_singleton.1 hm; have := Hlt.out; have := hg.1; omega).imp (q := fun g => g < wf.heap.size) fun g hg => by have := hg.2; have := HK6.out.size; have := hcv.size; omega)
          have Hjv := Lib.hid hjv
          have Hbx := Lib.hid hbx
          clear hjv hbx hcv HN HE HJ Hvl HBN HBE
          go_wp2_with fail
          refine (mexB_any wf (HT.out.new Hcf.out)).mono ?_
          rintro e1 w7 ⟨rfl, hc7⟩
          have HI := Lib.hid (Equal_any _ _ (f + 1) f3 w7 (withP j) E _ _ (Hjv.out.chg hc7) (Hj9.out.chg hc7) (fun g hg => Nat.lt_of_lt_of_le hg hc7.size) (fun g hg => Nat.lt_of_lt_of_le hg hc7.size) (HT.out.new (Hcf.out.trans hc7)).1)
          rw [Hlw.out.2.2.2] at HI
          unfold Ev.val at HI
          obtain ⟨b0, b1, b2, b3, b4⟩ := box_kept vb Hbx.out hc7
          obtain ⟨d0, d1, d2, d3, d4⟩ := box_kept eb He9.out hc7
          have Hc7 := Lib.hid (Hcf.out.trans hc7)
          clear hc7
          go_wp2_with fail
          refine HI.out.mono ?_
          rintro e1 w8 ⟨rfl, hc8⟩
          have Hc8 := Lib.hid (Hc7.out.trans hc8)
          clear hc8
          go_wp2_with fail
          go_ret
          exact ⟨rfl, Hc8.out⟩
      · skip
        go_simp
        obtain ⟨W1, hX⟩ : ∃ x, x = W0.alloc (.cells #[.string ⟨#[112, 97, 114, 97, 109, 115]⟩] 9) := ⟨_, rfl⟩
        obtain ⟨gs, hg⟩ : ∃ x, x = W0.heap.size := ⟨_, rfl⟩
        have hcx : Chg [] W0 W1 := by rw [hX]; exact (Chg.refl _ _).alloc _
        have hgs : W1.heap[gs]? = some (.cells #[.string ⟨#[112, 97, 114, 97, 109, 115]⟩] 9 (0, 0)) := by rw [hX, hg]; exact heap_at _ _ _ rfl
        rw [← hX, ← hg]
        clear hX hg
        have HK1 := Lib.hid (HK0.out.new hcx)
        have Hgs := Lib.hid hgs
        clear hgs
        have hS := HS.out W1 HK1.out
        refine hK _ _ (fun _ => hS) trivial ?_
        clear hK K hcx
        refine anyU_two (k := 4) (k' := 11) (by kernel_rfl) rfl rfl (fun K hK => ?_) (fun K hK => ?_) 
        · skip
          go_simp
          refine (rclone_any p W1 _ _ (HSl.out W1 HK1.out).1 HL.out.1).mono ?_
          rintro e1 W2 ⟨v1, rfl, hon, hcx⟩
          obtain ⟨aN, cN, rfl⟩ := ownsRow_shape hon.1
          have HK2 := Lib.hid (HK1.out.new hcx)
          have HBN : Hid (B ≤ W1.heap.size ∧ W1.heap.size ≤ W2.heap.size) := Lib.hid ⟨HB.out ▸ HK1.out.size, hcx.size⟩
          obtain ⟨BN, hBN⟩ : ∃ x, x = W1.heap.size := ⟨_, rfl⟩
          rw [← hBN] at hon HBN
          clear hBN
          have Hgs := Lib.hid ((hcx.block gs (lt_of_obj Hgs.out) (by simp)).trans Hgs.out)
          have HN := Lib.hid hon
          clear hon
          have hS := HS.out W2 HK2.out
          refine hK _ _ (fun _ => hS) trivial ?_
          clear hK K hcx
          refine anyU_two (k := 6) (k' := 11) (by kernel_rfl) rfl rfl (fun K hK => ?_) (fun K hK => ?_) 
          · skip
            have hbn : BN ≤ W2.heap.size := HBN.out.2
            obtain ⟨aM, cM, W3, hr, hon, hcx⟩ := pushN 22 HN.out rfl (by unfold maxLen; decide) Hgs.out HL.out.2.2.1 hbn
            refine step_app rfl _ _ _ rfl _ _ _ _ rfl rfl hr ?_
            have HK3 := Lib.hid (HK2.out.comp hcx.toP fun g hg => Or.inl (Nat.le_trans HBN.out.1 (ownsRow_ge HN.out.1 (by simpa using hg)).1))
            have HN := Lib.hid hon
            clear hr hon hbn
            have HBN : Hid (B ≤ BN ∧ BN ≤ W3.heap.size) := Lib.hid ⟨HBN.out.1, Nat.le_trans HBN.out.2 hcx.size⟩
            have hS := HS.out W3 HK3.out
            refine hK _ _ (fun _ => hS) trivial ?_
            clear hK K hcx
            refine anyU_two (k := 9) (k' := 11) (by kernel_rfl) rfl rfl (fun K hK => ?_) (fun K hK => ?_) 
            · skip
              go_simp
              refine (rcloneE_any p f W3 _ _ _ _ (HSl.out W3 HK3.out).2 HL.out.2.1).mono ?_
              rintro e1 W4 ⟨aE, cE, vs, rfl, hon, hvl, hvj, hcx⟩
              have HK4 := Lib.hid (HK3.out.new hcx)
              have HBE : Hid (B ≤ W3.heap.size ∧ W3.heap.size ≤ W4.heap.size) := Lib.hid ⟨HB.out ▸ HK3.out.size, hcx.size⟩
              obtain ⟨BE, hBE⟩ : ∃ x, x = W3.heap.size := ⟨_, rfl⟩
              rw [← hBE] at hon HBE
              clear hBE
              have HN := Lib.hid (HN.out.same hcx)
              have HE := Lib.hid hon
              have Hvl := Lib.hid hvl
              have HJ := Lib.hid (fun i hi hv => (hvj i hi hv).chg hcx)
              clear hon hvl hvj
              have HBN : Hid (B ≤ BN ∧ BN ≤ W4.heap.size) := Lib.hid ⟨HBN.out.1, Nat.le_trans HBN.out.2 hcx.size⟩
              have hS := HS.out W4 HK4.out
              refine hK _ _ (fun _ => hS) trivial ?_
              clear hK K hcx
              refine anyU_one (k := 11) (by kernel_rfl) rfl (fun K hK => ?_)
              go_simp
              obtain ⟨W5, hX⟩ : ∃ x, x = W4.alloc (.cells #[.int .i64 0, .int .i64 0, .string ⟨#[]⟩, .slice none 0 0, .slice none 0 0] 25) := ⟨_, rfl⟩
              obtain ⟨gv, hg⟩ : ∃ x, x = W4.heap.size := ⟨_, rfl⟩
              have hcx : Chg [] W4 W5 := by rw [hX]; exact (Chg.refl _ _).alloc _
              have hgv : W5.heap[gv]? = some (.cells #[.int .i64 0, .int .i64 0, .string ⟨#[]⟩, .slice none 0 0, .slice none 0 0] 25 (0, 0)) := by rw [hX, hg]; exact heap_at _ _ _ rfl
              rw [← hX, ← hg]
              clear hX hg
              have HK5 := Lib.hid (HK4.out.new hcx)
              have HN := Lib.hid (HN.out.same hcx)
              have HE := Lib.hid (HE.out.same hcx)
              have HJ := Lib.hid (fun i hi hv => (HJ.out i hi hv).chg hcx)
              have Hgv := Lib.hid hgv
              clear hgv
              have HBN : Hid (B ≤ BN ∧ BN ≤ W5.heap.size) := Lib.hid ⟨HBN.out.1, Nat.le_trans HBN.out.2 hcx.size⟩
              have HBE : Hid (B ≤ BE ∧ BE ≤ W5.heap.size) := Lib.hid ⟨HBE.out.1, Nat.le_trans HBE.out.2 hcx.size⟩
              have hS := HS.out W5 HK5.out
              refine hK _ _ (fun _ => hS) trivial ?_
              clear hK K hcx
              refine anyU_one (k := 12) (by kernel_rfl) rfl (fun K hK => ?_)
              have hbe : BE ≤ W5.heap.size := HBE.out.2
              obtain ⟨aF, cF, W6, hr, hon, hcx⟩ := pushE (e := ev0) 23 HE.out Hvl.out.symm Hgv.out (by rw [Hvl.out]; exact HL.out.2.2.2) hbe
              refine step_app rfl _ _ _ rfl _ _ _ _ rfl rfl hr ?_
              have HN := Lib.hid (HN.out.kept hcx.toP fun g hg hm => apartNE2 HN.out HE.out hg (by simpa using hm))
              have HJ := Lib.hid (fun i hi hv => (HJ.out i hi hv).kept hcx.toP fun g hg hm => by have h1 := Hpb.out g hg; have h2 := (ownsRow_ge HE.out (by simpa using hm)).1; have h3 := HBE.out.1; omega)
              have HK6 := Lib.hid (HK5.out.comp hcx.toP fun g hg => Or.inl (Nat.le_trans HBE.out.1 (ownsRow_ge HE.out (by simpa using hg)).1))
              have HE := Lib.hid hon
              clear hr hon hbe
              have HBN : Hid (B ≤ BN ∧ BN ≤ W6.heap.size) := Lib.hid ⟨HBN.out.1, Nat.le_trans HBN.out.2 hcx.size⟩
              have HBE : Hid (B ≤ BE ∧ BE ≤ W6.heap.size) := Lib.hid ⟨HBE.out.1, Nat.le_trans HBE.out.2 hcx.size⟩
              have hS := HS.out W6 HK6.out
              refine hK _ _ (fun _ => hS) trivial ?_
              clear hK K hcx
              refine anyU_one (k := 13) (by kernel_rfl) rfl (fun K hK => ?_)
              go_simp
              refine hK _ _ (fun _ => hS) trivial ?_
              clear hK K
              have hvb := (HK6.out.block vb (lt_of_obj Hvb.out) (by have := HB.out; have := lt_of_obj Hvb.out; omega)).trans Hvb.out
              obtain ⟨r0, r1, r2, r3, r4⟩ := box_kept vb hvb (Chg.refl [] W6)
              have rf := fun i => frozen_of_heap (i := i) hvb
              have rl := lt_of_cell r0
              refine anyU_one (k := 14) (by kernel_rfl) rfl (fun K hK => ?_)
              go_simp
              refine hK _ _ (fun h => by simp at h) trivial ?_
              clear hK K hS
              refine anyU_done (by kernel_rfl) ?_
              obtain ⟨hjv, hbx, hcv⟩ := dee_end hvb (by have := lt_of_obj Hv6.out; rw [HB.out]; exact this) HBN.out HBE.out HN.out HE.out Hvl.out HJ.out Hpv.out Hlens.out.1
              obtain ⟨wf, hwf⟩ : ∃ x, x = (((((W6.setCell ⟨vb, 0, none⟩ (.int .i64 ej.k)).setCell ⟨vb, 1, none⟩ (.int .i64 0)).setCell ⟨vb, 2, none⟩ (.string ⟨#[]⟩)).setCell ⟨vb, 3, none⟩ (.slice aM (j.names.length + 1) cM)).setCell ⟨vb, 4, none⟩ (.slice aF (j.elems.length + 1) cF)) := ⟨_, rfl⟩
              rw [← hwf] at hjv hbx hcv ⊢
              clear hwf hvb r0 r1 r2 r3 r4 rf rl
              have Hcf : Hid (Chg [] w wf) := Lib.hid ((Hc6.out.toP.comp HK6.out fun x hx => Or.inr (by have := HB.out; have := Hc6.out.size; omega)).comp hcv.toP fun x hx => Or.inr (by have := List.mem_singleton.1 hx; have := Hvb0.out; omega)).toL
              have He9 := Lib.hid ((hcv.block eb (lt_of_obj ((HK6.out.block eb (lt_of_obj He6.out) (by have := lt_of_obj He6.out; have := HB.out; omega)).trans He6.out)) (by have := Hlt.out; simp; omega)).trans ((HK6.out.block eb (lt_of_obj He6.out) (by have := lt_of_obj He6.out; have := HB.out; omega)).trans He6.out))
              have Hj9 := Lib.hid (((Hj6.out.kept HK6.out fun g hg => by have := hg.2; have := HB.out; omega).kept hcv.toP fun g hg hm => by have := List.mem_singleton.1 hm; have := Hlt.out; have := hg.1; omega).imp (q := fun g => g < wf.heap.size) fun g hg => by have := hg.2; have := HK6.out.size; have := hcv.size; omega)
              have Hjv := Lib.hid hjv
              have Hbx := Lib.hid hbx
              clear hjv hbx hcv HN HE HJ Hvl HBN HBE
              go_wp2_with fail
              refine (mexB_any wf (HT.out.new Hcf.out)).mono ?_
              rintro e1 w7 ⟨rfl, hc7⟩
              have HI := Lib.hid (Equal_any _ _ (f + 1) f3 w7 (withP j) E _ _ (Hjv.out.chg hc7) (Hj9.out.chg hc7) (fun g hg => Nat.lt_of_lt_of_le hg hc7.size) (fun g hg => Nat.lt_of_lt_of_le hg hc7.size) (HT.out.new (Hcf.out.trans hc7)).1)
              rw [Hlw.out.2.2.2] at HI
              unfold Ev.val at HI
              obtain ⟨b0, b1, b2, b3, b4⟩ := box_kept vb Hbx.out hc7
              obtain ⟨d0, d1, d2, d3, d4⟩ := box_kept eb He9.out hc7
              have Hc7 := Lib.hid (Hcf.out.trans hc7)
              clear hc7
              go_wp2_with fail
              refine HI.out.mono ?_
              rintro e1 w8 ⟨rfl, hc8⟩
              have Hc8 := Lib.hid (Hc7.out.trans hc8)
              clear hc8
              go_wp2_with fail
              go_ret
              exact ⟨rfl, Hc8.out⟩
            · skip
              go_simp
              obtain ⟨W4, hX⟩ : ∃ x, x = W3.alloc (.cells #[.int .i64 0, .int .i64 0, .string ⟨#[]⟩, .slice none 0 0, .slice none 0 0] 25) := ⟨_, rfl⟩
              obtain ⟨gv, hg⟩ : ∃ x, x = W3.heap.size := ⟨_, rfl⟩
              have hcx : Chg [] W3 W4 := by rw [hX]; exact (Chg.refl _ _).alloc _
              have hgv : W4.heap[gv]? = some (.cells #[.int .i64 0, .int .i64 0, .string ⟨#[]⟩, .slice none 0 0, .slice none 0 0] 25 (0, 0)) := by rw [hX, hg]; exact heap_at _ _ _ rfl
              rw [← hX, ← hg]
              clear hX hg
              have HK4 := Lib.hid (HK3.out.new hcx)
              have HN := Lib.hid (HN.out.same hcx)
              have Hgv := Lib.hid hgv
              clear hgv
              have HBN : Hid (B ≤ BN ∧ BN ≤ W4.heap.size) := Lib.hid ⟨HBN.out.1, Nat.le_trans HBN.out.2 hcx.size⟩
              have hS := HS.out W4 HK4.out
              refine hK _ _ (fun _ => hS) trivial ?_
              clear hK K hcx
              refine anyU_one (k := 9) (by kernel_rfl) rfl (fun K hK => ?_)
              go_simp
              refine (rcloneE_any p f W4 _ _ _ _ (HSl.out W4 HK4.out).2 HL.out.2.1).mono ?_
              rintro e1 W5 ⟨aE, cE, vs, rfl, hon, hvl, hvj, hcx⟩
              have HK5 := Lib.hid (HK4.out.new hcx)
              have HBE : Hid (B ≤ W4.heap.size ∧ W4.heap.size ≤ W5.heap.size) := Lib.hid ⟨HB.out ▸ HK4.out.size, hcx.size⟩
              obtain ⟨BE, hBE⟩ : ∃ x, x = W4.heap.size := ⟨_, rfl⟩
              rw [← hBE] at hon HBE
              clear hBE
              have HN := Lib.hid (HN.out.same hcx)
              have Hgv := Lib.hid ((hcx.block gv (lt_of_obj Hgv.out) (by simp)).trans Hgv.out)
              have HE := Lib.hid hon
              have Hvl := Lib.hid hvl
              have HJ := Lib.hid (fun i hi hv => (hvj i hi hv).chg hcx)
              clear hon hvl hvj
              have HBN : Hid (B ≤ BN ∧ BN ≤ W5.heap.size) := Lib.hid ⟨HBN.out.1, Nat.le_trans HBN.out.2 hcx.size⟩
              have hS := HS.out W5 HK5.out
              refine hK _ _ (fun _ => hS) trivial ?_
              clear hK K hcx
              refine anyU_one (k := 12) (by kernel_rfl) rfl (fun K hK => ?_)
              have hbe : BE ≤ W5.heap.size := HBE.out.2
              obtain ⟨aF, cF, W6, hr, hon, hcx⟩ := pushE (e := ev0) 23 HE.out Hvl.out.symm Hgv.out (by rw [Hvl.out]; exact HL.out.2.2.2) hbe
              refine step_app rfl _ _ _ rfl _ _ _ _ rfl rfl hr ?_
              have HN := Lib.hid (HN.out.kept hcx.toP fun g hg hm => apartNE2 HN.out HE.out hg (by simpa using hm))
              have HJ := Lib.hid (fun i hi hv => (HJ.out i hi hv).kept hcx.toP fun g hg hm => by have h1 := Hpb.out g hg; have h2 := (ownsRow_ge HE.out (by simpa using hm)).1; have h3 := HBE.out.1; omega)
              have HK6 := Lib.hid (HK5.out.comp hcx.toP fun g hg => Or.inl (Nat.le_trans HBE.out.1 (ownsRow_ge HE.out (by simpa using hg)).1))
              have HE := Lib.hid hon
              clear hr hon hbe
              have HBN : Hid (B ≤ BN ∧ BN ≤ W6.heap.size) := Lib.hid ⟨HBN.out.1, Nat.le_trans HBN.out.2 hcx.size⟩
              have HBE : Hid (B ≤ BE ∧ BE ≤ W6.heap.size) := Lib.hid ⟨HBE.out.1, Nat.le_trans HBE.out.2 hcx.size⟩
              have hS := HS.out W6 HK6.out
              refine hK _ _ (fun _ => hS) trivial ?_
              clear hK K hcx
              refine anyU_one (k := 13) (by kernel_rfl) rfl (fun K hK => ?_)
              go_simp
              refine hK _ _ (fun _ => hS) trivial ?_
              clear hK K
              have hvb := (HK6.out.block vb (lt_of_obj Hvb.out) (by have := HB.out; have := lt_of_obj Hvb.out; omega)).trans Hvb.out
              obtain ⟨r0, r1, r2, r3, r4⟩ := box_kept vb hvb (Chg.refl [] W6)
              have rf := fun i => frozen_of_heap (i := i) hvb
              have rl := lt_of_cell r0
              refine anyU_one (k := 14) (by kernel_rfl) rfl (fun K hK => ?_)
              go_simp
              refine hK _ _ (fun h => by simp at h) trivial ?_
              clear hK K hS
              refine anyU_done (by kernel_rfl) ?_
              obtain ⟨hjv, hbx, hcv⟩ := dee_end hvb (by have := lt_of_obj Hv6.out; rw [HB.out]; exact this) HBN.out HBE.out HN.out HE.out Hvl.out HJ.out Hpv.out Hlens.out.1
              obtain ⟨wf, hwf⟩ : ∃ x, x = (((((W6.setCell ⟨vb, 0, none⟩ (.int .i64 ej.k)).setCell ⟨vb, 1, none⟩ (.int .i64 0)).setCell ⟨vb, 2, none⟩ (.string ⟨#[]⟩)).setCell ⟨vb, 3, none⟩ (.slice aM (j.names.length + 1) cM)).setCell ⟨vb, 4, none⟩ (.slice aF (j.elems.length + 1) cF)) := ⟨_, rfl⟩
              rw [← hwf] at hjv hbx hcv ⊢
              clear hwf hvb r0 r1 r2 r3 r4 rf rl
              have Hcf : Hid (Chg [] w wf) := Lib.hid ((Hc6.out.toP.comp HK6.out fun x hx => Or.inr (by have := HB.out; have := Hc6.out.size; omega)).comp hcv.toP fun x hx => Or.inr (by have := List.mem_singleton.1 hx; have := Hvb0.out; omega)).toL
              have He9 := Lib.hid ((hcv.block eb (lt_of_obj ((HK6.out.block eb (lt_of_obj He6.out) (by have := lt_of_obj He6.out; have := HB.out; omega)).trans He6.out)) (by have := Hlt.out; simp; omega)).trans ((HK6.out.block eb (lt_of_obj He6.out) (by have := lt_of_obj He6.out; have := HB.out; omega)).trans He6.out))
              have Hj9 := Lib.hid (((Hj6.out.kept HK6.out fun g hg => by have := hg.2; have := HB.out; omega).kept hcv.toP fun g hg hm => by have := List.mem_singleton.1 hm; have := Hlt.out; have := hg.1; omega).imp (q := fun g => g < wf.heap.size) fun g hg => by have := hg.2; have := HK6.out.size; have := hcv.size; omega)
              have Hjv := Lib.hid hjv
              have Hbx := Lib.hid hbx
              clear hjv hbx hcv HN HE HJ Hvl HBN HBE
              go_wp2_with fail
              refine (mexB_any wf (HT.out.new Hcf.out)).mono ?_
              rintro e1 w7 ⟨rfl, hc7⟩
              have HI := Lib.hid (Equal_any _ _ (f + 1) f3 w7 (withP j) E _ _ (Hjv.out.chg hc7) (Hj9.out.chg hc7) (fun g hg => Nat.lt_of_lt_of_le hg hc7.size) (fun g hg => Nat.lt_of_lt_of_le hg hc7.size) (HT.out.new (Hcf.out.trans hc7)).1)
              rw [Hlw.out.2.2.2] at HI
              unfold Ev.val at HI
              obtain ⟨b0, b1, b2, b3, b4⟩ := box_kept vb Hbx.out hc7
              obtain ⟨d0, d1, d2, d3, d4⟩ := box_kept eb He9.out hc7
              have Hc7 := Lib.hid (Hcf.out.trans hc7)
              clear hc7
              go_wp2_with fail
              refine HI.out.mono ?_
              rintro e1 w8 ⟨rfl, hc8⟩
              have Hc8 := Lib.hid (Hc7.out.trans hc8)
              clear hc8
              go_wp2_with fail
              go_ret
              exact ⟨rfl, Hc8.out⟩
          · skip
            go_simp
            obtain ⟨W3, hX⟩ : ∃ x, x = W2.alloc (.cells #[.int .i64 0, .int .i64 0, .string ⟨#[]⟩, .slice none 0 0, .slice none 0 0] 25) := ⟨_, rfl⟩
            obtain ⟨gv, hg⟩ : ∃ x, x = W2.heap.size := ⟨_, rfl⟩
            have hcx : Chg [] W2 W3 := by rw [hX]; exact (Chg.refl _ _).alloc _
            have hgv : W3.heap[gv]? = some (.cells #[.int .i64 0, .int .i64 0, .string ⟨#[]⟩, .slice none 0 0, .slice none 0 0] 25 (0, 0)) := by rw [hX, hg]; exact heap_at _ _ _ rfl
            rw [← hX, ← hg]
            clear hX hg
            have HK3 := Lib.hid (HK2.out.new hcx)
            have HN := Lib.hid (HN.out.same hcx)
            have Hgs := Lib.hid ((hcx.block gs (lt_of_obj Hgs.out) (by simp)).trans Hgs.out)
            have Hgv := Lib.hid hgv
            clear hgv
            have HBN : Hid (B ≤ BN ∧ BN ≤ W3.heap.size) := Lib.hid ⟨HBN.out.1, Nat.le_trans HBN.out.2 hcx.size⟩
            have hS := HS.out W3 HK3.out
            refine hK _ _ (fun _ => hS) trivial ?_
            clear hK K hcx
            refine anyU_one (k := 6) (by kernel_rfl) rfl (fun K hK => ?_)
            have hbn : BN ≤ W3.heap.size := HBN.out.2
            obtain ⟨aM, cM, W4, hr, hon, hcx⟩ := pushN 22 HN.out rfl (by unfold maxLen; decide) Hgs.out HL.out.2.2.1 hbn
            refine step_app rfl _ _ _ rfl _ _ _ _ rfl rfl hr ?_
            have Hgv := Lib.hid ((hcx.block gv (lt_of_obj Hgv.out) (fun hm => own_ne HN.out.1 (by simpa using hm) Hgv.out)).trans Hgv.out)
            have HK4 := Lib.hid (HK3.out.comp hcx.toP fun g hg => Or.inl (Nat.le_trans HBN.out.1 (ownsRow_ge HN.out.1 (by simpa using hg)).1))
            have HN := Lib.hid hon
            clear hr hon hbn
            have HBN : Hid (B ≤ BN ∧ BN ≤ W4.heap.size) := Lib.hid ⟨HBN.out.1, Nat.le_trans HBN.out.2 hcx.size⟩
            have hS := HS.out W4 HK4.out
            refine hK _ _ (fun _ => hS) trivial ?_
            clear hK K hcx
            refine anyU_one (k := 9) (by kernel_rfl) rfl (fun K hK => ?_)
            go_simp
            refine (rcloneE_any p f W4 _ _ _ _ (HSl.out W4 HK4.out).2 HL.out.2.1).mono ?_
            rintro e1 W5 ⟨aE, cE, vs, rfl, hon, hvl, hvj, hcx⟩
            have HK5 := Lib.hid (HK4.out.new hcx)
            have HBE : Hid (B ≤ W4.heap.size ∧ W4.heap.size ≤ W5.heap.size) := Lib.hid ⟨HB.out ▸ HK4.out.size, hcx.size⟩
            obtain ⟨BE, hBE⟩ : ∃ x, x = W4.heap.size := ⟨_, rfl⟩
            rw [← hBE] at hon HBE
            clear hBE
            have HN := Lib.hid (HN.out.same hcx)
            have Hgv := Lib.hid ((hcx.block gv (lt_of_obj Hgv.out) (by simp)).trans Hgv.out)
            have HE := Lib.hid hon
            have Hvl := Lib.hid hvl
            have HJ := Lib.hid (fun i hi hv => (hvj i hi hv).chg hcx)
            clear hon hvl hvj
            have HBN : Hid (B ≤ BN ∧ BN ≤ W5.heap.size) := Lib.hid ⟨HBN.out.1, Nat.le_trans HBN.out.2 hcx.size⟩
            have hS := HS.out W5 HK5.out
            refine hK _ _ (fun _ => hS) trivial ?_
            clear hK K hcx
            refine anyU_one (k := 12) (by kernel_rfl) rfl (fun K hK => ?_)
            have hbe : BE ≤ W5.heap.size := HBE.out.2
            obtain ⟨aF, cF, W6, hr, hon, hcx⟩ := pushE (e := ev0) 23 HE.out Hvl.out.symm Hgv.out (by rw [Hvl.out]; exact HL.out.2.2.2) hbe
            refine step_app rfl _ _ _ rfl _ _ _ _ rfl rfl hr ?_
            have HN := Lib.hid (HN.out.kept hcx.toP fun g hg hm => apartNE2 HN.out HE.out hg (by simpa using hm))
            have HJ := Lib.hid (fun i hi hv => (HJ.out i hi hv).kept hcx.toP fun g hg hm => by have h1 := Hpb.out g hg; have h2 := (ownsRow_ge HE.out (by simpa using hm)).1; have h3 := HBE.out.1; omega)
            have HK6 := Lib.hid (HK5.out.comp hcx.toP fun g hg => Or.inl (Nat.le_trans HBE.out.1 (ownsRow_ge HE.out (by simpa using hg)).1))
            have HE := Lib.hid hon
            clear hr hon hbe
            have HBN : Hid (B ≤ BN ∧ BN ≤ W6.heap.size) := Lib.hid ⟨HBN.out.1, Nat.le_trans HBN.out.2 hcx.size⟩
            have HBE : Hid (B ≤ BE ∧ BE ≤ W6.heap.size) := Lib.hid ⟨HBE.out.1, Nat.le_trans HBE.out.2 hcx.size⟩
            have hS := HS.out W6 HK6.out
            refine hK _ _ (fun _ => hS) trivial ?_
            clear hK K hcx
            refine anyU_one (k := 13) (by kernel_rfl) rfl (fun K hK => ?_)
            go_simp
            refine hK _ _ (fun _ => hS) trivial ?_
            clear hK K
            have hvb := (HK6.out.block vb (lt_of_obj Hvb.out) (by have := HB.out; have := lt_of_obj Hvb.out; omega)).trans Hvb.out
            obtain ⟨r0, r1, r2, r3, r4⟩ := box_kept vb hvb (Chg.refl [] W6)
            have rf := fun i => frozen_of_heap (i := i) hvb
            have rl := lt_of_cell r0
            refine anyU_one (k := 14) (by kernel_rfl) rfl (fun K hK => ?_)
            go_simp
            refine hK _ _ (fun h => by simp at h) trivial ?_
            clear hK K hS
            refine anyU_done (by kernel_rfl) ?_
            obtain ⟨hjv, hbx, hcv⟩ := dee_end hvb (by have := lt_of_obj Hv6.out; rw [HB.out]; exact this) HBN.out HBE.out HN.out HE.out Hvl.out HJ.out Hpv.out Hlens.out.1
            obtain ⟨wf, hwf⟩ : ∃ x, x = (((((W6.setCell ⟨vb, 0, none⟩ (.int .i64 ej.k)).setCell ⟨vb, 1, none⟩ (.int .i64 0)).setCell ⟨vb, 2, none⟩ (.string ⟨#[]⟩)).setCell ⟨vb, 3, none⟩ (.slice aM (j.names.length + 1) cM)).setCell ⟨vb, 4, none⟩ (.slice aF (j.elems.length + 1) cF)) := ⟨_, rfl⟩
            rw [← hwf] at hjv hbx hcv ⊢
            clear hwf hvb r0 r1 r2 r3 r4 rf rl
            have Hcf : Hid (Chg [] w wf) := Lib.hid ((Hc6.out.toP.comp HK6.out fun x hx => Or.inr (by have := HB.out; have := Hc6.out.size; omega)).comp hcv.toP fun x hx => Or.inr (by have := List.mem_singleton.1 hx; have := Hvb0.out; omega)).toL
            have He9 := Lib.hid ((hcv.block eb (lt_of_obj ((HK6.out.block eb (lt_of_obj He6.out) (by have := lt_of_obj He6.out; have := HB.out; omega)).trans He6.out)) (by have := Hlt.out; simp; omega)).trans ((HK6.out.block eb (lt_of_obj He6.out) (by have := lt_of_obj He6.out; have := HB.out; omega)).trans He6.out))
            have Hj9 := Lib.hid (((Hj6.out.kept HK6.out fun g hg => by have := hg.2; have := HB.out; omega).kept hcv.toP fun g hg hm => by have := List.mem_singleton.1 hm; have := Hlt.out; have := hg.1; omega).imp (q := fun g => g < wf.heap.size) fun g hg => by have := hg.2; have := HK6.out.size; have := hcv.size; omega)
            have Hjv := Lib.hid hjv
            have Hbx := Lib.hid hbx
            clear hjv hbx hcv HN HE HJ Hvl HBN HBE
            go_wp2_with fail
            refine (mexB_any wf (HT.out.new Hcf.out)).mono ?_
            rintro e1 w7 ⟨rfl, hc7⟩
            have HI := Lib.hid (Equal_any _ _ (f + 1) f3 w7 (withP j) E _ _ (Hjv.out.chg hc7) (Hj9.out.chg hc7) (fun g hg => Nat.lt_of_lt_of_le hg hc7.size) (fun g hg => Nat.lt_of_lt_of_le hg hc7.size) (HT.out.new (Hcf.out.trans hc7)).1)
            rw [Hlw.out.2.2.2] at HI
            unfold Ev.val at HI
            obtain ⟨b0, b1, b2, b3, b4⟩ := box_kept vb Hbx.out hc7
            obtain ⟨d0, d1, d2, d3, d4⟩ := box_kept eb He9.out hc7
            have Hc7 := Lib.hid (Hcf.out.trans hc7)
            clear hc7
            go_wp2_with fail
            refine HI.out.mono ?_
            rintro e1 w8 ⟨rfl, hc8⟩
            have Hc8 := Lib.hid (Hc7.out.trans hc8)
            clear hc8
            go_wp2_with fail
            go_ret
            exact ⟨rfl, Hc8.out⟩
        · skip
          go_simp
          obtain ⟨W2, hX⟩ : ∃ x, x = W1.alloc (.cells #[.int .i64 0, .int .i64 0, .string ⟨#[]⟩, .slice none 0 0, .slice none 0 0] 25) := ⟨_, rfl⟩
          obtain ⟨gv, hg⟩ : ∃ x, x = W1.heap.size := ⟨_, rfl⟩
          have hcx : Chg [] W1 W2 := by rw [hX]; exact (Chg.refl _ _).alloc _
          have hgv : W2.heap[gv]? = some (.cells #[.int .i64 0, .int .i64 0, .string ⟨#[]⟩, .slice none 0 0, .slice none 0 0] 25 (0, 0)) := by rw [hX, hg]; exact heap_at _ _ _ rfl
          rw [← hX, ← hg]
          clear hX hg
          have HK2 := Lib.hid (HK1.out.new hcx)
          have Hgs := Lib.hid ((hcx.block gs (lt_of_obj Hgs.out) (by simp)).trans Hgs.out)
          have Hgv := Lib.hid hgv
          clear hgv
          have hS := HS.out W2 HK2.out
          refine hK _ _ (fun _ => hS) trivial ?_
          clear hK K hcx
          refine anyU_one (k := 4) (by kernel_rfl) rfl (fun K hK => ?_)
          go_simp
          refine (rclone_any p W2 _ _ (HSl.out W2 HK2.out).1 HL.out.1).mono ?_
          rintro e1 W3 ⟨v1, rfl, hon, hcx⟩
          obtain ⟨aN, cN, rfl⟩ := ownsRow_shape hon.1
          have HK3 := Lib.hid (HK2.out.new hcx)
          have HBN : Hid (B ≤ W2.heap.size ∧ W2.heap.size ≤ W3.heap.size) := Lib.hid ⟨HB.out ▸ HK2.out.size, hcx.size⟩
          obtain ⟨BN, hBN⟩ : ∃ x, x = W2.heap.size := ⟨_, rfl⟩
          rw [← hBN] at hon HBN
          clear hBN
          have Hgs := Lib.hid ((hcx.block gs (lt_of_obj Hgs.out) (by simp)).trans Hgs.out)
          have Hgv := Lib.hid ((hcx.block gv (lt_of_obj Hgv.out) (by simp)).trans Hgv.out)
          have HN := Lib.hid hon
          clear hon
          have hS := HS.out W3 HK3.out
          refine hK _ _ (fun _ => hS) trivial ?_
          clear hK K hcx
          refine anyU_one (k := 6) (by kernel_rfl) rfl (fun K hK => ?_)
          have hbn : BN ≤ W3.heap.size := HBN.out.2
          obtain ⟨aM, cM, W4, hr, hon, hcx⟩ := pushN 22 HN.out rfl (by unfold maxLen; decide) Hgs.out HL.out.2.2.1 hbn
          refine step_app rfl _ _ _ rfl _ _ _ _ rfl rfl hr ?_
          have Hgv := Lib.hid ((hcx.block gv (lt_of_obj Hgv.out) (fun hm => own_ne HN.out.1 (by simpa using hm) Hgv.out)).trans Hgv.out)
          have HK4 := Lib.hid (HK3.out.comp hcx.toP fun g hg => Or.inl (Nat.le_trans HBN.out.1 (ownsRow_ge HN.out.1 (by simpa using hg)).1))
          have HN := Lib.hid hon
          clear hr hon hbn
          have HBN : Hid (B ≤ BN ∧ BN ≤ W4.heap.size) := Lib.hid ⟨HBN.out.1, Nat.le_trans HBN.out.2 hcx.size⟩
          have hS := HS.out W4 HK4.out
          refine hK _ _ (fun _ => hS) trivial ?_
          clear hK K hcx
          refine anyU_one (k := 9) (by kernel_rfl) rfl (fun K hK => ?_)
          go_simp
          refine (rcloneE_any p f W4 _ _ _ _ (HSl.out W4 HK4.out).2 HL.out.2.1).mono ?_
          rintro e1 W5 ⟨aE, cE, vs, rfl, hon, hvl, hvj, hcx⟩
          have HK5 := Lib.hid (HK4.out.new hcx)
          have HBE : Hid (B ≤ W4.heap.size ∧ W4.heap.size ≤ W5.heap.size) := Lib.hid ⟨HB.out ▸ HK4.out.size, hcx.size⟩
          obtain ⟨BE, hBE⟩ : ∃ x, x = W4.heap.size := ⟨_, rfl⟩
          rw [← hBE] at hon HBE
          clear hBE
          have HN := Lib.hid (HN.out.same hcx)
          have Hgv := Lib.hid ((hcx.block gv (lt_of_obj Hgv.out) (by simp)).trans Hgv.out)
          have HE := Lib.hid hon
          have Hvl := Lib.hid hvl
          have HJ := Lib.hid (fun i hi hv => (hvj i hi hv).chg hcx)
          clear hon hvl hvj
          have HBN : Hid (B ≤ BN ∧ BN ≤ W5.heap.size) := Lib.hid ⟨HBN.out.1, Nat.le_trans HBN.out.2 hcx.size⟩
          have hS := HS.out W5 HK5.out
          refine hK _ _ (fun _ => hS) trivial ?_
          clear hK K hcx
          refine anyU_one (k := 12) (by kernel_rfl) rfl (fun K hK => ?_)
          have hbe : BE ≤ W5.heap.size := HBE.out.2
          obtain ⟨aF, cF, W6, hr, hon, hcx⟩ := pushE (e := ev0) 23 HE.out Hvl.out.symm Hgv.out (by rw [Hvl.out]; exact HL.out.2.2.2) hbe
          refine step_app rfl _ _ _ rfl _ _ _ _ rfl rfl hr ?_
          have HN := Lib.hid (HN.out.kept hcx.toP fun g hg hm => apartNE2 HN.out HE.out hg (by simpa using hm))
          have HJ := Lib.hid (fun i hi hv => (HJ.out i hi hv).kept hcx.toP fun g hg hm => by have h1 := Hpb.out g hg; have h2 := (ownsRow_ge HE.out (by simpa using hm)).1; have h3 := HBE.out.1; omega)
          have HK6 := Lib.hid (HK5.out.comp hcx.toP fun g hg => Or.inl (Nat.le_trans HBE.out.1 (ownsRow_ge HE.out (by simpa using hg)).1))
          have HE := Lib.hid hon
          clear hr hon hbe
          have HBN : Hid (B ≤ BN ∧ BN ≤ W6.heap.size) := Lib.hid ⟨HBN.out.1, Nat.le_trans HBN.out.2 hcx.size⟩
          have HBE : Hid (B ≤ BE ∧ BE ≤ W6.heap.size) := Lib.hid ⟨HBE.out.1, Nat.le_trans HBE.out.2 hcx.size⟩
          have hS := HS.out W6 HK6.out
          refine hK _ _ (fun _ => hS) trivial ?_
          clear hK K hcx
          refine anyU_one (k := 13) (by kernel_rfl) rfl (fun K hK => ?_)
          go_simp
          refine hK _ _ (fun _ => hS) trivial ?_
          clear hK K
          have hvb := (HK6.out.block vb (lt_of_obj Hvb.out) (by have := HB.out; have := lt_of_obj Hvb.out; omega)).trans Hvb.out
          obtain ⟨r0, r1, r2, r3, r4⟩ := box_kept vb hvb (Chg.refl [] W6)
          have rf := fun i => frozen_of_heap (i := i) hvb
          have rl := lt_of_cell r0
          refine anyU_one (k := 14) (by kernel_rfl) rfl (fun K hK => ?_)
          go_simp
          refine hK _ _ (fun h => by simp at h) trivial ?_
          clear hK K hS
          refine anyU_done (by kernel_rfl) ?_
          obtain ⟨hjv, hbx, hcv⟩ := dee_end hvb (by have := lt_of_obj Hv6.out; rw [HB.out]; exact this) HBN.out HBE.out HN.out HE.out Hvl.out HJ.out Hpv.out Hlens.out.1
          obtain ⟨wf, hwf⟩ : ∃ x, x = (((((W6.setCell ⟨vb, 0, none⟩ (.int .i64 ej.k)).setCell ⟨vb, 1, none⟩ (.int .i64 0)).setCell ⟨vb, 2, none⟩ (.string ⟨#[]⟩)).setCell ⟨vb, 3, none⟩ (.slice aM (j.names.length + 1) cM)).setCell ⟨vb, 4, none⟩ (.slice aF (j.elems.length + 1) cF)) := ⟨_, rfl⟩
          rw [← hwf] at hjv hbx hcv ⊢
          clear hwf hvb r0 r1 r2 r3 r4 rf rl
          have Hcf : Hid (Chg [] w wf) := Lib.hid ((Hc6.out.toP.comp HK6.out fun x hx => Or.inr (by have := HB.out; have := Hc6.out.size; omega)).comp hcv.toP fun x hx => Or.inr (by have := List.mem_singleton.1 hx; have := Hvb0.out; omega)).toL
          have He9 := Lib.hid ((hcv.block eb (lt_of_obj ((HK6.out.block eb (lt_of_obj He6.out) (by have := lt_of_obj He6.out; have := HB.out; omega)).trans He6.out)) (by have := Hlt.out; simp; omega)).trans ((HK6.out.block eb (lt_of_obj He6.out) (by have := lt_of_obj He6.out; have := HB.out; omega)).trans He6.out))
          have Hj9 := Lib.hid (((Hj6.out.kept HK6.out fun g hg => by have := hg.2; have := HB.out; omega).kept hcv.toP fun g hg hm => by have := List.mem_singleton.1 hm; have := Hlt.out; have := hg.1; omega).imp (q := fun g => g < wf.heap.size) fun g hg => by have := hg.2; have := HK6.out.size; have := hcv.size; omega)
          have Hjv := Lib.hid hjv
          have Hbx := Lib.hid hbx
          clear hjv hbx hcv HN HE HJ Hvl HBN HBE
          go_wp2_with fail
          refine (mexB_any wf (HT.out.new Hcf.out)).mono ?_
          rintro e1 w7 ⟨rfl, hc7⟩
          have HI := Lib.hid (Equal_any _ _ (f + 1) f3 w7 (withP j) E _ _ (Hjv.out.chg hc7) (Hj9.out.chg hc7) (fun g hg => Nat.lt_of_lt_of_le hg hc7.size) (fun g hg => Nat.lt_of_lt_of_le hg hc7.size) (HT.out.new (Hcf.out.trans hc7)).1)
          rw [Hlw.out.2.2.2] at HI
          unfold Ev.val at HI
          obtain ⟨b0, b1, b2, b3, b4⟩ := box_kept vb Hbx.out hc7
          obtain ⟨d0, d1, d2, d3, d4⟩ := box_kept eb He9.out hc7
          have Hc7 := Lib.hid (Hcf.out.trans hc7)
          clear hc7
          go_wp2_with fail
          refine HI.out.mono ?_
          rintro e1 w8 ⟨rfl, hc8⟩
          have Hc8 := Lib.hid (Hc7.out.trans hc8)
          clear hc8
          go_wp2_with fail
          go_ret
          exact ⟨rfl, Hc8.out⟩
      · skip
        go_simp
        obtain ⟨W1, hX⟩ : ∃ x, x = W0.alloc (.cells #[.int .i64 0, .int .i64 0, .string ⟨#[]⟩, .slice none 0 0, .slice none 0 0] 25) := ⟨_, rfl⟩
        obtain ⟨gv, hg⟩ : ∃ x, x = W0.heap.size := ⟨_, rfl⟩
        have hcx : Chg [] W0 W1 := by rw [hX]; exact (Chg.refl _ _).alloc _
        have hgv : W1.heap[gv]? = some (.cells #[.int .i64 0, .int .i64 0, .string ⟨#[]⟩, .slice none 0 0, .slice none 0 0] 25 (0, 0)) := by rw [hX, hg]; exact heap_at _ _ _ rfl
        rw [← hX, ← hg]
        clear hX hg
        have HK1 := Lib.hid (HK0.out.new hcx)
        have Hgv := Lib.hid hgv
        clear hgv
        have hS := HS.out W1 HK1.out
        refine hK _ _ (fun _ => hS) trivial ?_
        clear hK K hcx
        refine anyU_two (k := 4) (k' := 5) (by kernel_rfl) rfl rfl (fun K hK => ?_) (fun K hK => ?_) 
        · skip
          go_simp
          refine (rclone_any p W1 _ _ (HSl.out W1 HK1.out).1 HL.out.1).mono ?_
          rintro e1 W2 ⟨v1, rfl, hon, hcx⟩
          obtain ⟨aN, cN, rfl⟩ := ownsRow_shape hon.1
          have HK2 := Lib.hid (HK1.out.new hcx)
          have HBN : Hid (B ≤ W1.heap.size ∧ W1.heap.size ≤ W2.heap.size) := Lib.hid ⟨HB.out ▸ HK1.out.size, hcx.size⟩
          obtain ⟨BN, hBN⟩ : ∃ x, x = W1.heap.size := ⟨_, rfl⟩
          rw [← hBN] at hon HBN
          clear hBN
          have Hgv := Lib.hid ((hcx.block gv (lt_of_obj Hgv.out) (by simp)).trans Hgv.out)
          have HN := Lib.hid hon
          clear hon
          have hS := HS.out W2 HK2.out
          refine hK _ _ (fun _ => hS) trivial ?_
          clear hK K hcx
          refine anyU_one (k := 5) (by kernel_rfl) rfl (fun K hK => ?_)
          go_simp
          obtain ⟨W3, hX⟩ : ∃ x, x = W2.alloc (.cells #[.string ⟨#[112, 97, 114, 97, 109, 115]⟩] 9) := ⟨_, rfl⟩
          obtain ⟨gs, hg⟩ : ∃ x, x = W2.heap.size := ⟨_, rfl⟩
          have hcx : Chg [] W2 W3 := by rw [hX]; exact (Chg.refl _ _).alloc _
          have hgs : W3.heap[gs]? = some (.cells #[.string ⟨#[112, 97, 114, 97, 109, 115]⟩] 9 (0, 0)) := by rw [hX, hg]; exact heap_at _ _ _ rfl
          rw [← hX, ← hg]
          clear hX hg
          have HK3 := Lib.hid (HK2.out.new hcx)
          have HN := Lib.hid (HN.out.same hcx)
          have Hgv := Lib.hid ((hcx.block gv (lt_of_obj Hgv.out) (by simp)).trans Hgv.out)
          have Hgs := Lib.hid hgs
          clear hgs
          have HBN : Hid (B ≤ BN ∧ BN ≤ W3.heap.size) := Lib.hid ⟨HBN.out.1, Nat.le_trans HBN.out.2 hcx.size⟩
          have hS := HS.out W3 HK3.out
          refine hK _ _ (fun _ => hS) trivial ?_
          clear hK K hcx
          refine anyU_one (k := 6) (by kernel_rfl) rfl (fun K hK => ?_)
          have hbn : BN ≤ W3.heap.size := HBN.out.2
          obtain ⟨aM, cM, W4, hr, hon, hcx⟩ := pushN 22 HN.out rfl (by unfold maxLen; decide) Hgs.out HL.out.2.2.1 hbn
          refine step_app rfl _ _ _ rfl _ _ _ _ rfl rfl hr ?_
          have Hgv := Lib.hid ((hcx.block gv (lt_of_obj Hgv.out) (fun hm => own_ne HN.out.1 (by simpa using hm) Hgv.out)).trans Hgv.out)
          have HK4 := Lib.hid (HK3.out.comp hcx.toP fun g hg => Or.inl (Nat.le_trans HBN.out.1 (ownsRow_ge HN.out.1 (by simpa using hg)).1))
          have HN := Lib.hid hon
          clear hr hon hbn
          have HBN : Hid (B ≤ BN ∧ BN ≤ W4.heap.size) := Lib.hid ⟨HBN.out.1, Nat.le_trans HBN.out.2 hcx.size⟩
          have hS := HS.out W4 HK4.out
          refine hK _ _ (fun _ => hS) trivial ?_
          clear hK K hcx
          refine anyU_one (k := 9) (by kernel_rfl) rfl (fun K hK => ?_)
          go_simp
          refine (rcloneE_any p f W4 _ _ _ _ (HSl.out W4 HK4.out).2 HL.out.2.1).mono ?_
          rintro e1 W5 ⟨aE, cE, vs, rfl, hon, hvl, hvj, hcx⟩
          have HK5 := Lib.hid (HK4.out.new hcx)
          have HBE : Hid (B ≤ W4.heap.size ∧ W4.heap.size ≤ W5.heap.size) := Lib.hid ⟨HB.out ▸ HK4.out.size, hcx.size⟩
          obtain ⟨BE, hBE⟩ : ∃ x, x = W4.heap.size := ⟨_, rfl⟩
          rw [← hBE] at hon HBE
          clear hBE
          have HN := Lib.hid (HN.out.same hcx)
          have Hgv := Lib.hid ((hcx.block gv (lt_of_obj Hgv.out) (by simp)).trans Hgv.out)
          have HE := Lib.hid hon
          have Hvl := Lib.hid hvl
          have HJ := Lib.hid (fun i hi hv => (hvj i hi hv).chg hcx)
          clear hon hvl hvj
          have HBN : Hid (B ≤ BN ∧ BN ≤ W5.heap.size) := Lib.hid ⟨HBN.out.1, Nat.le_trans HBN.out.2 hcx.size⟩
          have hS := HS.out W5 HK5.out
          refine hK _ _ (fun _ => hS) trivial ?_
          clear hK K hcx
          refine anyU_one (k := 12) (by kernel_rfl) rfl (fun K hK => ?_)
          have hbe : BE ≤ W5.heap.size := HBE.out.2
          obtain ⟨aF, cF, W6, hr, hon, hcx⟩ := pushE (e := ev0) 23 HE.out Hvl.out.symm Hgv.out (by rw [Hvl.out]; exact HL.out.2.2.2) hbe
          refine step_app rfl _ _ _ rfl _ _ _ _ rfl rfl hr ?_
          have HN := Lib.hid (HN.out.kept hcx.toP fun g hg hm => apartNE2 HN.out HE.out hg (by simpa using hm))
          have HJ := Lib.hid (fun i hi hv => (HJ.out i hi hv).kept hcx.toP fun g hg hm => by have h1 := Hpb.out g hg; have h2 := (ownsRow_ge HE.out (by simpa using hm)).1; have h3 := HBE.out.1; omega)
          have HK6 := Lib.hid (HK5.out.comp hcx.toP fun g hg => Or.inl (Nat.le_trans HBE.out.1 (ownsRow_ge HE.out (by simpa using hg)).1))
          have HE := Lib.hid hon
          clear hr hon hbe
          have HBN : Hid (B ≤ BN ∧ BN ≤ W6.heap.size) := Lib.hid ⟨HBN.out.1, Nat.le_trans HBN.out.2 hcx.size⟩
          have HBE : Hid (B ≤ BE ∧ BE ≤ W6.heap.size) := Lib.hid ⟨HBE.out.1, Nat.le_trans HBE.out.2 hcx.size⟩
          have hS := HS.out W6 HK6.out
          refine hK _ _ (fun _ => hS) trivial ?_
          clear hK K hcx
          refine anyU_one (k := 13) (by kernel_rfl) rfl (fun K hK => ?_)
          go_simp
          refine hK _ _ (fun _ => hS) trivial ?_
          clear hK K
          have hvb := (HK6.out.block vb (lt_of_obj Hvb.out) (by have := HB.out; have := lt_of_obj Hvb.out; omega)).trans Hvb.out
          obtain ⟨r0, r1, r2, r3, r4⟩ := box_kept vb hvb (Chg.refl [] W6)
          have rf := fun i => frozen_of_heap (i := i) hvb
          have rl := lt_of_cell r0
          refine anyU_one (k := 14) (by kernel_rfl) rfl (fun K hK => ?_)
          go_simp
          refine hK _ _ (fun h => by simp at h) trivial ?_
          clear hK K hS
          refine anyU_done (by kernel_rfl) ?_
          obtain ⟨hjv, hbx, hcv⟩ := dee_end hvb (by have := lt_of_obj Hv6.out; rw [HB.out]; exact this) HBN.out HBE.out HN.out HE.out Hvl.out HJ.out Hpv.out Hlens.out.1
          obtain ⟨wf, hwf⟩ : ∃ x, x = (((((W6.setCell ⟨vb, 0, none⟩ (.int .i64 ej.k)).setCell ⟨vb, 1, none⟩ (.int .i64 0)).setCell ⟨vb, 2, none⟩ (.string ⟨#[]⟩)).setCell ⟨vb, 3, none⟩ (.slice aM (j.names.length + 1) cM)).setCell ⟨vb, 4, none⟩ (.slice aF (j.elems.length + 1) cF)) := ⟨_, rfl⟩
          rw [← hwf] at hjv hbx hcv ⊢
          clear hwf hvb r0 r1 r2 r3 r4 rf rl
          have Hcf : Hid (Chg [] w wf) := Lib.hid ((Hc6.out.toP.comp HK6.out fun x hx => Or.inr (by have := HB.out; have := Hc6.out.size; omega)).comp hcv.toP fun x hx => Or.inr (by have := List.mem_singleton.1 hx; have := Hvb0.out; omega)).toL
          have He9 := Lib.hid ((hcv.block eb (lt_of_obj ((HK6.out.block eb (lt_of_obj He6.out) (by have := lt_of_obj He6.out; have := HB.out; omega)).trans He6.out)) (by have := Hlt.out; simp; omega)).trans ((HK6.out.block eb (lt_of_obj He6.out) (by have := lt_of_obj He6.out; have := HB.out; omega)).trans He6.out))
          have Hj9 := Lib.hid (((Hj6.out.kept HK6.out fun g hg => by have := hg.2; have := HB.out; omega).kept hcv.toP fun g hg hm => by have := List.mem_singleton.1 hm; have := Hlt.out; have := hg.1; omega).imp (q := fun g => g < wf.heap.size) fun g hg => by have := hg.2; have := HK6.out.size; have := hcv.size; omega)
          have Hjv := Lib.hid hjv
          have Hbx := Lib.hid hbx
          clear hjv hbx hcv HN HE HJ Hvl HBN HBE
          go_wp2_with fail
          refine (mexB_any wf (HT.out.new Hcf.out)).mono ?_
          rintro e1 w7 ⟨rfl, hc7⟩
          have HI := Lib.hid (Equal_any _ _ (f + 1) f3 w7 (withP j) E _ _ (Hjv.out.chg hc7) (Hj9.out.chg hc7) (fun g hg => Nat.lt_of_lt_of_le hg hc7.size) (fun g hg => Nat.lt_of_lt_of_le hg hc7.size) (HT.out.new (Hcf.out.trans hc7)).1)
          rw [Hlw.out.2.2.2] at HI
          unfold Ev.val at HI
          obtain ⟨b0, b1, b2, b3, b4⟩ := box_kept vb Hbx.out hc7
          obtain ⟨d0, d1, d2, d3, d4⟩ := box_kept eb He9.out hc7
          have Hc7 := Lib.hid (Hcf.out.trans hc7)
          clear hc7
          go_wp2_with fail
          refine HI.out.mono ?_
          rintro e1 w8 ⟨rfl, hc8⟩
          have Hc8 := Lib.hid (Hc7.out.trans hc8)
          clear hc8
          go_wp2_with fail
          go_ret
          exact ⟨rfl, Hc8.out⟩
        · skip
          go_simp
          obtain ⟨W2, hX⟩ : ∃ x, x = W1.alloc (.cells #[.string ⟨#[112, 97, 114, 97, 109, 115]⟩] 9) := ⟨_, rfl⟩
          obtain ⟨gs, hg⟩ : ∃ x, x = W1.heap.size := ⟨_, rfl⟩
          have hcx : Chg [] W1 W2 := by rw [hX]; exact (Chg.refl _ _).alloc _
          have hgs : W2.heap[gs]? = some (.cells #[.string ⟨#[112, 97, 114, 97, 109, 115]⟩] 9 (0, 0)) := by rw [hX, hg]; exact heap_at _ _ _ rfl
          rw [← hX, ← hg]
          clear hX hg
          have HK2 := Lib.hid (HK1.out.new hcx)
          have Hgv := Lib.hid ((hcx.block gv (lt_of_obj Hgv.out) (by simp)).trans Hgv.out)
          have Hgs := Lib.hid hgs
          clear hgs
          have hS := HS.out W2 HK2.out
          refine hK _ _ (fun _ => hS) trivial ?_
          clear hK K hcx
          refine anyU_one (k := 4) (by kernel_rfl) rfl (fun K hK => ?_)
          go_simp
          refine (rclone_any p W2 _ _ (HSl.out W2 HK2.out).1 HL.out.1).mono ?_
          rintro e1 W3 ⟨v1, rfl, hon, hcx⟩
          obtain ⟨aN, cN, rfl⟩ := ownsRow_shape hon.1
          have HK3 := Lib.hid (HK2.out.new hcx)
          have HBN : Hid (B ≤ W2.heap.size ∧ W2.heap.size ≤ W3.heap.size) := Lib.hid ⟨HB.out ▸ HK2.out.size, hcx.size⟩
          obtain ⟨BN, hBN⟩ : ∃ x, x = W2.heap.size := ⟨_, rfl⟩
          rw [← hBN] at hon HBN
          clear hBN
          have Hgs := Lib.hid ((hcx.block gs (lt_of_obj Hgs.out) (by simp)).trans Hgs.out)
          have Hgv := Lib.hid ((hcx.block gv (lt_of_obj Hgv.out) (by simp)).trans Hgv.out)
          have HN := Lib.hid hon
          clear hon
          have hS := HS.out W3 HK3.out
          refine hK _ _ (fun _ => hS) trivial ?_
          clear hK K hcx
          refine anyU_one (k := 6) (by kernel_rfl) rfl (fun K hK => ?_)
          have hbn : BN ≤ W3.heap.size := HBN.out.2
          obtain ⟨aM, cM, W4, hr, hon, hcx⟩ := pushN 22 HN.out rfl (by unfold maxLen; decide) Hgs.out HL.out.2.2.1 hbn
          refine step_app rfl _ _ _ rfl _ _ _ _ rfl rfl hr ?_
          have Hgv := Lib.hid ((hcx.block gv (lt_of_obj Hgv.out) (fun hm => own_ne HN.out.1 (by simpa using hm) Hgv.out)).trans Hgv.out)
          have HK4 := Lib.hid (HK3.out.comp hcx.toP fun g hg => Or.inl (Nat.le_trans HBN.out.1 (ownsRow_ge HN.out.1 (by simpa using hg)).1))
          have HN := Lib.hid hon
          clear hr hon hbn
          have HBN : Hid (B ≤ BN ∧ BN ≤ W4.heap.size) := Lib.hid ⟨HBN.out.1, Nat.le_trans HBN.out.2 hcx.size⟩
          have hS := HS.out W4 HK4.out
          refine hK _ _ (fun _ => hS) trivial ?_
          clear hK K hcx
          refine anyU_one (k := 9) (by kernel_rfl) rfl (fun K hK => ?_)
          go_simp
          refine (rcloneE_any p f W4 _ _ _ _ (HSl.out W4 HK4.out).2 HL.out.2.1).mono ?_
          rintro e1 W5 ⟨aE, cE, vs, rfl, hon, hvl, hvj, hcx⟩
          have HK5 := Lib.hid (HK4.out.new hcx)
          have HBE : Hid (B ≤ W4.heap.size ∧ W4.heap.size ≤ W5.heap.size) := Lib.hid ⟨HB.out ▸ HK4.out.size, hcx.size⟩
          obtain ⟨BE, hBE⟩ : ∃ x, x = W4.heap.size := ⟨_, rfl⟩
          rw [← hBE] at hon HBE
          clear hBE
          have HN := Lib.hid (HN.out.same hcx)
          have Hgv := Lib.hid ((hcx.block gv (lt_of_obj Hgv.out) (by simp)).trans Hgv.out)
          have HE := Lib.hid hon
          have Hvl := Lib.hid hvl
          have HJ := Lib.hid (fun i hi hv => (hvj i hi hv).chg hcx)
          clear hon hvl hvj
          have HBN : Hid (B ≤ BN ∧ BN ≤ W5.heap.size) := Lib.hid ⟨HBN.out.1, Nat.le_trans HBN.out.2 hcx.size⟩
          have hS := HS.out W5 HK5.out
          refine hK _ _ (fun _ => hS) trivial ?_
          clear hK K hcx
          refine anyU_one (k := 12) (by kernel_rfl) rfl (fun K hK => ?_)
          have hbe : BE ≤ W5.heap.size := HBE.out.2
          obtain ⟨aF, cF, W6, hr, hon, hcx⟩ := pushE (e := ev0) 23 HE.out Hvl.out.symm Hgv.out (by rw [Hvl.out]; exact HL.out.2.2.2) hbe
          refine step_app rfl _ _ _ rfl _ _ _ _ rfl rfl hr ?_
          have HN := Lib.hid (HN.out.kept hcx.toP fun g hg hm => apartNE2 HN.out HE.out hg (by simpa using hm))
          have HJ := Lib.hid (fun i hi hv => (HJ.out i hi hv).kept hcx.toP fun g hg hm => by have h1 := Hpb.out g hg; have h2 := (ownsRow_ge HE.out (by simpa using hm)).1; have h3 := HBE.out.1; omega)
          have HK6 := Lib.hid (HK5.out.comp hcx.toP fun g hg => Or.inl (Nat.le_trans HBE.out.1 (ownsRow_ge HE.out (by simpa using hg)).1))
          have HE := Lib.hid hon
          clear hr hon hbe
          have HBN : Hid (B ≤ BN ∧ BN ≤ W6.heap.size) := Lib.hid ⟨HBN.out.1, Nat.le_trans HBN.out.2 hcx.size⟩
          have HBE : Hid (B ≤ BE ∧ BE ≤ W6.heap.size) := Lib.hid ⟨HBE.out.1, Nat.le_trans HBE.out.2 hcx.size⟩
          have hS := HS.out W6 HK6.out
          refine hK _ _ (fun _ => hS) trivial ?_
          clear hK K hcx
          refine anyU_one (k := 13) (by kernel_rfl) rfl (fun K hK => ?_)
          go_simp
          refine hK _ _ (fun _ => hS) trivial ?_
          clear hK K
          have hvb := (HK6.out.block vb (lt_of_obj Hvb.out) (by have := HB.out; have := lt_of_obj Hvb.out; omega)).trans Hvb.out
          obtain ⟨r0, r1, r2, r3, r4⟩ := box_kept vb hvb (Chg.refl [] W6)
          have rf := fun i => frozen_of_heap (i := i) hvb
          have rl := lt_of_cell r0
          refine anyU_one (k := 14) (by kernel_rfl) rfl (fun K hK => ?_)
          go_simp
          refine hK _ _ (fun h => by simp at h) trivial ?_
          clear hK K hS
          refine anyU_done (by kernel_rfl) ?_
          obtain ⟨hjv, hbx, hcv⟩ := dee_end hvb (by have := lt_of_obj Hv6.out; rw [HB.out]; exact this) HBN.out HBE.out HN.out HE.out Hvl.out HJ.out Hpv.out Hlens.out.1
          obtain ⟨wf, hwf⟩ : ∃ x, x = (((((W6.setCell ⟨vb, 0, none⟩ (.int .i64 ej.k)).setCell ⟨vb, 1, none⟩ (.int .i64 0)).setCell ⟨vb, 2, none⟩ (.string ⟨#[]⟩)).setCell ⟨vb, 3, none⟩ (.slice aM (j.names.length + 1) cM)).setCell ⟨vb, 4, none⟩ (.slice aF (j.elems.length + 1) cF)) := ⟨_, rfl⟩
          rw [← hwf] at hjv hbx hcv ⊢
          clear hwf hvb r0 r1 r2 r3 r4 rf rl
          have Hcf : Hid (Chg [] w wf) := Lib.hid ((Hc6.out.toP.comp HK6.out fun x hx => Or.inr (by have := HB.out; have := Hc6.out.size; omega)).comp hcv.toP fun x hx => Or.inr (by have := List.mem_singleton.1 hx; have := Hvb0.out; omega)).toL
          have He9 := Lib.hid ((hcv.block eb (lt_of_obj ((HK6.out.block eb (lt_of_obj He6.out) (by have := lt_of_obj He6.out; have := HB.out; omega)).trans He6.out)) (by have := Hlt.out; simp; omega)).trans ((HK6.out.block eb (lt_of_obj He6.out) (by have := lt_of_obj He6.out; have := HB.out; omega)).trans He6.out))
          have Hj9 := Lib.hid (((Hj6.out.kept HK6.out fun g hg => by have := hg.2; have := HB.out; omega).kept hcv.toP fun g hg hm => by have := List.mem_singleton.1 hm; have := Hlt.out; have := hg.1; omega).imp (q := fun g => g < wf.heap.size) fun g hg => by have := hg.2; have := HK6.out.size; have := hcv.size; omega)
          have Hjv := Lib.hid hjv
          have Hbx := Lib.hid hbx
          clear hjv hbx hcv HN HE HJ Hvl HBN HBE
          go_wp2_with fail
          refine (mexB_any wf (HT.out.new Hcf.out)).mono ?_
          rintro e1 w7 ⟨rfl, hc7⟩
          have HI := Lib.hid (Equal_any _ _ (f + 1) f3 w7 (withP j) E _ _ (Hjv.out.chg hc7) (Hj9.out.chg hc7) (fun g hg => Nat.lt_of_lt_of_le hg hc7.size) (fun g hg => Nat.lt_of_lt_of_le hg hc7.size) (HT.out.new (Hcf.out.trans hc7)).1)
          rw [Hlw.out.2.2.2] at HI
          unfold Ev.val at HI
          obtain ⟨b0, b1, b2, b3, b4⟩ := box_kept vb Hbx.out hc7
          obtain ⟨d0, d1, d2, d3, d4⟩ := box_kept eb He9.out hc7
          have Hc7 := Lib.hid (Hcf.out.trans hc7)
          clear hc7
          go_wp2_with fail
          refine HI.out.mono ?_
          rintro e1 w8 ⟨rfl, hc8⟩
          have Hc8 := Lib.hid (Hc7.out.trans hc8)
          clear hc8
          go_wp2_with fail
          go_ret
          exact ⟨rfl, Hc8.out⟩
end Go.Proofs.YtiklgipcgdgkoaaDoor.Jv
