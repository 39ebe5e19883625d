/- JsonrpcRoundTrip: the walk (printed by wip/gen_jrs.py). -/
import Derived.Test.YtiklgipcgdgkoaaDoorJrS
namespace Go.Proofs.YtiklgipcgdgkoaaDoor.Jv
open Go.RowKit Go.ChangeMaps Go.MapKept
set_option linter.unusedVariables false
set_option linter.unusedSimpArgs false
theorem step_app {P : Program} {ops : Array Oper} {o : Oper} {a : Act} {w : World} {K : Act → World → Prop} {Q : Exit → Act → World → Prop} {E : Prop} (hgd : o.guard = none) (s x : Operand) (t : TypeId)
    (ho : o.op = .call { callee := .builtin .append, args := #[s, x], argTypes := #[t, t] }) (v vx v' : Value) (w' : World) (hs : a.eval s = v) (hx : a.eval x = vx)
    (hr : (Builtin.append_ #[t, t] o.type #[v, vx]).run P w = .ok v' w') (h : K (a.put o.dst v') w') : if Region.wanted o (yielded ops a.tmps) = true then Oper.wp P o a w K Q else E := by
  have hw : Region.wanted o (yielded ops a.tmps) = true := by simp [Region.wanted, hgd]
  rw [if_pos hw]
  unfold Oper.wp execOp
  simp only [ho, resolve, invoke, builtin, Sem.run_bind, Sem.run_pure, Result.andThen_ok, List.map_toArray, List.map_cons, List.map_nil, hs, hx, hr]
  exact h
theorem enc_err {k i c : Int} {t : ByteArray} {b : J} (h : (encM k i c t b).1 ≠ 0) : (encM k i c t b).2 = J.zero := by
  unfold encM at h ⊢
  split
  · rfl
  split
  · rfl
  split
  · rfl
  split
  · rfl
  · rename_i h1 h2 h3 h4
    rw [if_neg h1, if_neg h2, if_neg h3, if_neg h4] at h
    exact absurd rfl h
/-- what Decode gives where the message is found -/
theorem de_found {f : Nat} {X : J} {w w' : World} {e : Ending} (h : DePost f X w e w') {k i c : Int} {t : ByteArray} {b : J} (hf : Found X k i c t b) : ∃ ev : Ev, e = .returned (.tuple #[mB k i c t ev, .int .i64 0]) ∧ JN w.heap.size f w' ev.val b ∧ Chg [] w w' := by
  obtain ⟨n, hn, hk, hh, hm, h1, h2, h3, h4⟩ := hf
  obtain ⟨h, hc⟩ := h
  rcases h with ⟨n', hn', hh', hm', ev, he, hj⟩ | ⟨hno, _⟩
  · have : n' = n := by
      rcases Nat.lt_trichotomy n' n with hl | e | hl
      · rw [hm n' hl] at hh'; cases hh'
      · exact e
      · rw [hm' n hl] at hh; cases hh
    subst this
    refine ⟨ev, ?_, ?_, hc⟩
    · rw [he, hk, h1, h2, h3]
    · rw [← h4]; exact hj
  · rw [hno n hn] at hh; cases hh
set_option maxRecDepth 100000 in
set_option maxHeartbeats 8000000 in
theorem rt_any (p : Nat → Prop) (f : Nat) (w : World) (k i c : Int) (t : ByteArray) (e : Ev) (b : J) (hb : JV p f w e.val b) (hp : ∀ g, p g → g < w.heap.size) (ht : t.size ≤ maxLen) (hT : TP2 w) : Calls Tryd.prog 3 #[mB k i c t e] w fun e w' => e = .returned (.bool true) ∧ Chg [] w w' := by
  obtain ⟨w1, hw1⟩ : ∃ x, x = w.alloc (.cells #[.int .i64 k, .int .i64 i, .int .i64 c, .string t, .int .i64 e.k, .int .i64 e.n, .string e.t, .slice e.na e.nl e.nc, .slice e.ia e.il e.ic] 27) := ⟨_, rfl⟩
  obtain ⟨mb, hmb⟩ : ∃ x, x = w.heap.size := ⟨_, rfl⟩
  have hc1 : Chg [] w w1 := by rw [hw1]; exact (Chg.refl _ _).alloc _
  have hm1 : w1.heap[mb]? = some (.cells #[.int .i64 k, .int .i64 i, .int .i64 c, .string t, .int .i64 e.k, .int .i64 e.n, .string e.t, .slice e.na e.nl e.nc, .slice e.ia e.il e.ic] 27 (0, 0)) := by rw [hw1, hmb]; exact heap_at _ _ _ rfl
  have Hc1 := Lib.hid hc1
  have Hm1 := Lib.hid hm1
  have HT := Lib.hid hT
  have Hb := Lib.hid (fun W (hc : Chg [] w W) => hb.chg hc)
  have HE := Lib.hid (fun W (hc : Chg [] w W) => encode_b p f k i c t e b W ht (hb.chg hc) (fun g hg => Nat.lt_of_lt_of_le (hp g hg) hc.size) (hT.new hc).1)
  unfold mB at HE ⊢
  clear hb hp ht hT hc1 hm1
  go_enter Tryd.func3, Tryd.ntmps3
  go_upto_region 1 with fail
  rw [← hw1, ← hmb]
  clear hw1 hmb
  go_wp2_with fail
  refine (mexB_any w1 (HT.out.new Hc1.out)).mono ?_
  rintro e1 w2 ⟨rfl, hc2⟩
  have Hc2 := Lib.hid (Hc1.out.trans hc2)
  have Hm2 := Lib.hid ((hc2.block mb (lt_of_obj Hm1.out) (by simp)).trans Hm1.out)
  obtain ⟨⟨x0, x1, x2, x3, x4, x5, x6, x7, x8⟩, xf, xl⟩ := nineM Hm2.out
  clear hc2
  go_wp2_with fail
  refine (HE.out w2 Hc2.out).mono ?_
  rintro e1 w3 ⟨f3, ee, rfl, hee, hc3⟩
  obtain ⟨z, hz⟩ : ∃ z, z = (encM k i c t b).1 := ⟨_, rfl⟩
  rw [← hz]
  have Hz := Lib.hid hz
  unfold Ev.val
  obtain ⟨w4, hw4⟩ : ∃ x, x = w3.alloc (.cells #[.int .i64 ee.k, .int .i64 ee.n, .string ee.t, .slice ee.na ee.nl ee.nc, .slice ee.ia ee.il ee.ic] 25) := ⟨_, rfl⟩
  obtain ⟨vb, hvb⟩ : ∃ x, x = w3.heap.size := ⟨_, rfl⟩
  have hc4 : Chg [] w3 w4 := by rw [hw4]; exact (Chg.refl _ _).alloc _
  have hb4 : w4.heap[vb]? = some (.cells #[.int .i64 ee.k, .int .i64 ee.n, .string ee.t, .slice ee.na ee.nl ee.nc, .slice ee.ia ee.il ee.ic] 25 (0, 0)) := by rw [hw4, hvb]; exact heap_at _ _ _ rfl
  have Hc4 := Lib.hid (Hc2.out.trans (hc3.trans hc4))
  have Hm4 := Lib.hid (((hc3.trans hc4).block mb (lt_of_obj Hm2.out) (by simp)).trans Hm2.out)
  have Hb4 := Lib.hid hb4
  have He4 := Lib.hid (JN.same hee hc4)
  clear hz hee hc3 hc4 hb4 x0 x1 x2 x3 x4 x5 x6 x7 x8 xf xl
  go_upto_region 4 with fail
  rw [← hw4, ← hvb]
  clear hw4 hvb
  by_cases hz0 : z = 0
  case neg =>
    have hz2 : (z != 0) = true := by simpa using hz0
    have he0 : (encM k i c t b).2 = J.zero := enc_err (by rw [← Hz.out]; exact hz0)
    rw [he0] at He4
    clear hz0 he0
    go_wp2_with fail
    refine (mexB_any w4 (HT.out.new Hc4.out)).mono ?_
    rintro e1 w5 ⟨rfl, hc5⟩
    have hb5 := (hc5.block vb (lt_of_obj Hb4.out) (by simp)).trans Hb4.out
    obtain ⟨b0, b1, b2, b3, b4⟩ := box_kept vb hb5 (Chg.refl [] w5)
    have HI := Lib.hid (ident_any _ _ J.zero f3 0 w5 _ _ (JN.same He4.out hc5) (zeroN 0 0 w5))
    have Hc5 := Lib.hid (Hc4.out.trans hc5)
    unfold Ev.val at HI
    clear hc5 hb5
    go_wp2_with fail
    refine HI.out.mono ?_
    rintro e1 w6 ⟨rfl, hc6⟩
    have Hc6 := Lib.hid (Hc5.out.trans hc6)
    clear hc6
    go_wp2_with fail
    go_ret
    exact ⟨rfl, Hc6.out⟩
  case pos =>
    subst hz0
    have hok := enc_eq Hz.out.symm
    obtain ⟨E, hE⟩ : ∃ E, E = toM k i c t b := ⟨_, rfl⟩
    have hEv : E.valid u8 = 0 := by rw [hE]; exact (encM_ok Hz.out.symm).2.2.2.1
    rw [hok] at He4
    rw [show ((0, toM k i c t b) : Int × J).2 = E from hE.symm] at He4
    have Hf1 := Lib.hid (found_any Hz.out.symm (X := E) (Or.inl hE)).2
    have Hf2 := Lib.hid (found_any Hz.out.symm (X := topRev E) (Or.inr (by rw [hE])))
    obtain ⟨nsE, esE, hEo⟩ := toM_obj k i c t b
    rw [← hE] at hEo
    have hvd := (valid_parts hEv).2.2
    have hsm : Sm E := Sm.of hEv
    rw [hEo] at hvd hsm
    have hlen := (wf_obj (vd_zero.1 hvd).2.1).1
    have Hlen := Lib.hid (And.intro hlen hsm.len)
    have Hsm := Lib.hid (Sm.bd E (Sm.of hEv))
    have HEo := Lib.hid hEo
    have HEv := Lib.hid hEv
    have hls := He4.out.lens
    have Hnl : Hid (ee.nl = nsE.length) := Lib.hid <| by rw [hls.2.2.2.1, hEo]; rfl
    have Hil : Hid (ee.il = nsE.length) := Lib.hid <| by rw [hls.2.2.2.2.1, hEo, hlen]; rfl
    clear hE hEv hok hvd hsm hls hEo hlen
    obtain ⟨b0, b1, b2, b3, b4⟩ := box_kept vb Hb4.out (Chg.refl [] w4)
    have Hde := Lib.hid (decode_any _ f3 w4 E _ He4.out (fun g hg => hg.2) Hsm.out (HT.out.new Hc4.out).1)
    unfold Ev.val at Hde
    go_wp2_with fail
    refine Hde.out.mono ?_
    rintro e1 w5 hP
    obtain ⟨ea1, rfl, hj5, hc5⟩ := de_found hP Hf1.out
    clear hP b0 b1 b2 b3 b4 Hde
    unfold mB
    obtain ⟨w6, hw6⟩ : ∃ x, x = w5.alloc (.cells #[.int .i64 k, .int .i64 i, .int .i64 c, .string t, .int .i64 ea1.k, .int .i64 ea1.n, .string ea1.t, .slice ea1.na ea1.nl ea1.nc, .slice ea1.ia ea1.il ea1.ic] 27) := ⟨_, rfl⟩
    obtain ⟨ab, hab⟩ : ∃ x, x = w5.heap.size := ⟨_, rfl⟩
    have hc6 : Chg [] w5 w6 := by rw [hw6]; exact (Chg.refl _ _).alloc _
    have ha6 : w6.heap[ab]? = some (.cells #[.int .i64 k, .int .i64 i, .int .i64 c, .string t, .int .i64 ea1.k, .int .i64 ea1.n, .string ea1.t, .slice ea1.na ea1.nl ea1.nc, .slice ea1.ia ea1.il ea1.ic] 27 (0, 0)) := by rw [hw6, hab]; exact heap_at _ _ _ rfl
    obtain ⟨w7, hw7⟩ : ∃ x, x = w6.alloc (.cells #[.int .i64 5, .int .i64 0, .string ⟨#[]⟩, .slice none 0 0, .slice none 0 0] 25) := ⟨_, rfl⟩
    obtain ⟨rb, hrb5⟩ : ∃ x, x = w5.heap.size + 1 := ⟨_, rfl⟩
    have hrb : rb = w6.heap.size := by rw [hrb5, hw6]; simp
    have hc7 : Chg [] w6 w7 := by rw [hw7]; exact (Chg.refl _ _).alloc _
    have hr7 : w7.heap[rb]? = some (.cells #[.int .i64 5, .int .i64 0, .string ⟨#[]⟩, .slice none 0 0, .slice none 0 0] 25 (0, 0)) := by rw [hw7, hrb]; exact heap_at _ _ _ rfl
    have Hw7 : Hid (w7.heap.size = rb + 1) := Lib.hid (by rw [hw7, hrb]; simp)
    have hc47 := (hc5.trans hc6).trans hc7
    have Hc7 := Lib.hid (Hc4.out.trans hc47)
    have Hm7 := Lib.hid ((hc47.block mb (lt_of_obj Hm4.out) (by simp)).trans Hm4.out)
    have Hb7 := Lib.hid ((hc47.block vb (lt_of_obj Hb4.out) (by simp)).trans Hb4.out)
    have Ha7 := Lib.hid ((hc7.block ab (lt_of_obj ha6) (by simp)).trans ha6)
    have He7 := Lib.hid (JN.same He4.out hc47)
    have Hlt : Hid (w4.heap.size ≤ rb ∧ w.heap.size ≤ rb ∧ ab < rb ∧ mb < rb ∧ vb < rb ∧ w5.heap.size ≤ rb) := Lib.hid ⟨by rw [hrb]; exact (hc5.trans hc6).size, by rw [hrb]; exact (Hc4.out.trans (hc5.trans hc6)).size, by rw [hrb]; exact lt_of_obj ha6, by rw [hrb]; exact Nat.lt_of_lt_of_le (lt_of_obj Hm4.out) (hc5.trans hc6).size, by rw [hrb]; exact Nat.lt_of_lt_of_le (lt_of_obj Hb4.out) (hc5.trans hc6).size, by rw [hrb]; exact hc6.size⟩
    have Hj7 : Hid (JV (fun g => g < rb) f3 w7 ea1.val b) := Lib.hid ((hj5.kept (S := fun _ => False) (hc6.trans hc7).p (fun _ _ h => h)).imp fun g hg => Nat.lt_of_lt_of_le hg.2 Hlt.out.2.2.2.2.2)
    have HR7 : Hid (RR w7 w7 rb none 0 0 none 0 0 [] []) := Lib.hid ⟨hr7, OwnN.nil _ _, OwnE.nil _ _, rfl, rfl, Chg.refl _ _, by rw [Hw7.out]; exact Nat.le_refl _⟩
    clear hj5 hc5 hc6 ha6 hc7 hr7
    obtain ⟨ek, en, et, ena, enl, enc, eia, eil, eic⟩ := ee
    have hnl := Hnl.out
    have hil := Hil.out
    simp only at hnl hil
    clear Hnl Hil
    obtain ⟨L, hL⟩ : ∃ L, L = nsE.length := ⟨_, rfl⟩
    obtain ⟨hlen, hlen4⟩ := Hlen.out
    rw [← hL] at hnl hil hlen hlen4
    subst hnl
    subst hil
    have hL4 := hlen4.1
    have HL0 := Lib.hid (And.intro hL hlen)
    have hNE : SlR (fun g => w2.heap.size ≤ g ∧ g < w4.heap.size) 1 rdS w4 (.slice ena eil enc) nsE ∧ SlR (fun g => w2.heap.size ≤ g ∧ g < w4.heap.size) 5 (rdJ (fun g => w2.heap.size ≤ g ∧ g < w4.heap.size) f3) w4 (.slice eia eil eic) esE := by
      have h := He4.out
      rw [HEo.out] at h
      obtain ⟨nv, iv, hv, h1, h2, _⟩ := h
      unfold Ev.val at hv
      simp only [Value.agg.injEq, Array.mk.injEq, List.cons.injEq, and_true] at hv
      obtain ⟨_, _, _, rfl, rfl⟩ := hv
      exact ⟨h1, h2⟩
    have Hnm := Lib.hid (strs_kept hNE.1 (S := fun _ => False) hc47.p (fun _ _ h => h))
    obtain ⟨VE, hvl, hve⟩ := elems_ev (SlR.imp hNE.2 (fun _ h => h) fun ad x hp hx => rdJ.kept (S := fun _ => False) hc47.p (fun _ _ h => h) hp hx)
    have Hvl : Hid (VE.length = esE.length) := Lib.hid hvl
    have Hve := Lib.hid hve
    have Hlow : Hid (∀ g, (w2.heap.size ≤ g ∧ g < w4.heap.size) → g < rb) := Lib.hid fun g hg => Nat.lt_of_lt_of_le hg.2 Hlt.out.1
    obtain ⟨b0, b1, b2, b3, b4⟩ := box_kept vb Hb7.out (Chg.refl [] w7)
    clear hlen4 hL hlen hNE hvl hve hc47
    go_upto_region 8 with fail
    rw [← hw6, ← hw7, ← hrb5, ← hab]
    clear hw6 hab hw7 hrb hrb5
    have hwr : IntKind.i64.wrap ((eil : Int) - 1) = (eil : Int) - 1 := IntWalk.i64_in _ (by omega)
    go_wp2_with fail
    go_loopw [8] (fun iv wr => ∃ q : Nat, q ≤ eil ∧ ∃ z : Int, iv = .int .i64 z ∧ Hid (z = (eil : Int) - 1 - q) ∧ ∃ na nl nc ea el ec, Hid (RR w7 wr rb na nl nc ea el ec (nsE.reverse.take q) (VE.reverse.take q))) (fun iv _ => (intOf iv + 1).toNat)
    case atStart => exact ⟨0, by omega, _, rfl, Lib.hid (by omega), none, 0, 0, none, 0, 0, Lib.hid (by simpa using HR7.out)⟩
    case round =>
      clear HR7 b0 b1 b2 b3 b4 hwr
      obtain ⟨q, hq, z, rfl, Hz, na, nl, nc, ea, el, ec, HR⟩ := hrel
      by_cases hlt : q < eil
      · obtain ⟨i, hi⟩ : ∃ i : Nat, z = i := ⟨z.toNat, by have := Hz.out; omega⟩
        subst hi
        have hiq : i = eil - 1 - q := by have := Hz.out; omega
        obtain ⟨gn, on, hga, hgn, hs⟩ : ∃ gn on, ena = some ⟨gn, on, none⟩ ∧ (w2.heap.size ≤ gn ∧ gn < w4.heap.size) ∧ rdS w7 ⟨gn, on + i, none⟩ (nsE.getD i ⟨#[]⟩) := by
          obtain ⟨g, o, h1, h2, h3⟩ := SlR.at Hnm.out i (by have := HL0.out; omega) ⟨#[]⟩
          rw [Nat.mul_one] at h3
          exact ⟨g, o, h1, h2, h3⟩
        obtain ⟨ge, oe, hgb, hge, ⟨e0, e1, e2, e3, e4⟩, hjv⟩ := Hve.out i (by have := HL0.out; omega) (by have := HL0.out; have := Hvl.out; omega)
        subst hga
        subst hgb
        obtain ⟨s, hsd⟩ : ∃ s, s = nsE.getD i ⟨#[]⟩ := ⟨_, rfl⟩
        rw [← hsd] at hs
        obtain ⟨ve, hved⟩ : ∃ ve, ve = VE[i]'(by have := HL0.out; have := Hvl.out; omega) := ⟨_, rfl⟩
        rw [← hved] at e0 e1 e2 e3 e4 hjv
        have hlim : gn < rb ∧ ge < rb := ⟨by have := Hlow.out gn hgn; omega, by have := Hlow.out ge hge; omega⟩
        obtain ⟨ns, hns⟩ : ∃ x, x = nsE.reverse.take q := ⟨_, rfl⟩
        obtain ⟨vs, hvs⟩ : ∃ x, x = VE.reverse.take q := ⟨_, rfl⟩
        rw [← hns, ← hvs] at HR
        have Htk : Hid (nsE.reverse.take (q + 1) = ns ++ [s] ∧ VE.reverse.take (q + 1) = vs ++ [ve]) := Lib.hid (by
          have h1 := HL0.out.1
          have h2 := HL0.out.2
          have h3 := Hvl.out
          refine ⟨?_, ?_⟩
          · rw [hns, List.take_succ_eq_append_getElem (by rw [List.length_reverse]; omega), List.getElem_reverse, hsd, List.getD_eq_getElem?_getD, List.getElem?_eq_getElem (by omega), Option.getD_some]
            congr 3
            omega
          · rw [hvs, List.take_succ_eq_append_getElem (by rw [List.length_reverse]; omega), List.getElem_reverse, hved]
            congr 3
            omega)
        have HL : Hid (nl = ns.length ∧ el = vs.length ∧ s.size ≤ maxLen ∧ ns.length ≤ 1000 ∧ vs.length ≤ 1000) := Lib.hid (by
          have h1 := HL0.out.1
          refine ⟨HR.out.ln, HR.out.le, hs.2, ?_, ?_⟩
          · rw [hns, List.length_take]; omega
          · rw [hvs, List.length_take]; omega)
        have HS0 : Hid (∀ W, ChgP (fun g => rb ≤ g) wr W → W.cell? ⟨vb, 3, none⟩ = some (.slice (some ⟨gn, on, none⟩) eil enc) ∧ W.cell? ⟨vb, 4, none⟩ = some (.slice (some ⟨ge, oe, none⟩) eil eic) ∧ W.cell? ⟨gn, on + i, none⟩ = some (.string s) ∧ W.cell? ⟨ge, oe + i * 5, none⟩ = some (.int .i64 ve.k) ∧ W.cell? ⟨ge, oe + i * 5 + 1, none⟩ = some (.int .i64 ve.n) ∧ W.cell? ⟨ge, oe + i * 5 + 2, none⟩ = some (.string ve.t) ∧ W.cell? ⟨ge, oe + i * 5 + 3, none⟩ = some (.slice ve.na ve.nl ve.nc) ∧ W.cell? ⟨ge, oe + i * 5 + 4, none⟩ = some (.slice ve.ia ve.il ve.ic)) := Lib.hid (fun W hW => by
          have hk : ∀ (g o : Nat) (v : Value), g < rb → w7.cell? ⟨g, o, none⟩ = some v → W.cell? ⟨g, o, none⟩ = some v := fun g o v hg hv => by
            have h1 := (HR.out.ch.cell (p := ⟨g, o, none⟩) (lt_of_cell hv) (by simp; omega)).trans hv
            exact (hW.cell (lt_of_cell h1) (show ¬ rb ≤ g by omega)).trans h1
          have hv3 : w7.cell? ⟨vb, 3, none⟩ = some (.slice (some ⟨gn, on, none⟩) eil enc) := cell_of_heap Hb7.out rfl
          have hv4 : w7.cell? ⟨vb, 4, none⟩ = some (.slice (some ⟨ge, oe, none⟩) eil eic) := cell_of_heap Hb7.out rfl
          exact ⟨hk _ _ _ (by have := Hlt.out; omega) hv3, hk _ _ _ (by have := Hlt.out; omega) hv4, hk _ _ _ hlim.1 hs.1, hk _ _ _ hlim.2 e0, hk _ _ _ hlim.2 e1, hk _ _ _ hlim.2 e2, hk _ _ _ hlim.2 e3, hk _ _ _ hlim.2 e4⟩)
        have HS : Hid (∀ W, ChgP (fun g => rb + 1 ≤ g) wr W → (W.cell? ⟨rb, 3, none⟩ = some (.slice na nl nc) ∧ W.cell? ⟨rb, 4, none⟩ = some (.slice ea el ec)) ∧ W.cell? ⟨vb, 3, none⟩ = some (.slice (some ⟨gn, on, none⟩) eil enc) ∧ W.cell? ⟨vb, 4, none⟩ = some (.slice (some ⟨ge, oe, none⟩) eil eic) ∧ W.cell? ⟨gn, on + i, none⟩ = some (.string s) ∧ W.cell? ⟨ge, oe + i * 5, none⟩ = some (.int .i64 ve.k) ∧ W.cell? ⟨ge, oe + i * 5 + 1, none⟩ = some (.int .i64 ve.n) ∧ W.cell? ⟨ge, oe + i * 5 + 2, none⟩ = some (.string ve.t) ∧ W.cell? ⟨ge, oe + i * 5 + 3, none⟩ = some (.slice ve.na ve.nl ve.nc) ∧ W.cell? ⟨ge, oe + i * 5 + 4, none⟩ = some (.slice ve.ia ve.il ve.ic)) := Lib.hid (fun W hW => by
          have hbx := (hW.block rb (lt_of_obj HR.out.box) (by omega)).trans HR.out.box
          exact ⟨⟨cell_of_heap hbx rfl, cell_of_heap hbx rfl⟩, HS0.out W (hW.mono fun g hg => Nat.le_of_succ_le hg)⟩)
        have hz0 : (0 : Int) ≤ (i : Int) := by omega
        have hz1 : (i : Int) < eil := by omega
        have hwi : IntKind.i64.wrap ((i : Int) - 1) = (i : Int) - 1 := IntWalk.i64_in _ (by omega)
        clear hs e0 e1 e2 e3 e4 hjv hsd hved hns hvs hgn hge hlim hiq
        go_upto_region 11 with fail
        refine wp_region_U (fun W => (W.cell? ⟨rb, 3, none⟩ = some (.slice na nl nc) ∧ W.cell? ⟨rb, 4, none⟩ = some (.slice ea el ec)) ∧ W.cell? ⟨vb, 3, none⟩ = some (.slice (some ⟨gn, on, none⟩) eil enc) ∧ W.cell? ⟨vb, 4, none⟩ = some (.slice (some ⟨ge, oe, none⟩) eil eic) ∧ W.cell? ⟨gn, on + i, none⟩ = some (.string s) ∧ W.cell? ⟨ge, oe + i * 5, none⟩ = some (.int .i64 ve.k) ∧ W.cell? ⟨ge, oe + i * 5 + 1, none⟩ = some (.int .i64 ve.n) ∧ W.cell? ⟨ge, oe + i * 5 + 2, none⟩ = some (.string ve.t) ∧ W.cell? ⟨ge, oe + i * 5 + 3, none⟩ = some (.slice ve.na ve.nl ve.nc) ∧ W.cell? ⟨ge, oe + i * 5 + 4, none⟩ = some (.slice ve.ia ve.il ve.ic)) (fun W => W.cell? ⟨vb, 3, none⟩ = some (.slice (some ⟨gn, on, none⟩) eil enc) ∧ W.cell? ⟨vb, 4, none⟩ = some (.slice (some ⟨ge, oe, none⟩) eil eic) ∧ W.cell? ⟨gn, on + i, none⟩ = some (.string s) ∧ W.cell? ⟨ge, oe + i * 5, none⟩ = some (.int .i64 ve.k) ∧ W.cell? ⟨ge, oe + i * 5 + 1, none⟩ = some (.int .i64 ve.n) ∧ W.cell? ⟨ge, oe + i * 5 + 2, none⟩ = some (.string ve.t) ∧ W.cell? ⟨ge, oe + i * 5 + 3, none⟩ = some (.slice ve.na ve.nl ve.nc) ∧ W.cell? ⟨ge, oe + i * 5 + 4, none⟩ = some (.slice ve.ia ve.il ve.ic)) 19 (by kernel_rfl) ?_
        intro W0 hwd
        have HK0 : Hid (ChgP (fun g => rb + 1 ≤ g) wr W0) := Lib.hid (by rw [hwd]; exact ((Chg.refl [] wr).drew).p)
        have HN0 : Hid (OwnN W0 (rb + 1) (.slice na nl nc) ns) := Lib.hid (HR.out.nm.same (by rw [hwd]; exact (Chg.refl [] wr).drew))
        have HE0 : Hid (OwnE W0 (rb + 1) (.slice ea el ec) vs) := Lib.hid (HR.out.em.same (by rw [hwd]; exact (Chg.refl [] wr).drew))
        clear hwd
        have hS := HS.out W0 HK0.out
        refine anyU_pure (i := 0) (v := .pointer (some ⟨rb, 3, none⟩)) rfl (by kernel_rfl) (fun _ _ _ h => h) (Or.inl ⟨by rfl, fun w' _ => by go_simp⟩) (fun _ => hS) hS.2 ?_
        simp only [Act.put, List.setIfInBounds_toArray, List.set_cons_zero, List.set_cons_succ]
        refine anyU_take (i := 1) (v := .slice na nl nc) rfl (by kernel_rfl) (fun _ _ _ h => h) (Or.inl ⟨by rfl, fun w' hS => by go_simp⟩) hS hS.2 ?_
        simp only [Act.put, List.setIfInBounds_toArray, List.set_cons_zero, List.set_cons_succ]
        refine anyU_pure (i := 2) (v := .pointer (some ⟨vb, 3, none⟩)) rfl (by kernel_rfl) (fun _ _ _ h => h) (Or.inl ⟨by rfl, fun w' _ => by go_simp⟩) (fun _ => hS) hS.2 ?_
        simp only [Act.put, List.setIfInBounds_toArray, List.set_cons_zero, List.set_cons_succ]
        refine anyU_keep (i := 3) (v := .slice (some ⟨gn, on, none⟩) eil enc) rfl (by kernel_rfl) (fun _ _ _ h => h) (Or.inl ⟨by rfl, fun w' hS => by go_simp⟩) (fun _ h => h.2) (fun _ => hS) hS.2 ?_
        simp only [Act.put, List.setIfInBounds_toArray, List.set_cons_zero, List.set_cons_succ]
        refine anyU_pure (i := 4) (v := .int .i64 (i : Nat)) rfl (by kernel_rfl) (fun _ _ _ h => h) (Or.inl ⟨by rfl, fun w' _ => by go_simp⟩) (fun _ => hS) hS.2 ?_
        simp only [Act.put, List.setIfInBounds_toArray, List.set_cons_zero, List.set_cons_succ]
        refine anyU_pure (i := 5) (v := .pointer (some ⟨gn, on + i, none⟩)) rfl (by kernel_rfl) (fun _ _ _ h => h) (Or.inl ⟨by rfl, fun w' _ => by go_simp⟩) (fun _ => hS) hS.2 ?_
        simp only [Act.put, List.setIfInBounds_toArray, List.set_cons_zero, List.set_cons_succ]
        refine anyU_keep (i := 6) (v := .string s) rfl (by kernel_rfl) (fun _ _ _ h => h) (Or.inl ⟨by rfl, fun w' hS => by go_simp⟩) (fun _ h => h.2) (fun _ => hS) hS.2 ?_
        simp only [Act.put, List.setIfInBounds_toArray, List.set_cons_zero, List.set_cons_succ]
        refine anyU_pure (i := 9) (v := .pointer (some ⟨rb, 4, none⟩)) rfl (by kernel_rfl) (fun _ _ _ h => h) (Or.inl ⟨by rfl, fun w' _ => by go_simp⟩) (fun _ => hS) hS.2 ?_
        simp only [Act.put, List.setIfInBounds_toArray, List.set_cons_zero, List.set_cons_succ]
        refine anyU_take (i := 10) (v := .slice ea el ec) rfl (by kernel_rfl) (fun _ _ _ h => h) (Or.inl ⟨by rfl, fun w' hS => by go_simp⟩) hS hS.2 ?_
        simp only [Act.put, List.setIfInBounds_toArray, List.set_cons_zero, List.set_cons_succ]
        refine anyU_pure (i := 11) (v := .pointer (some ⟨vb, 4, none⟩)) rfl (by kernel_rfl) (fun _ _ _ h => h) (Or.inl ⟨by rfl, fun w' _ => by go_simp⟩) (fun _ => hS) hS.2 ?_
        simp only [Act.put, List.setIfInBounds_toArray, List.set_cons_zero, List.set_cons_succ]
        refine anyU_keep (i := 12) (v := .slice (some ⟨ge, oe, none⟩) eil eic) rfl (by kernel_rfl) (fun _ _ _ h => h) (Or.inl ⟨by rfl, fun w' hS => by go_simp⟩) (fun _ h => h.2) (fun _ => hS) hS.2 ?_
        simp only [Act.put, List.setIfInBounds_toArray, List.set_cons_zero, List.set_cons_succ]
        refine anyU_pure (i := 13) (v := .int .i64 (i : Nat)) rfl (by kernel_rfl) (fun _ _ _ h => h) (Or.inl ⟨by rfl, fun w' _ => by go_simp⟩) (fun _ => hS) hS.2 ?_
        simp only [Act.put, List.setIfInBounds_toArray, List.set_cons_zero, List.set_cons_succ]
        refine anyU_pure (i := 14) (v := .pointer (some ⟨ge, oe + i * 5, none⟩)) rfl (by kernel_rfl) (fun _ _ _ h => h) (Or.inl ⟨by rfl, fun w' _ => by go_simp⟩) (fun _ => hS) hS.2 ?_
        simp only [Act.put, List.setIfInBounds_toArray, List.set_cons_zero, List.set_cons_succ]
        refine anyU_keep (i := 15) (v := .agg #[.int .i64 ve.k, .int .i64 ve.n, .string ve.t, .slice ve.na ve.nl ve.nc, .slice ve.ia ve.il ve.ic]) rfl (by kernel_rfl) (fun _ _ _ h => h) (Or.inl ⟨by rfl, fun w' hS => by go_simp⟩) (fun _ h => h.2) (fun _ => hS) hS.2 ?_
        simp only [Act.put, List.setIfInBounds_toArray, List.set_cons_zero, List.set_cons_succ]
        refine anyU_two (k := 7) (k' := 16) (by kernel_rfl) rfl rfl (fun K hK => ?_) (fun K hK => ?_)
        · skip
          go_simp
          obtain ⟨W1, hX⟩ : ∃ x, x = W0.alloc (.cells #[.string s] 9) := ⟨_, rfl⟩
          obtain ⟨gs, hg⟩ : ∃ x, x = W0.heap.size := ⟨_, rfl⟩
          have hcx : Chg [] W0 W1 := by rw [hX]; exact (Chg.refl _ _).alloc _
          have hgs : W1.heap[gs]? = some (.cells #[.string s] 9 (0, 0)) := by rw [hX, hg]; exact heap_at _ _ _ rfl
          rw [← hX, ← hg]
          clear hX hg
          have HK1 := Lib.hid (HK0.out.new hcx)
          have HN1 := Lib.hid (HN0.out.same hcx)
          have HE1 := Lib.hid (HE0.out.same hcx)
          have Hgs := Lib.hid hgs
          clear hgs
          have hS := HS.out W1 HK1.out
          refine hK _ _ (fun _ => hS) hS.2 ?_
          clear hK K hcx
          refine anyU_two (k := 8) (k' := 16) (by kernel_rfl) rfl rfl (fun K hK => ?_) (fun K hK => ?_)
          · skip
            obtain ⟨aN, cN, W2, hr, hon, hcx⟩ := pushN 22 HN1.out HL.out.1 HL.out.2.2.1 Hgs.out HL.out.2.2.2.1 (Nat.le_trans HR.out.hb HK1.out.size)
            refine step_app rfl _ _ _ rfl _ _ _ _ rfl rfl hr ?_
            have HE2 := Lib.hid (HE1.out.kept hcx.toP fun g hg hm => apartNE HN1.out HE1.out (by simpa using hm) hg)
            have HN2 := Lib.hid hon
            have HK2 := Lib.hid (HK1.out.comp hcx.toP fun g hg => Or.inl (ownsRow_ge HN1.out.1 (by simpa using hg)).1)
            clear hr hon
            have hS := HS.out W2 HK2.out
            refine hK _ _ (fun _ => hS) hS.2 ?_
            clear hK K hcx
            refine anyU_pure (i := 18) (v := .pointer (some ⟨rb, 3, none⟩)) rfl (by kernel_rfl) (fun _ _ _ h => h) (Or.inl ⟨by rfl, fun w' _ => by go_simp⟩) (fun _ => hS) hS.2 ?_
            simp only [Act.put, List.setIfInBounds_toArray, List.set_cons_zero, List.set_cons_succ]
            refine anyU_one (k := 16) (by kernel_rfl) rfl (fun K hK => ?_)
            go_simp
            obtain ⟨W3, hX⟩ : ∃ x, x = W2.alloc (.cells #[.int .i64 ve.k, .int .i64 ve.n, .string ve.t, .slice ve.na ve.nl ve.nc, .slice ve.ia ve.il ve.ic] 25) := ⟨_, rfl⟩
            obtain ⟨gv, hg⟩ : ∃ x, x = W2.heap.size := ⟨_, rfl⟩
            have hcx : Chg [] W2 W3 := by rw [hX]; exact (Chg.refl _ _).alloc _
            have hgv : W3.heap[gv]? = some (.cells #[.int .i64 ve.k, .int .i64 ve.n, .string ve.t, .slice ve.na ve.nl ve.nc, .slice ve.ia ve.il ve.ic] 25 (0, 0)) := by rw [hX, hg]; exact heap_at _ _ _ rfl
            rw [← hX, ← hg]
            clear hX hg
            have HK3 := Lib.hid (HK2.out.new hcx)
            have HN3 := Lib.hid (HN2.out.same hcx)
            have HE3 := Lib.hid (HE2.out.same hcx)
            have Hgv := Lib.hid hgv
            clear hgv
            have hS := HS.out W3 HK3.out
            refine hK _ _ (fun _ => hS) hS.2 ?_
            clear hK K hcx
            refine anyU_one (k := 17) (by kernel_rfl) rfl (fun K hK => ?_)
            obtain ⟨aE, cE, W4, hr, hon, hcx⟩ := pushE 23 HE3.out HL.out.2.1 Hgv.out HL.out.2.2.2.2 (Nat.le_trans HR.out.hb HK3.out.size)
            refine step_app rfl _ _ _ rfl _ _ _ _ rfl rfl hr ?_
            have HN4 := Lib.hid (HN3.out.kept hcx.toP fun g hg hm => apartNE HN3.out HE3.out hg (by simpa using hm))
            have HE4 := Lib.hid hon
            have HK4 := Lib.hid (HK3.out.comp hcx.toP fun g hg => Or.inl (ownsRow_ge HE3.out (by simpa using hg)).1)
            clear hr hon
            have hS := HS.out W4 HK4.out
            refine hK _ _ (fun _ => hS) hS.2 ?_
            clear hK K hcx
            have hrb := (HK4.out.block rb (lt_of_obj HR.out.box) (by omega)).trans HR.out.box
            obtain ⟨r0, r1, r2, r3, r4⟩ := box_kept rb hrb (Chg.refl [] W4)
            have rf := fun i => frozen_of_heap (i := i) hrb
            have rl := lt_of_cell r0
            refine anyU_one (k := 19) (by kernel_rfl) rfl (fun K hK => ?_)
            go_simp
            have hS1 := HS0.out (W4.setCell ⟨rb, 3, none⟩ (.slice aN (nl + 1) cN)) (((HK4.out.mono (fun g (hg : rb + 1 ≤ g) => Nat.le_of_succ_le hg))).setCell (p := ⟨rb, 3, none⟩) (Or.inl (Nat.le_refl _)) _)
            refine hK _ _ (fun h => by simp at h) hS1 ?_
            clear hK K
            refine anyU_one (k := 20) (by kernel_rfl) rfl (fun K hK => ?_)
            go_simp
            refine hK _ _ (fun h => by simp at h) hS1 ?_
            clear hK K
            refine anyU_one (k := 21) (by kernel_rfl) rfl (fun K hK => ?_)
            go_simp
            have hS2 := HS0.out ((W4.setCell ⟨rb, 3, none⟩ (.slice aN (nl + 1) cN)).setCell ⟨rb, 4, none⟩ (.slice aE (el + 1) cE)) ((((HK4.out.mono (fun g (hg : rb + 1 ≤ g) => Nat.le_of_succ_le hg))).setCell (p := ⟨rb, 3, none⟩) (Or.inl (Nat.le_refl _)) _).setCell (p := ⟨rb, 4, none⟩) (Or.inl (Nat.le_refl _)) _)
            refine hK _ _ (fun h => by simp at h) hS2 ?_
            clear hK K
            refine anyU_done (by kernel_rfl) ?_
            have HRn := Lib.hid (HR.out.next HK4.out HN4.out HE4.out (by rw [List.length_append, List.length_singleton, HL.out.1]) (by rw [List.length_append, List.length_singleton, HL.out.2.1]) Hw7.out)
            clear hS hS1 hS2 hrb r0 r1 r2 r3 r4 rf rl
            go_wp2_with fail
            refine ⟨⟨q + 1, by omega, _, rfl, Lib.hid (by have := Hz.out; omega), _, _, _, _, _, _, Lib.hid (by rw [Htk.out.1, Htk.out.2]; exact HRn.out)⟩, by simp [intOf]⟩
          · skip
            go_simp
            obtain ⟨W2, hX⟩ : ∃ x, x = W1.alloc (.cells #[.int .i64 ve.k, .int .i64 ve.n, .string ve.t, .slice ve.na ve.nl ve.nc, .slice ve.ia ve.il ve.ic] 25) := ⟨_, rfl⟩
            obtain ⟨gv, hg⟩ : ∃ x, x = W1.heap.size := ⟨_, rfl⟩
            have hcx : Chg [] W1 W2 := by rw [hX]; exact (Chg.refl _ _).alloc _
            have hgv : W2.heap[gv]? = some (.cells #[.int .i64 ve.k, .int .i64 ve.n, .string ve.t, .slice ve.na ve.nl ve.nc, .slice ve.ia ve.il ve.ic] 25 (0, 0)) := by rw [hX, hg]; exact heap_at _ _ _ rfl
            rw [← hX, ← hg]
            clear hX hg
            have HK2 := Lib.hid (HK1.out.new hcx)
            have HN2 := Lib.hid (HN1.out.same hcx)
            have HE2 := Lib.hid (HE1.out.same hcx)
            have Hgs := Lib.hid ((hcx.block gs (lt_of_obj Hgs.out) (by simp)).trans Hgs.out)
            have Hgv := Lib.hid hgv
            clear hgv
            have hS := HS.out W2 HK2.out
            refine hK _ _ (fun _ => hS) hS.2 ?_
            clear hK K hcx
            refine anyU_one (k := 8) (by kernel_rfl) rfl (fun K hK => ?_)
            obtain ⟨aN, cN, W3, hr, hon, hcx⟩ := pushN 22 HN2.out HL.out.1 HL.out.2.2.1 Hgs.out HL.out.2.2.2.1 (Nat.le_trans HR.out.hb HK2.out.size)
            refine step_app rfl _ _ _ rfl _ _ _ _ rfl rfl hr ?_
            have HE3 := Lib.hid (HE2.out.kept hcx.toP fun g hg hm => apartNE HN2.out HE2.out (by simpa using hm) hg)
            have HN3 := Lib.hid hon
            have HK3 := Lib.hid (HK2.out.comp hcx.toP fun g hg => Or.inl (ownsRow_ge HN2.out.1 (by simpa using hg)).1)
            have Hgv := Lib.hid ((hcx.block gv (lt_of_obj Hgv.out) (fun hm => own_ne HN2.out.1 (by simpa using hm) Hgv.out)).trans Hgv.out)
            clear hr hon
            have hS := HS.out W3 HK3.out
            refine hK _ _ (fun _ => hS) hS.2 ?_
            clear hK K hcx
            refine anyU_pure (i := 18) (v := .pointer (some ⟨rb, 3, none⟩)) rfl (by kernel_rfl) (fun _ _ _ h => h) (Or.inl ⟨by rfl, fun w' _ => by go_simp⟩) (fun _ => hS) hS.2 ?_
            simp only [Act.put, List.setIfInBounds_toArray, List.set_cons_zero, List.set_cons_succ]
            refine anyU_one (k := 17) (by kernel_rfl) rfl (fun K hK => ?_)
            obtain ⟨aE, cE, W4, hr, hon, hcx⟩ := pushE 23 HE3.out HL.out.2.1 Hgv.out HL.out.2.2.2.2 (Nat.le_trans HR.out.hb HK3.out.size)
            refine step_app rfl _ _ _ rfl _ _ _ _ rfl rfl hr ?_
            have HN4 := Lib.hid (HN3.out.kept hcx.toP fun g hg hm => apartNE HN3.out HE3.out hg (by simpa using hm))
            have HE4 := Lib.hid hon
            have HK4 := Lib.hid (HK3.out.comp hcx.toP fun g hg => Or.inl (ownsRow_ge HE3.out (by simpa using hg)).1)
            clear hr hon
            have hS := HS.out W4 HK4.out
            refine hK _ _ (fun _ => hS) hS.2 ?_
            clear hK K hcx
            have hrb := (HK4.out.block rb (lt_of_obj HR.out.box) (by omega)).trans HR.out.box
            obtain ⟨r0, r1, r2, r3, r4⟩ := box_kept rb hrb (Chg.refl [] W4)
            have rf := fun i => frozen_of_heap (i := i) hrb
            have rl := lt_of_cell r0
            refine anyU_one (k := 19) (by kernel_rfl) rfl (fun K hK => ?_)
            go_simp
            have hS1 := HS0.out (W4.setCell ⟨rb, 3, none⟩ (.slice aN (nl + 1) cN)) (((HK4.out.mono (fun g (hg : rb + 1 ≤ g) => Nat.le_of_succ_le hg))).setCell (p := ⟨rb, 3, none⟩) (Or.inl (Nat.le_refl _)) _)
            refine hK _ _ (fun h => by simp at h) hS1 ?_
            clear hK K
            refine anyU_one (k := 20) (by kernel_rfl) rfl (fun K hK => ?_)
            go_simp
            refine hK _ _ (fun h => by simp at h) hS1 ?_
            clear hK K
            refine anyU_one (k := 21) (by kernel_rfl) rfl (fun K hK => ?_)
            go_simp
            have hS2 := HS0.out ((W4.setCell ⟨rb, 3, none⟩ (.slice aN (nl + 1) cN)).setCell ⟨rb, 4, none⟩ (.slice aE (el + 1) cE)) ((((HK4.out.mono (fun g (hg : rb + 1 ≤ g) => Nat.le_of_succ_le hg))).setCell (p := ⟨rb, 3, none⟩) (Or.inl (Nat.le_refl _)) _).setCell (p := ⟨rb, 4, none⟩) (Or.inl (Nat.le_refl _)) _)
            refine hK _ _ (fun h => by simp at h) hS2 ?_
            clear hK K
            refine anyU_done (by kernel_rfl) ?_
            have HRn := Lib.hid (HR.out.next HK4.out HN4.out HE4.out (by rw [List.length_append, List.length_singleton, HL.out.1]) (by rw [List.length_append, List.length_singleton, HL.out.2.1]) Hw7.out)
            clear hS hS1 hS2 hrb r0 r1 r2 r3 r4 rf rl
            go_wp2_with fail
            refine ⟨⟨q + 1, by omega, _, rfl, Lib.hid (by have := Hz.out; omega), _, _, _, _, _, _, Lib.hid (by rw [Htk.out.1, Htk.out.2]; exact HRn.out)⟩, by simp [intOf]⟩
        · skip
          go_simp
          obtain ⟨W1, hX⟩ : ∃ x, x = W0.alloc (.cells #[.int .i64 ve.k, .int .i64 ve.n, .string ve.t, .slice ve.na ve.nl ve.nc, .slice ve.ia ve.il ve.ic] 25) := ⟨_, rfl⟩
          obtain ⟨gv, hg⟩ : ∃ x, x = W0.heap.size := ⟨_, rfl⟩
          have hcx : Chg [] W0 W1 := by rw [hX]; exact (Chg.refl _ _).alloc _
          have hgv : W1.heap[gv]? = some (.cells #[.int .i64 ve.k, .int .i64 ve.n, .string ve.t, .slice ve.na ve.nl ve.nc, .slice ve.ia ve.il ve.ic] 25 (0, 0)) := by rw [hX, hg]; exact heap_at _ _ _ rfl
          rw [← hX, ← hg]
          clear hX hg
          have HK1 := Lib.hid (HK0.out.new hcx)
          have HN1 := Lib.hid (HN0.out.same hcx)
          have HE1 := Lib.hid (HE0.out.same hcx)
          have Hgv := Lib.hid hgv
          clear hgv
          have hS := HS.out W1 HK1.out
          refine hK _ _ (fun _ => hS) hS.2 ?_
          clear hK K hcx
          refine anyU_one (k := 7) (by kernel_rfl) rfl (fun K hK => ?_)
          go_simp
          obtain ⟨W2, hX⟩ : ∃ x, x = W1.alloc (.cells #[.string s] 9) := ⟨_, rfl⟩
          obtain ⟨gs, hg⟩ : ∃ x, x = W1.heap.size := ⟨_, rfl⟩
          have hcx : Chg [] W1 W2 := by rw [hX]; exact (Chg.refl _ _).alloc _
          have hgs : W2.heap[gs]? = some (.cells #[.string s] 9 (0, 0)) := by rw [hX, hg]; exact heap_at _ _ _ rfl
          rw [← hX, ← hg]
          clear hX hg
          have HK2 := Lib.hid (HK1.out.new hcx)
          have HN2 := Lib.hid (HN1.out.same hcx)
          have HE2 := Lib.hid (HE1.out.same hcx)
          have Hgv := Lib.hid ((hcx.block gv (lt_of_obj Hgv.out) (by simp)).trans Hgv.out)
          have Hgs := Lib.hid hgs
          clear hgs
          have hS := HS.out W2 HK2.out
          refine hK _ _ (fun _ => hS) hS.2 ?_
          clear hK K hcx
          refine anyU_one (k := 8) (by kernel_rfl) rfl (fun K hK => ?_)
          obtain ⟨aN, cN, W3, hr, hon, hcx⟩ := pushN 22 HN2.out HL.out.1 HL.out.2.2.1 Hgs.out HL.out.2.2.2.1 (Nat.le_trans HR.out.hb HK2.out.size)
          refine step_app rfl _ _ _ rfl _ _ _ _ rfl rfl hr ?_
          have HE3 := Lib.hid (HE2.out.kept hcx.toP fun g hg hm => apartNE HN2.out HE2.out (by simpa using hm) hg)
          have HN3 := Lib.hid hon
          have HK3 := Lib.hid (HK2.out.comp hcx.toP fun g hg => Or.inl (ownsRow_ge HN2.out.1 (by simpa using hg)).1)
          have Hgv := Lib.hid ((hcx.block gv (lt_of_obj Hgv.out) (fun hm => own_ne HN2.out.1 (by simpa using hm) Hgv.out)).trans Hgv.out)
          clear hr hon
          have hS := HS.out W3 HK3.out
          refine hK _ _ (fun _ => hS) hS.2 ?_
          clear hK K hcx
          refine anyU_pure (i := 18) (v := .pointer (some ⟨rb, 3, none⟩)) rfl (by kernel_rfl) (fun _ _ _ h => h) (Or.inl ⟨by rfl, fun w' _ => by go_simp⟩) (fun _ => hS) hS.2 ?_
          simp only [Act.put, List.setIfInBounds_toArray, List.set_cons_zero, List.set_cons_succ]
          refine anyU_one (k := 17) (by kernel_rfl) rfl (fun K hK => ?_)
          obtain ⟨aE, cE, W4, hr, hon, hcx⟩ := pushE 23 HE3.out HL.out.2.1 Hgv.out HL.out.2.2.2.2 (Nat.le_trans HR.out.hb HK3.out.size)
          refine step_app rfl _ _ _ rfl _ _ _ _ rfl rfl hr ?_
          have HN4 := Lib.hid (HN3.out.kept hcx.toP fun g hg hm => apartNE HN3.out HE3.out hg (by simpa using hm))
          have HE4 := Lib.hid hon
          have HK4 := Lib.hid (HK3.out.comp hcx.toP fun g hg => Or.inl (ownsRow_ge HE3.out (by simpa using hg)).1)
          clear hr hon
          have hS := HS.out W4 HK4.out
          refine hK _ _ (fun _ => hS) hS.2 ?_
          clear hK K hcx
          have hrb := (HK4.out.block rb (lt_of_obj HR.out.box) (by omega)).trans HR.out.box
          obtain ⟨r0, r1, r2, r3, r4⟩ := box_kept rb hrb (Chg.refl [] W4)
          have rf := fun i => frozen_of_heap (i := i) hrb
          have rl := lt_of_cell r0
          refine anyU_one (k := 19) (by kernel_rfl) rfl (fun K hK => ?_)
          go_simp
          have hS1 := HS0.out (W4.setCell ⟨rb, 3, none⟩ (.slice aN (nl + 1) cN)) (((HK4.out.mono (fun g (hg : rb + 1 ≤ g) => Nat.le_of_succ_le hg))).setCell (p := ⟨rb, 3, none⟩) (Or.inl (Nat.le_refl _)) _)
          refine hK _ _ (fun h => by simp at h) hS1 ?_
          clear hK K
          refine anyU_one (k := 20) (by kernel_rfl) rfl (fun K hK => ?_)
          go_simp
          refine hK _ _ (fun h => by simp at h) hS1 ?_
          clear hK K
          refine anyU_one (k := 21) (by kernel_rfl) rfl (fun K hK => ?_)
          go_simp
          have hS2 := HS0.out ((W4.setCell ⟨rb, 3, none⟩ (.slice aN (nl + 1) cN)).setCell ⟨rb, 4, none⟩ (.slice aE (el + 1) cE)) ((((HK4.out.mono (fun g (hg : rb + 1 ≤ g) => Nat.le_of_succ_le hg))).setCell (p := ⟨rb, 3, none⟩) (Or.inl (Nat.le_refl _)) _).setCell (p := ⟨rb, 4, none⟩) (Or.inl (Nat.le_refl _)) _)
          refine hK _ _ (fun h => by simp at h) hS2 ?_
          clear hK K
          refine anyU_done (by kernel_rfl) ?_
          have HRn := Lib.hid (HR.out.next HK4.out HN4.out HE4.out (by rw [List.length_append, List.length_singleton, HL.out.1]) (by rw [List.length_append, List.length_singleton, HL.out.2.1]) Hw7.out)
          clear hS hS1 hS2 hrb r0 r1 r2 r3 r4 rf rl
          go_wp2_with fail
          refine ⟨⟨q + 1, by omega, _, rfl, Lib.hid (by have := Hz.out; omega), _, _, _, _, _, _, Lib.hid (by rw [Htk.out.1, Htk.out.2]; exact HRn.out)⟩, by simp [intOf]⟩
      · obtain rfl : q = eil := by omega
        obtain rfl : z = -1 := by have := Hz.out; omega
        have HRw := Lib.hid (show RR w7 wr rb na nl nc ea el ec nsE.reverse VE.reverse by
          have h := HR.out
          have h1 := HL0.out
          have h2 := Hvl.out
          rwa [List.take_of_length_le (by rw [List.length_reverse]; omega), List.take_of_length_le (by rw [List.length_reverse]; omega)] at h)
        have hcw : Chg [] w wr := (Hc7.out.toP.comp HRw.out.ch.toP fun x hx => Or.inr (by have := List.mem_singleton.1 hx; have := Hlt.out; omega)).toL
        have Hcw := Lib.hid hcw
        have hjr : JV (fun g => g < wr.heap.size) (f3 + 1) wr (.agg #[.int .i64 5, .int .i64 0, .string ⟨#[]⟩, .slice na nl nc, .slice ea el ec]) (topRev E) := by
          rw [HEo.out]
          refine ⟨_, _, rfl, HRw.out.nm.read fun g hg => (ownsRow_ge HRw.out.nm.1 hg).2, HRw.out.em.read (by rw [List.length_reverse, Hvl.out]; exact (List.length_reverse).symm) (fun g hg => (ownsRow_ge HRw.out.em hg).2) fun j hj => ?_, show (ByteArray.mk #[]).size ≤ maxLen by decide⟩
          have hj' : j < VE.length := by simpa using hj
          have h2 := Hvl.out
          have hje : VE.length - 1 - j < esE.length := by omega
          obtain ⟨ge, oe, _, _, _, hjv⟩ := Hve.out (VE.length - 1 - j) hje (by omega)
          have e1 : VE.reverse[j] = VE[VE.length - 1 - j] := List.getElem_reverse _
          have e2 : (esE.reverse).getD j J.zero = esE[VE.length - 1 - j] := by
            rw [List.getD_eq_getElem?_getD, List.getElem?_reverse (by omega), List.getElem?_eq_getElem (by omega), Option.getD_some]
            congr 1
            omega
          show JV _ _ wr (VE.reverse[j]).val ((esE.reverse).getD j J.zero)
          rw [e1, e2]
          exact (hjv.kept HRw.out.ch.toP fun g hg hm => by have := List.mem_singleton.1 hm; have := Hlow.out g hg; omega).imp fun g hg => by have := Hlow.out g hg; have := HRw.out.hb; omega
        obtain ⟨r0, r1, r2, r3, r4⟩ := box_kept rb HRw.out.box (Chg.refl [] wr)
        have Hdb := Lib.hid (decode_any _ (f3 + 1) wr (topRev E) _ hjr (fun g h => h) (Sm.bd _ (Sm.of Hf2.out.1)) (HT.out.new hcw).1)
        have Hmr := Lib.hid ((HRw.out.ch.block mb (lt_of_obj Hm7.out) (by have := Hlt.out; simp; omega)).trans Hm7.out)
        have Har := Lib.hid ((HRw.out.ch.block ab (lt_of_obj Ha7.out) (by have := Hlt.out; simp; omega)).trans Ha7.out)
        have Hjr := Lib.hid (Hj7.out.kept HRw.out.ch.toP fun g hg hm => by have := List.mem_singleton.1 hm; omega)
        clear hcw hjr HR Hz hq HRw
        go_wp2_with fail
        refine Hdb.out.mono ?_
        rintro e1 w8 hP
        obtain ⟨ea2, rfl, hj8, hc8⟩ := de_found hP Hf2.out.2
        clear hP r0 r1 r2 r3 r4 Hdb
        unfold mB
        obtain ⟨w9, hw9⟩ : ∃ x, x = w8.alloc (.cells #[.int .i64 k, .int .i64 i, .int .i64 c, .string t, .int .i64 ea2.k, .int .i64 ea2.n, .string ea2.t, .slice ea2.na ea2.nl ea2.nc, .slice ea2.ia ea2.il ea2.ic] 27) := ⟨_, rfl⟩
        obtain ⟨bb, hbb⟩ : ∃ x, x = w8.heap.size := ⟨_, rfl⟩
        have hc9 : Chg [] w8 w9 := by rw [hw9]; exact (Chg.refl _ _).alloc _
        have hb9 : w9.heap[bb]? = some (.cells #[.int .i64 k, .int .i64 i, .int .i64 c, .string t, .int .i64 ea2.k, .int .i64 ea2.n, .string ea2.t, .slice ea2.na ea2.nl ea2.nc, .slice ea2.ia ea2.il ea2.ic] 27 (0, 0)) := by rw [hw9, hbb]; exact heap_at _ _ _ rfl
        have Hc9 := Lib.hid (hc8.trans hc9)
        have Hb9 := Lib.hid hb9
        have Hj9 := Lib.hid (JN.same hj8 hc9)
        clear hj8 hc8 hc9 hb9
        go_upto_region 13 with fail
        rw [← hw9, ← hbb]
        clear hw9 hbb
        go_wp2_with fail
        refine (mexB_any w9 (HT.out.new (Hcw.out.trans Hc9.out))).mono ?_
        rintro e1 w10 ⟨rfl, hc10⟩
        have Hcx := Lib.hid (Hc9.out.trans hc10)
        have Hm10 := Lib.hid ((Hcx.out.block mb (lt_of_obj Hmr.out) (by simp)).trans Hmr.out)
        have Hb10 := Lib.hid ((hc10.block bb (lt_of_obj Hb9.out) (by simp)).trans Hb9.out)
        obtain ⟨⟨x0, x1, x2, x3, x4, x5, x6, x7, x8⟩, xf, xl⟩ := nineM Hm10.out
        obtain ⟨⟨a0, a1, a2, a3, a4, a5, a6, a7, a8⟩, af, al⟩ := nineM ((Hcx.out.block ab (lt_of_obj Har.out) (by simp)).trans Har.out)
        have HI := Lib.hid (eqM_any _ _ f3 f w10 k i c t ea1 e b (Hjr.out.chg Hcx.out) (Hb.out w10 (Hcw.out.trans Hcx.out)))
        have HJ := Lib.hid (fun W (hc : Chg [] w10 W) => eqM_any _ _ (f3 + 1) f W k i c t ea2 e b ((Hj9.out.chg hc10).chg hc) (Hb.out W ((Hcw.out.trans Hcx.out).trans hc)))
        unfold mB at HI HJ
        clear hc10
        go_wp2_with fail
        refine HI.out.mono ?_
        rintro e1 w11 ⟨rfl, hc11⟩
        clear x0 x1 x2 x3 x4 x5 x6 x7 x8 xf xl a0 a1 a2 a3 a4 a5 a6 a7 a8 af al HI
        obtain ⟨⟨x0, x1, x2, x3, x4, x5, x6, x7, x8⟩, xf, xl⟩ := nineM ((hc11.block mb (lt_of_obj Hm10.out) (by simp)).trans Hm10.out)
        obtain ⟨⟨a0, a1, a2, a3, a4, a5, a6, a7, a8⟩, af, al⟩ := nineM ((hc11.block bb (lt_of_obj Hb10.out) (by simp)).trans Hb10.out)
        have HI := Lib.hid (HJ.out w11 hc11)
        have Hcy := Lib.hid ((Hcw.out.trans Hcx.out).trans hc11)
        clear hc11 HJ
        go_wp2_with fail
        refine HI.out.mono ?_
        rintro e1 w12 ⟨rfl, hc12⟩
        have Hcz := Lib.hid (Hcy.out.trans hc12)
        clear x0 x1 x2 x3 x4 x5 x6 x7 x8 xf xl a0 a1 a2 a3 a4 a5 a6 a7 a8 af al HI hc12
        go_wp2_with fail
        go_ret
        exact ⟨rfl, Hcz.out⟩
end Go.Proofs.YtiklgipcgdgkoaaDoor.Jv
