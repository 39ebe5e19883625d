/- JSON values: encode, encodeElements. -/
import Derived.Test.YtiklgipcgdgkoaaDoorJvM
namespace Go.Proofs.YtiklgipcgdgkoaaDoor.Jv
open Go.RowKit Go.ChangeMaps Go.MapKept
set_option linter.unusedVariables false
set_option linter.unusedSimpArgs false
/-! ### plain -/
mutual
def J.enc : J → List UInt8
  | .mk k n t ns es => if k = 0 then [110, 117, 108, 108] else if k = 1 then Lib.formatBool (decide (n = 1)) else if k = 2 then Lib.itoa n else if k = 3 then encS t else (if k = 5 then 123 else 91) :: (encL k 0 ns es ++ [if k = 5 then 125 else 93])
def encL (k : Int) : Nat → List ByteArray → List J → List UInt8
  | _, _, [] => []
  | i, ns, e :: es => (if 0 < i then [44] else []) ++ (if k = 5 then encS (ns.getD i ⟨#[]⟩) ++ [58] else []) ++ e.enc ++ encL k (i + 1) ns es
end
def encE : J → List UInt8 | .mk k n t ns es => (if k = 5 then 123 else 91) :: (encL k 0 ns es ++ [if k = 5 then 125 else 93])
theorem encL_drop {k : Int} {ns : List ByteArray} {es : List J} {i : Nat} (hi : i < es.length) : encL k i ns (es.drop i) = (if 0 < i then [44] else []) ++ (if k = 5 then encS (ns.getD i ⟨#[]⟩) ++ [58] else []) ++ es[i].enc ++ encL k (i + 1) ns (es.drop (i + 1)) := by
  rw [List.drop_eq_getElem_cons hi, encL]
/-! ### the powers of ten, and what a builder's writes keep -/
def P10 (w : World) : Prop := Lib.TabIs Tryd.prog w "internal/strconv.uint64pow10" .u64 Lib.pow10Tab
theorem p10_named : Tryd.prog.globalNamed "internal/strconv.uint64pow10" = some 2 := by kernel_rfl
theorem P10.lt {w : World} (h : P10 w) : 2 < w.heap.size := by
  unfold P10 Lib.TabIs World.var? at h
  rw [p10_named, Option.bind_some] at h
  split at h
  · rename_i hb; exact lt_of_obj hb
  · cases h
theorem P10.kept {w w' : World} {S : Nat → Prop} (h : P10 w) (hc : ChgP S w w') (hS : ¬ S 2) : P10 w' := by
  have hl := h.lt
  unfold P10 Lib.TabIs World.var? at h ⊢
  rw [p10_named, Option.bind_some] at h ⊢
  rw [hc.block 2 hl hS]
  exact h
theorem chg_grow {w w' : World} (h : ∃ k os, w' = Go.Sort.grow (w.drewN k) os) : Chg [] w w' := by
  obtain ⟨k, os, rfl⟩ := h
  refine ⟨rfl, rfl, rfl, by simp [Go.Sort.grow, World.drewN], fun i hi _ => ?_⟩
  show (w.heap ++ os)[i]? = w.heap[i]?
  rw [Array.getElem?_append_left hi]
theorem itoa_any (n : Int) (w : World) (h0 : -9007199254740991 ≤ n) (h1 : n ≤ 9007199254740991) (hP : P10 w) : Calls Tryd.prog 67 #[.int .i64 n] w fun e w' => e = .returned (.string ⟨(Lib.itoa n).toArray⟩) ∧ Chg [] w w' :=
  (Tryd.strconv_Itoa n (by omega) (by omega) w hP).mono fun e w' ⟨h1, h2⟩ => ⟨h1, chg_grow h2⟩
theorem BW.lt {B b : Nat} {l : List UInt8} {w : World} (h : BW B b l w) : b < w.heap.size ∧ B ≤ b := by
  rcases h with ⟨hB, v, hb, _⟩ | ⟨hB, v, hb, _⟩ <;> exact ⟨lt_of_obj hb, hB⟩
theorem JV.bk {p : Nat → Prop} {B b f : Nat} {w w' : World} {v : Value} {j : J} (h : JV p f w v j) (hp : ∀ g, p g → g < B) (hc : ChgP (bldSet B b w) w w') : JV p f w' v j := h.kept hc fun g hg => bset_below (hp g hg)
theorem box_bk {B b x : Nat} {w w' : World} {k n : Int} {t : ByteArray} {nv iv : Value} (h : w.heap[x]? = some (.cells #[.int .i64 k, .int .i64 n, .string t, nv, iv] 25 (0, 0))) (hx : x ≠ b) (hc : ChgP (bldSet B b w) w w') : w'.heap[x]? = some (.cells #[.int .i64 k, .int .i64 n, .string t, nv, iv] 25 (0, 0)) :=
  (hc.block x (lt_of_obj h) (bset_box h hx)).trans h
/-- the contract of encode at a depth -/
def EncAt (F : FuncId) (g : J → List UInt8) (p : Nat → Prop) (B b f : Nat) : Prop := ∀ (w : World) (j : J) (v : Value) (l : List UInt8), JV p f w v j → Sm j → BW B b l w → B ≤ w.heap.size → P10 w → l.length + (g j).length ≤ 140737488355328 → Calls Tryd.prog F #[.pointer (some ⟨b, 0, none⟩), v] w (WrPost B b (l ++ g j) (.tuple #[]) w)
theorem cells_bk {B b : Nat} {w w' : World} {a : Addr} {u : Value} (h : w.cell? a = some u) (ha : a.block < B) (hc : ChgP (bldSet B b w) w w') : w'.cell? a = some u := (hc.cell (lt_of_cell h) (bset_below ha)).trans h
set_option maxRecDepth 100000 in
set_option maxHeartbeats 16000000 in
theorem elems_step (p : Nat → Prop) (B b f : Nat) (hp : (∀ g, p g → g < B) ∧ 2 < B) (ih : ∀ f', f' < f → EncAt 47 J.enc p B b f') : ∀ (w : World) (j : J) (v : Value) (l : List UInt8), JV p f w v j → Sm j → BW B b l w → B ≤ w.heap.size → P10 w → l.length + (encE j).length ≤ 140737488355328 →
    Calls Tryd.prog 69 #[.pointer (some ⟨b, 0, none⟩), v] w (WrPost B b (l ++ encE j) (.tuple #[]) w) := by
  intro w j v l hj hs hb hBw hP hlen
  obtain ⟨k, n, t, ns, es⟩ := j
  obtain ⟨na, nc, a, cap, rfl, hns, hes, ⟨hn1, hn2⟩, ⟨hl1, hl2⟩, hts⟩ := hj.shape
  simp only [J.kind, J.num, J.text, J.names, J.elems] at hns hes hl1 hl2 hts hj hn1 hn2 ⊢
  unfold maxLen at hl2 hn2
  obtain ⟨wq, hwq⟩ : ∃ x, x = w.alloc (.cells #[.int .i64 k, .int .i64 n, .string t, .slice na ns.length nc, .slice a es.length cap] 25) := ⟨_, rfl⟩
  obtain ⟨B1, hB1⟩ : ∃ x, x = w.heap.size := ⟨_, rfl⟩
  have hcq : Chg [] w wq := by rw [hwq]; exact (Chg.refl _ _).alloc _
  have hbb : wq.heap[B1]? = some (.cells #[.int .i64 k, .int .i64 n, .string t, .slice na ns.length nc, .slice a es.length cap] 25 (0, 0)) := by rw [hwq, hB1]; exact heap_at _ _ _ rfl
  obtain ⟨b0, b1, b2, b3, b4⟩ := box_kept B1 hbb (Chg.refl [] wq)
  have lb := lt_of_cell b0
  have Hbb := Lib.hid hbb
  have Hb1 := Lib.hid (show b < B1 by rw [hB1]; exact hb.lt.1)
  have HBq : Hid (BW B b l wq ∧ ChgP (bldSet B b wq) wq wq ∧ B ≤ wq.heap.size) := Lib.hid ⟨hb.same hcq, ChgP.refl _ _, Nat.le_trans hBw hcq.size⟩
  have Hcq := Lib.hid hcq
  have Hes := Lib.hid (SlR.imp hes (fun _ h => h) fun ad x hp hx => rdJ.kept (S := fun _ => False) hcq.p (fun g hg e => e) hp hx : SlR p 5 (rdJ p f) wq (.slice a es.length cap) es)
  have Hns := Lib.hid (strs_kept (S := fun _ => False) hns hcq.p (fun _ _ h => h))
  have Hnz := Lib.hid (rdS_size hns)
  have Hs := Lib.hid hs
  have Hp := Lib.hid hp
  have HP := Lib.hid (hP.kept (S := fun _ => False) hcq.p (fun h => h))
  have Hlen := Lib.hid (show l.length + 2 + (encL k 0 ns es).length ≤ 140737488355328 by simp [encE] at hlen; omega)
  have HE : Hid (encE (J.mk k n t ns es) = (if k = 5 then 123 else 91) :: (encL k 0 ns es ++ [if k = 5 then 125 else 93])) := Lib.hid rfl
  clear hj hs hb hBw hP hlen hes hns hcq hbb hp
  go_enter Tryd.func69, Tryd.ntmps69
  go_upto_region 1 with fail
  rw [← hwq, ← hB1]
  clear hwq hB1
  by_cases hk : k = 5
  · subst hk
    have Hnl := Lib.hid (show ns.length = es.length from (wf_obj (vd_zero.1 Hs.out.1).2.1).1)
    rw [if_pos rfl, if_pos rfl] at HE
    go_wp2_with fail
    refine (wb_any B b l 123 _ HBq.out.1 (by decide) (by have := Hlen.out; omega) HBq.out.2.2).mono ?_
    rintro e w1 ⟨rfl, h1, hc1, hz1⟩
    have HB1 : Hid (BW B b (l ++ [123]) w1 ∧ ChgP (bldSet B b wq) wq w1 ∧ B ≤ w1.heap.size) := Lib.hid ⟨h1, bset_trans HBq.out.2.1 hc1, by have := HBq.out.2.2; omega⟩
    clear h1 hc1 hz1
    obtain ⟨b0, b1, b2, b3, b4⟩ := box_kept B1 (box_bk Hbb.out (Nat.ne_of_gt Hb1.out) HB1.out.2.1) (Chg.refl [] _)
    have HM : Hid ((l ++ [123]) ++ encL 5 0 ns (es.drop 0) = l ++ 123 :: encL 5 0 ns es) := Lib.hid (by simp)
    go_wp2_with fail
    go_loopw [17] (fun ii wr => ∃ (i : Nat) (m : List UInt8), i ≤ es.length ∧ ii = .int .i64 (i : Nat) ∧ Hid (BW B b m wr ∧ ChgP (bldSet B b wq) wq wr ∧ B ≤ wr.heap.size) ∧ Hid (m ++ encL 5 i ns (es.drop i) = l ++ 123 :: encL 5 0 ns es)) (fun ii _ => es.length - (intOf ii).toNat)
    case atStart => exact ⟨0, _, by omega, rfl, HB1, HM⟩
    case round =>
      obtain ⟨i, m, hi, rfl, HB, HM⟩ := hrel
      obtain ⟨b0, b1, b2, b3, b4⟩ := box_kept B1 (box_bk Hbb.out (Nat.ne_of_gt Hb1.out) HB.out.2.1) (Chg.refl [] _)
      by_cases hlt : i < es.length
      · have hij : (i : Int) < es.length := by omega
        have hi0 : (0 : Int) ≤ i := by omega
        have hd := encL_drop (k := 5) (ns := ns) hlt
        rw [if_pos rfl] at hd
        have hin : i < ns.length := by have := Hnl.out; omega
        have hin1 : (i : Int) < ns.length := by omega
        obtain ⟨gn, offn, rfl, hpn, q0, _⟩ := SlR.at Hns.out i hin ⟨#[]⟩
        rw [Nat.mul_one] at q0
        obtain ⟨nm, hnm⟩ : ∃ x, x = ns.getD i ⟨#[]⟩ := ⟨_, rfl⟩
        rw [← hnm] at q0 hd
        have hnms : nm.size ≤ maxLen := by rw [hnm]; exact Hnz.out _ (getD_memb hin _)
        have Hnm := Lib.hid hnms
        have Hg1 := Lib.hid (Hp.out.1 gn hpn)
        have hesr : SlR p 5 (rdJ p f) wr (.slice a es.length cap) es := SlR.imp Hes.out (fun _ h => h) fun ad x hpx hx => rdJ.kept HB.out.2.1 (fun g hg => bset_below (Hp.out.1 g hg)) hpx hx
        obtain ⟨g, off, na', nc', ia', ic', rfl, hpg, e0, e1, e2, e3, e4, f', rfl, hjv⟩ := elem_at hesr hlt
        obtain ⟨el, hel⟩ : ∃ el, el = es[i] := ⟨_, rfl⟩
        rw [← hel] at e0 e1 e2 e3 e4 hjv hd
        have hsm : Sm el := Hs.out.elem (hel ▸ List.getElem_mem hlt)
        obtain ⟨ek, hek⟩ : ∃ x, x = el.kind := ⟨_, rfl⟩
        obtain ⟨en, hen⟩ : ∃ x, x = el.num := ⟨_, rfl⟩
        obtain ⟨et, het⟩ : ∃ x, x = el.text := ⟨_, rfl⟩
        rw [← hek] at e0 hjv
        rw [← hen] at e1 hjv
        rw [← het] at e2 hjv
        obtain ⟨nl, hnl⟩ : ∃ x, x = el.names.length := ⟨_, rfl⟩
        obtain ⟨il, hil⟩ : ∃ x, x = el.elems.length := ⟨_, rfl⟩
        rw [← hnl] at e3 hjv
        rw [← hil] at e4 hjv
        obtain ⟨w4, hw4⟩ : ∃ x, x = wr.alloc (.cells #[.int .i64 ek, .int .i64 en, .string et, .slice na' nl nc', .slice ia' il ic'] 25) := ⟨_, rfl⟩
        obtain ⟨q, hq⟩ : ∃ x, x = wr.heap.size := ⟨_, rfl⟩
        have hc4 : Chg [] wr w4 := by rw [hw4]; exact (Chg.refl _ _).alloc _
        have hbq : w4.heap[q]? = some (.cells #[.int .i64 ek, .int .i64 en, .string et, .slice na' nl nc', .slice ia' il ic'] 25 (0, 0)) := by rw [hw4, hq]; exact heap_at _ _ _ rfl
        obtain ⟨x0, x1, x2, x3, x4⟩ := box_kept q hbq (Chg.refl [] w4)
        have hbb4 := (hc4.block _ (lt_of_obj (box_bk Hbb.out (Nat.ne_of_gt Hb1.out) HB.out.2.1)) (by simp)).trans (box_bk Hbb.out (Nat.ne_of_gt Hb1.out) HB.out.2.1)
        obtain ⟨b0, b1, b2, b3, b4⟩ := box_kept B1 hbb4 (Chg.refl [] w4)
        replace q0 := (hc4.cell (lt_of_cell (cells_bk q0 Hg1.out HB.out.2.1)) (by simp)).trans (cells_bk q0 Hg1.out HB.out.2.1)
        have HB4 : Hid (BW B b m w4 ∧ ChgP (bldSet B b w4) w4 w4 ∧ B ≤ w4.heap.size) := Lib.hid ⟨HB.out.1.same hc4, ChgP.refl _ _, Nat.le_trans HB.out.2.2 hc4.size⟩
        have HW4 := Lib.hid (bset_new HB.out.2.1 hc4)
        have Hbb4 := Lib.hid hbb4
        have Hbq := Lib.hid hbq
        have Hq1 := Lib.hid (show b < q by rw [hq]; exact HB.out.1.lt.1)
        have Hjv := Lib.hid (hjv.kept (S := fun _ => False) hc4.p (fun _ _ h => h))
        have Hsm := Lib.hid hsm
        have HP4 := Lib.hid ((HP.out.kept HB.out.2.1 (bset_below Hp.out.2)).kept (S := fun _ => False) hc4.p (fun h => h))
        have lx := lt_of_cell x0
        have hM := HM.out
        rw [hd] at hM
        have hsz : m.length + (encL 5 i ns (es.drop i)).length = l.length + 1 + (encL 5 0 ns es).length := by have := congrArg List.length HM.out; simp at this; omega
        rw [hd] at hsz
        have hln := Hlen.out
        clear hesr hel hek hen het hnl hil hjv hpg hsm hc4 hbq hbb4 hd hnm hnms hpn
        go_upto_region 8 with fail
        rw [← hw4, ← hq]
        clear hw4 hq e0 e1 e2 e3 e4 HP HB HM
        obtain ⟨Hbb, HP⟩ := And.intro Hbb4 HP4
        by_cases hz : i = 0
        · have hip : ¬ ((0 : Int) < i) := by omega
          have hip2 : ¬ 0 < i := by omega
          clear hz
          rw [if_neg hip2, List.nil_append] at hM hsz
          have Hsz := Lib.hid hsz
          have HM2 := Lib.hid hM
          have Hln := Lib.hid hln
          clear hM hsz hln
          have x0' := (cells_bk q0 Hg1.out HB4.out.2.1)
          go_wp2_with fail
          refine (encS_any B b (m) nm _ HB4.out.1 (by have h1 := Hsz.out; have h2 := Hln.out; simp at h1 ⊢; omega) HB4.out.2.2 Hnm.out).mono ?_
          rintro e w6 ⟨rfl, h1, hc1, hz1⟩
          have HB6 : Hid (BW B b ((m) ++ encS nm) w6 ∧ ChgP (bldSet B b w4) w4 w6 ∧ B ≤ w6.heap.size) := Lib.hid ⟨h1, bset_trans HB4.out.2.1 hc1, by have := HB4.out.2.2; omega⟩
          clear h1 hc1 hz1
          obtain ⟨b0, b1, b2, b3, b4⟩ := box_kept B1 (box_bk Hbb.out (Nat.ne_of_gt Hb1.out) HB6.out.2.1) (Chg.refl [] _)
          obtain ⟨x0, x1, x2, x3, x4⟩ := box_kept q (box_bk Hbq.out (Nat.ne_of_gt Hq1.out) HB6.out.2.1) (Chg.refl [] _)
          go_wp2_with fail
          refine (wb_any B b ((m) ++ encS nm) 58 _ HB6.out.1 (by decide) (by have h1 := Hsz.out; have h2 := Hln.out; simp at h1 ⊢; omega) HB6.out.2.2).mono ?_
          rintro e w7 ⟨rfl, h1, hc1, hz1⟩
          have HB7 : Hid (BW B b (((m) ++ encS nm) ++ [58]) w7 ∧ ChgP (bldSet B b w4) w4 w7 ∧ B ≤ w7.heap.size) := Lib.hid ⟨h1, bset_trans HB6.out.2.1 hc1, by have := HB6.out.2.2; omega⟩
          clear h1 hc1 hz1
          obtain ⟨b0, b1, b2, b3, b4⟩ := box_kept B1 (box_bk Hbb.out (Nat.ne_of_gt Hb1.out) HB7.out.2.1) (Chg.refl [] _)
          obtain ⟨x0, x1, x2, x3, x4⟩ := box_kept q (box_bk Hbq.out (Nat.ne_of_gt Hq1.out) HB7.out.2.1) (Chg.refl [] _)
          go_wp2_with fail
          refine (ih f' (by omega) _ el _ (((m) ++ encS nm) ++ [58]) (Hjv.out.bk Hp.out.1 HB7.out.2.1) Hsm.out HB7.out.1 HB7.out.2.2 (HP.out.kept HB7.out.2.1 (bset_below Hp.out.2)) (by have h1 := Hsz.out; have h2 := Hln.out; simp at h1 ⊢; omega)).mono ?_
          rintro e w8 ⟨rfl, h1, hc1, hz1⟩
          have HB8 : Hid (BW B b ((((m) ++ encS nm) ++ [58]) ++ el.enc) w8 ∧ ChgP (bldSet B b w4) w4 w8 ∧ B ≤ w8.heap.size) := Lib.hid ⟨h1, bset_trans HB7.out.2.1 hc1, by have := HB7.out.2.2; omega⟩
          clear h1 hc1 hz1
          go_wp2_with fail
          exact ⟨⟨i + 1, _, by omega, by go_num, Lib.hid ⟨HB8.out.1, bset_trans HW4.out HB8.out.2.1, HB8.out.2.2⟩, Lib.hid (by have := HM2.out; simpa using this)⟩, by simp [intOf]; omega⟩
        · have hip : (0 : Int) < i := by omega
          have hip2 : 0 < i := by omega
          rw [if_pos hip2] at hM hsz
          have Hsz := Lib.hid hsz
          have HM2 := Lib.hid hM
          have Hln := Lib.hid hln
          clear hM hsz hln hz
          go_wp2_with fail
          refine (wb_any B b (m) 44 _ HB4.out.1 (by decide) (by have h1 := Hsz.out; have h2 := Hln.out; simp at h1 ⊢; omega) HB4.out.2.2).mono ?_
          rintro e w5 ⟨rfl, h1, hc1, hz1⟩
          have HB5 : Hid (BW B b (m ++ [44]) w5 ∧ ChgP (bldSet B b w4) w4 w5 ∧ B ≤ w5.heap.size) := Lib.hid ⟨h1, bset_trans HB4.out.2.1 hc1, by have := HB4.out.2.2; omega⟩
          clear h1 hc1 hz1
          obtain ⟨b0, b1, b2, b3, b4⟩ := box_kept B1 (box_bk Hbb.out (Nat.ne_of_gt Hb1.out) HB5.out.2.1) (Chg.refl [] _)
          obtain ⟨x0, x1, x2, x3, x4⟩ := box_kept q (box_bk Hbq.out (Nat.ne_of_gt Hq1.out) HB5.out.2.1) (Chg.refl [] _)
          have x0' := (cells_bk q0 Hg1.out HB5.out.2.1)
          go_wp2_with fail
          refine (encS_any B b (m ++ [44]) nm _ HB5.out.1 (by have h1 := Hsz.out; have h2 := Hln.out; simp at h1 ⊢; omega) HB5.out.2.2 Hnm.out).mono ?_
          rintro e w6 ⟨rfl, h1, hc1, hz1⟩
          have HB6 : Hid (BW B b ((m ++ [44]) ++ encS nm) w6 ∧ ChgP (bldSet B b w4) w4 w6 ∧ B ≤ w6.heap.size) := Lib.hid ⟨h1, bset_trans HB5.out.2.1 hc1, by have := HB5.out.2.2; omega⟩
          clear h1 hc1 hz1
          obtain ⟨b0, b1, b2, b3, b4⟩ := box_kept B1 (box_bk Hbb.out (Nat.ne_of_gt Hb1.out) HB6.out.2.1) (Chg.refl [] _)
          obtain ⟨x0, x1, x2, x3, x4⟩ := box_kept q (box_bk Hbq.out (Nat.ne_of_gt Hq1.out) HB6.out.2.1) (Chg.refl [] _)
          go_wp2_with fail
          refine (wb_any B b ((m ++ [44]) ++ encS nm) 58 _ HB6.out.1 (by decide) (by have h1 := Hsz.out; have h2 := Hln.out; simp at h1 ⊢; omega) HB6.out.2.2).mono ?_
          rintro e w7 ⟨rfl, h1, hc1, hz1⟩
          have HB7 : Hid (BW B b (((m ++ [44]) ++ encS nm) ++ [58]) w7 ∧ ChgP (bldSet B b w4) w4 w7 ∧ B ≤ w7.heap.size) := Lib.hid ⟨h1, bset_trans HB6.out.2.1 hc1, by have := HB6.out.2.2; omega⟩
          clear h1 hc1 hz1
          obtain ⟨b0, b1, b2, b3, b4⟩ := box_kept B1 (box_bk Hbb.out (Nat.ne_of_gt Hb1.out) HB7.out.2.1) (Chg.refl [] _)
          obtain ⟨x0, x1, x2, x3, x4⟩ := box_kept q (box_bk Hbq.out (Nat.ne_of_gt Hq1.out) HB7.out.2.1) (Chg.refl [] _)
          go_wp2_with fail
          refine (ih f' (by omega) _ el _ (((m ++ [44]) ++ encS nm) ++ [58]) (Hjv.out.bk Hp.out.1 HB7.out.2.1) Hsm.out HB7.out.1 HB7.out.2.2 (HP.out.kept HB7.out.2.1 (bset_below Hp.out.2)) (by have h1 := Hsz.out; have h2 := Hln.out; simp at h1 ⊢; omega)).mono ?_
          rintro e w8 ⟨rfl, h1, hc1, hz1⟩
          have HB8 : Hid (BW B b ((((m ++ [44]) ++ encS nm) ++ [58]) ++ el.enc) w8 ∧ ChgP (bldSet B b w4) w4 w8 ∧ B ≤ w8.heap.size) := Lib.hid ⟨h1, bset_trans HB7.out.2.1 hc1, by have := HB7.out.2.2; omega⟩
          clear h1 hc1 hz1
          go_wp2_with fail
          exact ⟨⟨i + 1, _, by omega, by go_num, Lib.hid ⟨HB8.out.1, bset_trans HW4.out HB8.out.2.1, HB8.out.2.2⟩, Lib.hid (by have := HM2.out; simpa using this)⟩, by simp [intOf]; omega⟩
      · obtain rfl : i = es.length := by omega
        have hM := HM.out
        rw [List.drop_length, encL, List.append_nil] at hM
        subst hM
        go_wp2_with fail
        refine (wb_any B b _ 125 wr HB.out.1 (by decide) (by have := Hlen.out; simp at this ⊢; omega) HB.out.2.2).mono ?_
        rintro e w2 ⟨rfl, h1, hc1, hz1⟩
        have HB2 : Hid (BW B b (l ++ encE (J.mk 5 n t ns es)) w2 ∧ ChgP (bldSet B b w) w w2) := Lib.hid ⟨by have := h1; rw [HE.out]; simpa using this, bset_pre Hcq.out (bset_trans HB.out.2.1 hc1)⟩
        clear h1 hc1 hz1
        go_wp2_with fail
        go_end0
        exact ⟨rfl, HB2.out.1, HB2.out.2, HB2.out.2.size⟩
  · have hkd : decide (k = 5) = false := decide_eq_false hk
    have hkb : (k == 5) = false := by simpa using hk
    rw [if_neg hk, if_neg hk] at HE
    have Hk := Lib.hid hk
    clear hk
    go_wp2_with fail
    refine (wb_any B b l 91 _ HBq.out.1 (by decide) (by have := Hlen.out; omega) HBq.out.2.2).mono ?_
    rintro e w1 ⟨rfl, h1, hc1, hz1⟩
    have HB1 : Hid (BW B b (l ++ [91]) w1 ∧ ChgP (bldSet B b wq) wq w1 ∧ B ≤ w1.heap.size) := Lib.hid ⟨h1, bset_trans HBq.out.2.1 hc1, by have := HBq.out.2.2; omega⟩
    clear h1 hc1 hz1
    obtain ⟨b0, b1, b2, b3, b4⟩ := box_kept B1 (box_bk Hbb.out (Nat.ne_of_gt Hb1.out) HB1.out.2.1) (Chg.refl [] _)
    have HM : Hid ((l ++ [91]) ++ encL k 0 ns (es.drop 0) = l ++ 91 :: encL k 0 ns es) := Lib.hid (by simp)
    go_wp2_with fail
    go_loopw [17] (fun ii wr => ∃ (i : Nat) (m : List UInt8), i ≤ es.length ∧ ii = .int .i64 (i : Nat) ∧ Hid (BW B b m wr ∧ ChgP (bldSet B b wq) wq wr ∧ B ≤ wr.heap.size) ∧ Hid (m ++ encL k i ns (es.drop i) = l ++ 91 :: encL k 0 ns es)) (fun ii _ => es.length - (intOf ii).toNat)
    case atStart => exact ⟨0, _, by omega, rfl, HB1, HM⟩
    case round =>
      obtain ⟨i, m, hi, rfl, HB, HM⟩ := hrel
      obtain ⟨b0, b1, b2, b3, b4⟩ := box_kept B1 (box_bk Hbb.out (Nat.ne_of_gt Hb1.out) HB.out.2.1) (Chg.refl [] _)
      by_cases hlt : i < es.length
      · have hij : (i : Int) < es.length := by omega
        have hi0 : (0 : Int) ≤ i := by omega
        have hd := encL_drop (k := k) (ns := ns) hlt
        rw [if_neg Hk.out, List.append_nil] at hd
        have hesr : SlR p 5 (rdJ p f) wr (.slice a es.length cap) es := SlR.imp Hes.out (fun _ h => h) fun ad x hpx hx => rdJ.kept HB.out.2.1 (fun g hg => bset_below (Hp.out.1 g hg)) hpx hx
        obtain ⟨g, off, na', nc', ia', ic', rfl, hpg, e0, e1, e2, e3, e4, f', rfl, hjv⟩ := elem_at hesr hlt
        obtain ⟨el, hel⟩ : ∃ el, el = es[i] := ⟨_, rfl⟩
        rw [← hel] at e0 e1 e2 e3 e4 hjv hd
        have hsm : Sm el := Hs.out.elem (hel ▸ List.getElem_mem hlt)
        obtain ⟨ek, hek⟩ : ∃ x, x = el.kind := ⟨_, rfl⟩
        obtain ⟨en, hen⟩ : ∃ x, x = el.num := ⟨_, rfl⟩
        obtain ⟨et, het⟩ : ∃ x, x = el.text := ⟨_, rfl⟩
        rw [← hek] at e0 hjv
        rw [← hen] at e1 hjv
        rw [← het] at e2 hjv
        obtain ⟨nl, hnl⟩ : ∃ x, x = el.names.length := ⟨_, rfl⟩
        obtain ⟨il, hil⟩ : ∃ x, x = el.elems.length := ⟨_, rfl⟩
        rw [← hnl] at e3 hjv
        rw [← hil] at e4 hjv
        obtain ⟨w4, hw4⟩ : ∃ x, x = wr.alloc (.cells #[.int .i64 ek, .int .i64 en, .string et, .slice na' nl nc', .slice ia' il ic'] 25) := ⟨_, rfl⟩
        obtain ⟨q, hq⟩ : ∃ x, x = wr.heap.size := ⟨_, rfl⟩
        have hc4 : Chg [] wr w4 := by rw [hw4]; exact (Chg.refl _ _).alloc _
        have hbq : w4.heap[q]? = some (.cells #[.int .i64 ek, .int .i64 en, .string et, .slice na' nl nc', .slice ia' il ic'] 25 (0, 0)) := by rw [hw4, hq]; exact heap_at _ _ _ rfl
        obtain ⟨x0, x1, x2, x3, x4⟩ := box_kept q hbq (Chg.refl [] w4)
        have hbb4 := (hc4.block _ (lt_of_obj (box_bk Hbb.out (Nat.ne_of_gt Hb1.out) HB.out.2.1)) (by simp)).trans (box_bk Hbb.out (Nat.ne_of_gt Hb1.out) HB.out.2.1)
        obtain ⟨b0, b1, b2, b3, b4⟩ := box_kept B1 hbb4 (Chg.refl [] w4)
        have HB4 : Hid (BW B b m w4 ∧ ChgP (bldSet B b w4) w4 w4 ∧ B ≤ w4.heap.size) := Lib.hid ⟨HB.out.1.same hc4, ChgP.refl _ _, Nat.le_trans HB.out.2.2 hc4.size⟩
        have HW4 := Lib.hid (bset_new HB.out.2.1 hc4)
        have Hbb4 := Lib.hid hbb4
        have Hbq := Lib.hid hbq
        have Hq1 := Lib.hid (show b < q by rw [hq]; exact HB.out.1.lt.1)
        have Hjv := Lib.hid (hjv.kept (S := fun _ => False) hc4.p (fun _ _ h => h))
        have Hsm := Lib.hid hsm
        have HP4 := Lib.hid ((HP.out.kept HB.out.2.1 (bset_below Hp.out.2)).kept (S := fun _ => False) hc4.p (fun h => h))
        have lx := lt_of_cell x0
        have hM := HM.out
        rw [hd] at hM
        have hsz : m.length + (encL k i ns (es.drop i)).length = l.length + 1 + (encL k 0 ns es).length := by have := congrArg List.length HM.out; simp at this; omega
        rw [hd] at hsz
        have hln := Hlen.out
        clear hesr hel hek hen het hnl hil hjv hpg hsm hc4 hbq hbb4 hd 
        go_upto_region 8 with fail
        rw [← hw4, ← hq]
        clear hw4 hq e0 e1 e2 e3 e4 HP HB HM
        obtain ⟨Hbb, HP⟩ := And.intro Hbb4 HP4
        by_cases hz : i = 0
        · have hip : ¬ ((0 : Int) < i) := by omega
          have hip2 : ¬ 0 < i := by omega
          clear hz
          rw [if_neg hip2, List.nil_append] at hM hsz
          have Hsz := Lib.hid hsz
          have HM2 := Lib.hid hM
          have Hln := Lib.hid hln
          clear hM hsz hln
          go_wp2_with fail
          refine (ih f' (by omega) _ el _ (m) (Hjv.out.bk Hp.out.1 HB4.out.2.1) Hsm.out HB4.out.1 HB4.out.2.2 (HP.out.kept HB4.out.2.1 (bset_below Hp.out.2)) (by have h1 := Hsz.out; have h2 := Hln.out; simp at h1 ⊢; omega)).mono ?_
          rintro e w8 ⟨rfl, h1, hc1, hz1⟩
          have HB8 : Hid (BW B b ((m) ++ el.enc) w8 ∧ ChgP (bldSet B b w4) w4 w8 ∧ B ≤ w8.heap.size) := Lib.hid ⟨h1, bset_trans HB4.out.2.1 hc1, by have := HB4.out.2.2; omega⟩
          clear h1 hc1 hz1
          go_wp2_with fail
          exact ⟨⟨i + 1, _, by omega, by go_num, Lib.hid ⟨HB8.out.1, bset_trans HW4.out HB8.out.2.1, HB8.out.2.2⟩, Lib.hid (by have := HM2.out; simpa using this)⟩, by simp [intOf]; omega⟩
        · have hip : (0 : Int) < i := by omega
          have hip2 : 0 < i := by omega
          rw [if_pos hip2] at hM hsz
          have Hsz := Lib.hid hsz
          have HM2 := Lib.hid hM
          have Hln := Lib.hid hln
          clear hM hsz hln hz
          go_wp2_with fail
          refine (wb_any B b (m) 44 _ HB4.out.1 (by decide) (by have h1 := Hsz.out; have h2 := Hln.out; simp at h1 ⊢; omega) HB4.out.2.2).mono ?_
          rintro e w5 ⟨rfl, h1, hc1, hz1⟩
          have HB5 : Hid (BW B b (m ++ [44]) w5 ∧ ChgP (bldSet B b w4) w4 w5 ∧ B ≤ w5.heap.size) := Lib.hid ⟨h1, bset_trans HB4.out.2.1 hc1, by have := HB4.out.2.2; omega⟩
          clear h1 hc1 hz1
          obtain ⟨b0, b1, b2, b3, b4⟩ := box_kept B1 (box_bk Hbb.out (Nat.ne_of_gt Hb1.out) HB5.out.2.1) (Chg.refl [] _)
          obtain ⟨x0, x1, x2, x3, x4⟩ := box_kept q (box_bk Hbq.out (Nat.ne_of_gt Hq1.out) HB5.out.2.1) (Chg.refl [] _)
          go_wp2_with fail
          refine (ih f' (by omega) _ el _ (m ++ [44]) (Hjv.out.bk Hp.out.1 HB5.out.2.1) Hsm.out HB5.out.1 HB5.out.2.2 (HP.out.kept HB5.out.2.1 (bset_below Hp.out.2)) (by have h1 := Hsz.out; have h2 := Hln.out; simp at h1 ⊢; omega)).mono ?_
          rintro e w8 ⟨rfl, h1, hc1, hz1⟩
          have HB8 : Hid (BW B b ((m ++ [44]) ++ el.enc) w8 ∧ ChgP (bldSet B b w4) w4 w8 ∧ B ≤ w8.heap.size) := Lib.hid ⟨h1, bset_trans HB5.out.2.1 hc1, by have := HB5.out.2.2; omega⟩
          clear h1 hc1 hz1
          go_wp2_with fail
          exact ⟨⟨i + 1, _, by omega, by go_num, Lib.hid ⟨HB8.out.1, bset_trans HW4.out HB8.out.2.1, HB8.out.2.2⟩, Lib.hid (by have := HM2.out; simpa using this)⟩, by simp [intOf]; omega⟩
      · obtain rfl : i = es.length := by omega
        have hM := HM.out
        rw [List.drop_length, encL, List.append_nil] at hM
        subst hM
        go_wp2_with fail
        refine (wb_any B b _ 93 wr HB.out.1 (by decide) (by have := Hlen.out; simp at this ⊢; omega) HB.out.2.2).mono ?_
        rintro e w2 ⟨rfl, h1, hc1, hz1⟩
        have HB2 : Hid (BW B b (l ++ encE (J.mk k n t ns es)) w2 ∧ ChgP (bldSet B b w) w w2) := Lib.hid ⟨by have := h1; rw [HE.out]; simpa using this, bset_pre Hcq.out (bset_trans HB.out.2.1 hc1)⟩
        clear h1 hc1 hz1
        go_wp2_with fail
        go_end0
        exact ⟨rfl, HB2.out.1, HB2.out.2, HB2.out.2.size⟩
end Go.Proofs.YtiklgipcgdgkoaaDoor.Jv
