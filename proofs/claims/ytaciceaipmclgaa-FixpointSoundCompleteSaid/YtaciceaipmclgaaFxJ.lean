/- Derive. -/
import Derived.Test.YtaciceaipmclgaaFxK
namespace Go.Proofs.Ytaciceaipmclgaa
open Go.RowKit Go.Shelf
set_option linter.unusedVariables false
set_option linter.unusedSimpArgs false
attribute [local go_sem] Oper.semAt_some
def DrvPost (R : Rules) (e st : Nat) (w : World) (o : Ending) (w' : World) : Prop :=
  (∃ vp Q, o = .returned (.tuple #[vp, .int .i64 0]) ∧ StepL (fun g => w.heap.size ≤ g ∧ g < w'.heap.size) w' vp e Q ∧ ValidP R e Q ∧ 0 < Q.length ∧ (Q.getD (Q.length - 1) dPS).1 = st ∧ Chg [] w w') ∨
  (o = .returned (.tuple #[.slice none 0 0, .int .i64 5]) ∧ (∃ St, DInv R e St ∧ DoneP R e St ∧ dOf St st = false) ∧ Chg [] w w')
set_option maxRecDepth 100000 in
set_option maxHeartbeats 4000000 in
theorem derive_in (p : Nat → Prop) (w : World) (R : Rules) (v : Value) (e st : Nat) (hR : RulesAt p w v R) (hok : Okr R) (he : e < 20) (hst : st < R.length) :
    CallsIn Fence.wide 6 Try.prog 15 #[v, .int .i64 (st : Int), .int .i64 (e : Int)] w (DrvPost R e st w) := by
  have hn60 := hok.size
  obtain ⟨av, capv, rfl⟩ : ∃ a cap, v = .slice a R.length cap := by obtain ⟨a, cap, h, _⟩ := hR; exact ⟨a, cap, h⟩
  obtain ⟨i0, hi0, hz0, hz1, hz2⟩ := info_parts Try.infoDer
  have Hi0 := Lib.hid hi0
  have Hz0 := Lib.hid hz0
  have Hz1 := Lib.hid hz1
  have Hz2 := Lib.hid hz2
  have hmk := run_make_row' (P := Try.prog) 61 4 (.bool false) 1 Try.underlying61 Try.infoBool rfl .i64 .i64 R.length (by omega) (by omega)
  have hc0 : Chg [] w ((w.alloc (.cells #[.slice av R.length capv] 22)).alloc (.cells #[.int .i64 (st : Int)] 3)) := ((Chg.refl [] w).alloc _).alloc _
  have b0 : ((w.alloc (.cells #[.slice av R.length capv] 22)).alloc (.cells #[.int .i64 (st : Int)] 3)).cell? ⟨w.heap.size, 0, none⟩ = some (.slice av R.length capv) := by
    have h0 : (w.alloc (.cells #[.slice av R.length capv] 22)).cell? ⟨w.heap.size, 0, none⟩ = some (.slice av R.length capv) := cell_of_heap (heap_at _ _ _ rfl) rfl
    exact (((Chg.refl [] (w.alloc (.cells #[.slice av R.length capv] 22))).alloc _).cell (p := ⟨w.heap.size, 0, none⟩) (lt_of_cell h0) (by simp)).trans h0
  have b1 : ((w.alloc (.cells #[.slice av R.length capv] 22)).alloc (.cells #[.int .i64 (st : Int)] 3)).cell? ⟨w.heap.size + 1, 0, none⟩ = some (.int .i64 (st : Int)) := cell_of_heap (heap_at _ _ _ (by simp)) rfl
  have hR0 := hR.kept hc0 (by simp)
  have Hok := Lib.hid hok
  have Hmk := Lib.hid hmk
  have hst1 : (st : Int) < (R.length : Int) := by omega
  have d0 : decide ((st : Int) < 0) = false := by simp
  have d1 : decide ((R.length : Int) ≤ (st : Int)) = false := by simp; omega
  have d2 : decide ((e : Int) < 0) = false := by simp
  have d3 : decide ((20 : Int) ≤ (e : Int)) = false := by simp; omega
  have d1' : decide (R.length ≤ st) = false := by simp; omega
  have d3' : decide (20 ≤ e) = false := by simp; omega
  clear hok hi0 hz0 hz1 hz2 hmk hR
  refine callsIn_of_wp_marks Try.func15 rfl trivial ?_ rfl
  simp only [Try.ntmps15, List.size_toArray, List.length_cons, List.length_nil, Nat.reduceAdd, Nat.reduceSub, Array.replicate_succ, Array.replicate_zero, List.push_toArray, List.append_toArray, List.nil_append, List.cons_append]
  gi_wp2
  obtain ⟨w0, hw0⟩ : ∃ x, x = (w.alloc (.cells #[.slice av R.length capv] 22)).alloc (.cells #[.int .i64 (st : Int)] 3) := ⟨_, rfl⟩
  rw [← hw0]
  rw [← hw0] at b0 b1 hc0 hR0
  clear hw0
  refine ⟨trivial, (callsIn_wide.2 (check_any p w0 R _ hR0)).mono ?_⟩
  rintro o w1 ⟨c, rfl, hc, c1⟩
  obtain rfl := hc.2 Hok.out
  have b0 := (c1.cell (p := ⟨w.heap.size, 0, none⟩) (lt_of_cell b0) (by simp)).trans b0
  have b1 := (c1.cell (p := ⟨w.heap.size + 1, 0, none⟩) (lt_of_cell b1) (by simp)).trans b1
  have hR1 := hR0.kept c1 (by simp)
  have hc1 := hc0.trans c1
  have HR1 := Lib.hid hR1
  have Hc1 := Lib.hid hc1
  clear hc c1 hR0 hR1 hc0 hc1
  gi_wp2
  refine ⟨trivial, (callsIn_wide.2 (derivations_any p w1 R _ e HR1.out Hok.out he)).mono ?_⟩
  rintro o w2 ⟨vs, St, rfl, hinv, hdone, hown, c2⟩
  obtain ⟨asl, caps, rfl⟩ := own_shape hown
  have hlen := hinv.len
  have hcapm : caps ≤ maxLen := by
    rcases hown.2 with ⟨hv, _⟩ | ⟨g, cap, cur, hv, h1, h2, h3, h4, h5, h6⟩
    · simp only [Value.slice.injEq] at hv; unfold maxLen; omega
    · simp only [Value.slice.injEq] at hv; omega
  have hSt := stepL_of_own hown (by omega) (fun a n c h => by cases h; exact hcapm)
  have b0 := (c2.cell (p := ⟨w.heap.size, 0, none⟩) (lt_of_cell b0) (by simp)).trans b0
  have b1 := (c2.cell (p := ⟨w.heap.size + 1, 0, none⟩) (lt_of_cell b1) (by simp)).trans b1
  have HSt := Lib.hid hSt
  have HR2 := Lib.hid (HR1.out.kept c2 (by simp))
  have Hc2 := Lib.hid (Hc1.out.trans c2)
  have Hinv := Lib.hid hinv
  have Hdone := Lib.hid hdone
  clear hSt hinv hdone hown c2 HR1 Hc1
  gi_wp2
  refine ⟨trivial, (callsIn_wide.2 (idxS_any _ w2 (w.heap.size + 1) st _ e St HSt.out b1)).mono ?_⟩
  rintro o w3 ⟨⟨z, rfl, hz⟩, c3⟩
  have b0 := (c3.cell (p := ⟨w.heap.size, 0, none⟩) (lt_of_cell b0) (by simp)).trans b0
  have b1 := (c3.cell (p := ⟨w.heap.size + 1, 0, none⟩) (lt_of_cell b1) (by simp)).trans b1
  have HSt3 := Lib.hid (HSt.out.kept c3 (by simp))
  have HR3 := Lib.hid (HR2.out.kept c3 (by simp))
  have Hc3 := Lib.hid (Hc2.out.trans c3)
  have hw23 := c3.size
  clear c3 HR2 Hc2 HSt
  have l0 : w.heap.size < w3.heap.size := lt_of_cell b0
  have l1 : w.heap.size + 1 < w3.heap.size := lt_of_cell b1
  rcases hz with ⟨en, hen, rfl, heq⟩ | ⟨rfl, hnone⟩
  · have hstd : (St.getD en dPS).1 = st := by simpa using heq
    have Hstd := Lib.hid hstd
    have hen0 : (0 : Int) ≤ (en : Int) := by omega
    have hmk' := Hmk.out w3
    have hrowD := World.rowIs_made w3 (.bool false) R.length 4
    obtain ⟨ga, oa, rfl, hca0⟩ : ∃ g off, asl = some ⟨g, off, none⟩ ∧ (∀ j, j < St.length → w3.cell? ⟨g, off + j * 3, none⟩ = some (.int .i64 ((St.getD j dPS).1 : Int)) ∧ w3.cell? ⟨g, off + j * 3 + 1, none⟩ = some (.int .i64 ((St.getD j dPS).2 : Int)) ∧ w3.cell? ⟨g, off + j * 3 + 2, none⟩ = some (.int .i64 (e : Int))) := by
      obtain ⟨_, _, hv, _, _, _, hcc⟩ := HSt3.out
      obtain ⟨g, off, rfl, hp, hc⟩ := hcc (by omega)
      cases hv
      exact ⟨g, off, rfl, hc⟩
    have Hca := Lib.hid hca0
    have hcaps : en + 1 ≤ caps := by obtain ⟨_, _, hv, h1, _⟩ := HSt3.out; cases hv; omega
    unfold maxLen at hcapm
    have hen1 : (en : Int) + 1 ≤ (caps : Int) := by omega
    clear hca0
    have f0 := ((hrowD.alloc (.cells #[.slice (some ⟨w3.heap.size, 0, none⟩) R.length R.length] 61)).cell hst)
    have f1 := ((hrowD.alloc (.cells #[.slice (some ⟨w3.heap.size, 0, none⟩) R.length R.length] 61)).frozen st)
    clear heq hstd
    gi_wp2
    refine ⟨trivial, (back_in (some ⟨ga, oa, none⟩) (en + 1) caps _).mono ?_⟩
    rintro o w' ⟨rfl, rfl⟩
    clear f0 f1 hmk' hrowD
    gi_wp2
    obtain ⟨WL, hWL⟩ : ∃ x, x = startW R.length st ga oa en caps w3 := ⟨_, rfl⟩
    obtain ⟨hS0, hB3, hsz⟩ := BwS.start R.length e st ga oa en caps w3 hst
    obtain ⟨M, hM⟩ : ∃ x, x = w3.heap.size := ⟨_, rfl⟩
    have hga : ga < M := by rw [hM]; exact lt_of_cell (Hca.out 0 (by omega)).1
    rw [← hWL] at hS0 hB3 hsz
    rw [← hM] at hS0 hB3 hsz
    change Code.wpIn _ _ _ _ _ _ (startW R.length st ga oa en caps w3)
    rw [← hWL, ← hM]
    have hw3M : w3.heap.size ≤ M := by omega
    have hI0 : BwI R e St en M w3 [] WL := ⟨_, [], _, hS0, by simp, fun _ => BW.start (by rw [Hstd.out]; simp)⟩
    have hcaL : ∀ j, j ≤ en → WL.cell? ⟨ga, oa + j * 3, none⟩ = some (.int .i64 ((St.getD j dPS).1 : Int)) ∧ WL.cell? ⟨ga, oa + j * 3 + 1, none⟩ = some (.int .i64 ((St.getD j dPS).2 : Int)) ∧ WL.cell? ⟨ga, oa + j * 3 + 2, none⟩ = some (.int .i64 (e : Int)) := fun j hj => by
      obtain ⟨q0, q1, q2⟩ := Hca.out j (by omega)
      have lg : ga < w3.heap.size := by omega
      exact ⟨(hS0.chg.cell (p := ⟨ga, oa + j * 3, none⟩) lg (by simp)).trans q0, (hS0.chg.cell (p := ⟨ga, oa + j * 3 + 1, none⟩) lg (by simp)).trans q1, (hS0.chg.cell (p := ⟨ga, oa + j * 3 + 2, none⟩) lg (by simp)).trans q2⟩
    clear hM
    have Hst := back_stops (M + 3) ga oa en caps e St hen (by omega) hcaps (by omega) WL (by omega) (by omega) hB3.cell hcaL
    clear hWL hS0 hB3 hcaL
    refine wpIn_range_boxed rfl (by omega) (gf := 40) (lb := #[.pointer (some ⟨M + 3, 0, none⟩)]) rfl trivial (enters_of Try.func40 (by kernel_rfl) rfl)
      Hst Keep2.trans (Keep2.put (by omega) (by omega)) (Below.refl _ _) (fun _ => rfl) (BwI R e St en M w3) (fun _ _ _ => False) (BwI.own R e St en M w3 _ (by omega)) (fun _ _ _ _ _ hs _ _ => hs) hI0
      (fun x gd T => ((T.setIfInBounds 57 (.int .i64 (x.1 : Int))).setIfInBounds 58 (.agg #[.int .i64 ((St.getD x.1 dPS).1 : Int), .int .i64 ((St.getD x.1 dPS).2 : Int), .int .i64 (e : Int)])).setIfInBounds 14 (.pointer (some ⟨gd, 0, none⟩)))
      (GBox e St en M) (fun x gd => GBox.own e St en M x gd _) ?assign ?body ?done ?stop
    case assign =>
      intro l pre x W K hI hK
      simp only [bkArgs]
      have hK' : ∀ sk, St.getD x.1 dPS = sk → ∀ gd W', KeepsFrom WL.heap.size W W' → Keep2 (M + 3) ga W W' → BwI R e St en M w3 pre W' → (W'.heap[gd]? = some (.cells #[.int .i64 (sk.1 : Int), .int .i64 (sk.2 : Int), .int .i64 (e : Int)] 59 (0, 0)) ∧ M + 4 ≤ gd ∧ ∃ v, Boxed W' (M + 2) 41 v ∧ v.ownBlock ≠ some gd) → _ := fun sk hsk gd W' k1 k2 k3 k4 => hK gd W' k1 k2 k3 (by unfold GBox; rw [hsk]; exact k4)
      obtain ⟨sk, hsk⟩ : ∃ sk, St.getD x.1 dPS = sk := ⟨_, rfl⟩
      have hK2 := hK' sk hsk
      rw [hsk] at hK2 ⊢
      obtain ⟨nd, acc, v, hs, hl, hb⟩ := hI
      have hsz' := hs.sz
      have HK := Lib.hid hK2
      clear hK hK' hK2 hsk
      gi_wp2
      have hca := (Chg.refl [] W).alloc (.cells #[.int .i64 (sk.1 : Int), .int .i64 (sk.2 : Int), .int .i64 (e : Int)] 59)
      exact HK.out W.heap.size _ (keepsFrom_of_chg hca (fun k hk => by cases hk)) ⟨hca.block _ (by omega) (by simp), hca.block _ (by omega) (by simp)⟩ ⟨nd, acc, v, hs.kept hca, hl, hb⟩
        ⟨heap_at _ _ _ rfl, hsz', v, hs.box.alloc _, fun h => by have := (ownsRow_lt hs.row h).2; omega⟩
    case body =>
      rintro l pre x gd W ⟨nd, acc, v, hs, hl, hb⟩ ⟨hgd, hgM, v', hv', hne⟩ hlt
      obtain rfl : v' = v := by
        have h1 : W.heap[M + 2]? = _ := hv'
        rw [show W.heap[M + 2]? = _ from hs.box] at h1
        simpa using h1.symm
      have hxl : x.1 < St.length := by have := x.2; omega
      obtain ⟨hsR, hkR, _⟩ := Hinv.out.ok x.1 hxl
      obtain ⟨sk, hsk⟩ : ∃ s, St.getD x.1 dPS = s := ⟨_, rfl⟩
      obtain ⟨s, k⟩ := sk
      rw [hsk] at hgd hsR hkR
      simp only at hgd hsR hkR
      have Hsk := Lib.hid hsk
      have g0 : W.cell? ⟨gd, 0, none⟩ = some (.int .i64 (s : Int)) := cell_of_heap hgd rfl
      have g1 : W.cell? ⟨gd, 1, none⟩ = some (.int .i64 (k : Int)) := cell_of_heap hgd rfl
      have g2 : W.cell? ⟨gd, 2, none⟩ = some (.int .i64 (e : Int)) := cell_of_heap hgd rfl
      have c11 := hs.nbx.cell
      have n0 := hs.nrow.cell hsR
      have c12 := hs.box.cell
      have f12 := hs.box.frozen
      have lM := hs.sz
      obtain ⟨av', cv, rfl⟩ := own_shape hs.row
      have hs0 : (0 : Int) ≤ (s : Int) := by omega
      have hs1 : (s : Int) < (R.length : Int) := by omega
      have Hb := Lib.hid hb
      have Hs := Lib.hid hs
      have Hgd := Lib.hid hgd
      have Hne := Lib.hid hne
      have lgd : gd < W.heap.size := lt_of_cell g0
      clear hb hs hgd hne hv' hsk Hst hI0
      simp only [List.setIfInBounds_toArray, List.set_cons_zero, List.set_cons_succ]
      cases hnd : nd s
      · rw [hnd] at n0
        have Hnd := Lib.hid hnd
        clear hnd
        gi_wp2
        exact ⟨KeepsFrom.refl _ _, Keep2.refl _ _ _, BwI.skip Hs.out hl hlt hen Hb.out (by rw [Hsk.out]; exact Hnd.out)⟩
      · rw [hnd] at n0
        clear hnd
        have lal : acc.length ≤ 60 := by omega
        gi_wp2_with (gi_at_builtin; refine wpListIn_append_own _ rfl _ _ 41 rfl (M + 4) 59 i0 (.agg #[.int .i64 0, .int .i64 0, .int .i64 0]) 3 24 Try.underlying41 Hi0.out Hz0.out Hz1.out Hz2.out rfl (by decide) (.slice av' acc.length cv) acc.length (flatD e acc) rfl (Hs.out.row.alloc _) ⟨W.heap.size, 0, none⟩ 1 1 [nv s, nv k, nv e] rfl rfl (cell_three_new _ _ _ _ _) (by simp [nv, Value.oneCell']) (by unfold maxLen; omega) (by omega) (by simp; omega) ?_; intro v8 w8 hown8 hgr8 hnil8; obtain ⟨a8, cap8, rfl⟩ := own_shape hown8; obtain ⟨hB8, hS5, hC5⟩ := Hs.out.push hw3M (s, k) hown8 hgr8; have k12 := hB8.cell; have kf12 := hB8.frozen; have HS5 := Lib.hid hS5; have HC5 := Lib.hid hC5; clear hown8 hgr8 hnil8 hB8 hS5 hC5)
        have hgd5 : (w8.setCell ⟨M + 2, 0, none⟩ (.slice a8 (acc.length + 1) cap8)).heap[gd]? = _ := (HC5.out.block gd lgd (fun hm => by
          rw [List.mem_append] at hm
          rcases hm with hm | hm
          · simp only [List.mem_cons, List.not_mem_nil, or_false] at hm; omega
          · exact Hne.out (by simpa using hm))).trans Hgd.out
        obtain ⟨W5, hW5⟩ : ∃ x, x = w8.setCell ⟨M + 2, 0, none⟩ (.slice a8 (acc.length + 1) cap8) := ⟨_, rfl⟩
        rw [← hW5] at HS5 HC5 hgd5
        rw [← hW5]
        clear hW5
        have r0 : W5.cell? ⟨gd, 0, none⟩ = some (.int .i64 (s : Int)) := cell_of_heap hgd5 rfl
        have r1 : W5.cell? ⟨gd, 1, none⟩ = some (.int .i64 (k : Int)) := cell_of_heap hgd5 rfl
        have rb := (HS5.out.chg.cell (p := ⟨w.heap.size, 0, none⟩) (lt_of_cell b0) (by simp)).trans b0
        obtain ⟨gr, offr, u, rfl, t0w, hlr⟩ := HR3.out.at s hsR
        have hmem := getD_memb hsR
        have hidx := Hok.out.idx _ hmem
        have hall := Hok.out.all _ hmem
        obtain ⟨ls, hls⟩ : ∃ l, R.getD s [] = l := ⟨_, rfl⟩
        rw [hls] at hkR hlr hidx hall
        obtain ⟨au, capu, rfl, hml⟩ := hlr.shape
        obtain ⟨gl, offl, ur, rfl, t1w, t2w, hints⟩ := hlr.at k hkR
        have t0 := (HS5.out.chg.cell (p := ⟨gr, offr + s, none⟩) (lt_of_cell t0w) (by simp)).trans t0w
        have t2 := (HS5.out.chg.cell (p := ⟨gl, offl + k * 2 + 1, none⟩) (lt_of_cell t2w) (by simp)).trans t2w
        obtain ⟨rl, hrl⟩ : ∃ r, ls.getD k (0, []) = r := ⟨_, rfl⟩
        have hrm : rl ∈ ls := by rw [← hrl]; exact getD_mem hkR (0, [])
        have hidx := hidx rl hrm
        have hall := hall rl hrm
        rw [hrl] at hints
        have hrule : ruleAt R (St.getD x.1 dPS) = rl := by rw [Hsk.out]; unfold ruleAt; rw [hls, hrl]
        obtain ⟨ai, ci, rfl⟩ := SlF.shape hints
        unfold maxLen at hml
        have Hints := Lib.hid hints
        have Hrule := Lib.hid hrule
        have Hidx := Lib.hid hidx
        have hk0 : (0 : Int) ≤ (k : Int) := by omega
        have hk1 : (k : Int) < (ls.length : Int) := by omega
        have hSS : W5.cell? ⟨gd, 0, none⟩ = some (.int .i64 (s : Int)) ∧ W5.cell? ⟨gd, 1, none⟩ = some (.int .i64 (k : Int)) ∧ W5.cell? ⟨w.heap.size, 0, none⟩ = some (.slice (some ⟨gr, offr, none⟩) R.length capv) ∧ W5.cell? ⟨gr, offr + s, none⟩ = some (.slice (some ⟨gl, offl, none⟩) ls.length capu) ∧ W5.cell? ⟨gl, offl + k * 2 + 1, none⟩ = some (.slice ai rl.2.length ci) := ⟨r0, r1, rb, t0, t2⟩
        clear hls hlr hrl hrm hidx hints hrule r0 r1 rb t0 t1w t2w t0w t2 g0 g1 g2 c11 n0 c12 f12 k12 kf12 hgd5 hmem
        refine wpIn_region_round (S := fun w' => w'.cell? ⟨gd, 0, none⟩ = some (.int .i64 (s : Int)) ∧ w'.cell? ⟨gd, 1, none⟩ = some (.int .i64 (k : Int)) ∧ w'.cell? ⟨w.heap.size, 0, none⟩ = some (.slice (some ⟨gr, offr, none⟩) R.length capv) ∧ w'.cell? ⟨gr, offr + s, none⟩ = some (.slice (some ⟨gl, offl, none⟩) ls.length capu) ∧ w'.cell? ⟨gl, offl + k * 2 + 1, none⟩ = some (.slice ai rl.2.length ci)) (by kernel_rfl) (by kernel_rfl) (fun ⟨a, w, h⟩ => h) ?_
        refine wpAnyH_take (i := 0) (v := .slice (some ⟨gr, offr, none⟩) R.length capv) rfl (by kernel_rfl) (by kernel_rfl) (by kernel_rfl) (fun _ _ _ h => h) (Or.inl ⟨by rfl, fun w hS => by obtain ⟨z1, z2, z3, z4, z5⟩ := hS; go_simp⟩) hSS ?_
        simp only [List.getElem_toArray, List.getElem_cons_zero, List.getElem_cons_succ, Act.put, List.setIfInBounds_toArray, List.set_cons_zero, List.set_cons_succ]
        refine wpAnyH_take (i := 1) (v := .pointer (some ⟨gd, 0, none⟩)) rfl (by kernel_rfl) (by kernel_rfl) (by kernel_rfl) (fun _ _ _ h => h) (Or.inl ⟨by rfl, fun w hS => by obtain ⟨z1, z2, z3, z4, z5⟩ := hS; go_simp⟩) hSS ?_
        simp only [List.getElem_toArray, List.getElem_cons_zero, List.getElem_cons_succ, Act.put, List.setIfInBounds_toArray, List.set_cons_zero, List.set_cons_succ]
        refine wpAnyH_take (i := 2) (v := .int .i64 (s : Int)) rfl (by kernel_rfl) (by kernel_rfl) (by kernel_rfl) (fun _ _ _ h => h) (Or.inl ⟨by rfl, fun w hS => by obtain ⟨z1, z2, z3, z4, z5⟩ := hS; go_simp⟩) hSS ?_
        simp only [List.getElem_toArray, List.getElem_cons_zero, List.getElem_cons_succ, Act.put, List.setIfInBounds_toArray, List.set_cons_zero, List.set_cons_succ]
        refine wpAnyH_take (i := 3) (v := .pointer (some ⟨gr, offr + s, none⟩)) rfl (by kernel_rfl) (by kernel_rfl) (by kernel_rfl) (fun _ _ _ h => h) (Or.inl ⟨by rfl, fun w hS => by obtain ⟨z1, z2, z3, z4, z5⟩ := hS; go_simp⟩) hSS ?_
        simp only [List.getElem_toArray, List.getElem_cons_zero, List.getElem_cons_succ, Act.put, List.setIfInBounds_toArray, List.set_cons_zero, List.set_cons_succ]
        refine wpAnyH_take (i := 4) (v := .slice (some ⟨gl, offl, none⟩) ls.length capu) rfl (by kernel_rfl) (by kernel_rfl) (by kernel_rfl) (fun _ _ _ h => h) (Or.inl ⟨by rfl, fun w hS => by obtain ⟨z1, z2, z3, z4, z5⟩ := hS; go_simp⟩) hSS ?_
        simp only [List.getElem_toArray, List.getElem_cons_zero, List.getElem_cons_succ, Act.put, List.setIfInBounds_toArray, List.set_cons_zero, List.set_cons_succ]
        refine wpAnyH_take (i := 5) (v := .pointer (some ⟨gd, 1, none⟩)) rfl (by kernel_rfl) (by kernel_rfl) (by kernel_rfl) (fun _ _ _ h => h) (Or.inl ⟨by rfl, fun w hS => by obtain ⟨z1, z2, z3, z4, z5⟩ := hS; go_simp⟩) hSS ?_
        simp only [List.getElem_toArray, List.getElem_cons_zero, List.getElem_cons_succ, Act.put, List.setIfInBounds_toArray, List.set_cons_zero, List.set_cons_succ]
        refine wpAnyH_take (i := 6) (v := .int .i64 (k : Int)) rfl (by kernel_rfl) (by kernel_rfl) (by kernel_rfl) (fun _ _ _ h => h) (Or.inl ⟨by rfl, fun w hS => by obtain ⟨z1, z2, z3, z4, z5⟩ := hS; go_simp⟩) hSS ?_
        simp only [List.getElem_toArray, List.getElem_cons_zero, List.getElem_cons_succ, Act.put, List.setIfInBounds_toArray, List.set_cons_zero, List.set_cons_succ]
        refine wpAnyH_take (i := 7) (v := .pointer (some ⟨gl, offl + k * 2, none⟩)) rfl (by kernel_rfl) (by kernel_rfl) (by kernel_rfl) (fun _ _ _ h => h) (Or.inl ⟨by rfl, fun w hS => by obtain ⟨z1, z2, z3, z4, z5⟩ := hS; go_simp⟩) hSS ?_
        simp only [List.getElem_toArray, List.getElem_cons_zero, List.getElem_cons_succ, Act.put, List.setIfInBounds_toArray, List.set_cons_zero, List.set_cons_succ]
        refine wpAnyH_take (i := 8) (v := .pointer (some ⟨gl, offl + k * 2 + 1, none⟩)) rfl (by kernel_rfl) (by kernel_rfl) (by kernel_rfl) (fun _ _ _ h => h) (Or.inl ⟨by rfl, fun w hS => by obtain ⟨z1, z2, z3, z4, z5⟩ := hS; go_simp⟩) hSS ?_
        simp only [List.getElem_toArray, List.getElem_cons_zero, List.getElem_cons_succ, Act.put, List.setIfInBounds_toArray, List.set_cons_zero, List.set_cons_succ]
        refine wpAnyH_take (i := 9) (v := .slice ai rl.2.length ci) rfl (by kernel_rfl) (by kernel_rfl) (by kernel_rfl) (fun _ _ _ h => h) (Or.inl ⟨by rfl, fun w hS => by obtain ⟨z1, z2, z3, z4, z5⟩ := hS; go_simp⟩) hSS ?_
        simp only [List.getElem_toArray, List.getElem_cons_zero, List.getElem_cons_succ, Act.put, List.setIfInBounds_toArray, List.set_cons_zero, List.set_cons_succ]
        refine wpAnyH_take (i := 10) (v := .int .i64 (rl.2.length : Int)) rfl (by kernel_rfl) (by kernel_rfl) (by kernel_rfl) (fun _ _ _ h => h) (Or.inl ⟨by rfl, fun w hS => by obtain ⟨z1, z2, z3, z4, z5⟩ := hS; go_simp⟩) hSS ?_
        simp only [List.getElem_toArray, List.getElem_cons_zero, List.getElem_cons_succ, Act.put, List.setIfInBounds_toArray, List.set_cons_zero, List.set_cons_succ]
        refine wpAnyH_take (i := 11) (v := .int .i64 0) rfl (by kernel_rfl) (by kernel_rfl) (by kernel_rfl) (fun _ _ _ h => h) (Or.inl ⟨by rfl, fun w hS => by obtain ⟨z1, z2, z3, z4, z5⟩ := hS; go_simp⟩) hSS ?_
        simp only [List.getElem_toArray, List.getElem_cons_zero, List.getElem_cons_succ, Act.put, List.setIfInBounds_toArray, List.set_cons_zero, List.set_cons_succ]
        refine wpAnyH_done (by kernel_rfl) ?_ _
        have HS6 := Lib.hid (HS5.out.kept ((Chg.refl [] W5).drew))
        have HC6 := Lib.hid (HC5.out.drew)
        obtain ⟨W6, hW6⟩ : ∃ x, x = W5.drew := ⟨_, rfl⟩
        rw [← hW6] at HS6 HC6
        rw [← hW6]
        clear hW6 hSS HS5 HC5
        gi_wp2
        gi_loopw [80] (fun i wr => ∃ m : Nat, m ≤ rl.2.length ∧ i = .int .i64 (m : Nat) ∧ Hid (BwS R.length e M w3 (ndAll nd rl.2 m) (acc ++ [(s, k)]) (.slice a8 (acc.length + 1) cap8) wr) ∧ Hid (Chg ([M, M + 2] ++ (Value.slice av' acc.length cv).ownBlock.toList) W wr)) (fun i _ => rl.2.length - (intOf i).toNat)
        case atStart => exact ⟨0, by omega, rfl, by rw [show ndAll nd rl.2 0 = nd from funext fun d => ndAll_zero _ _ _]; exact HS6, HC6⟩
        case round =>
          clear HS6 HC6
          obtain ⟨m, hm, rfl, HSm, HCm⟩ := hrel
          by_cases hltm : m < rl.2.length
          · obtain ⟨_, _, hv, _, _, hcc⟩ := Hints.out
            cases hv
            obtain ⟨gi, oi, rfl, _, hcc⟩ := hcc (by omega)
            have y0w : _ = some (Value.int .i64 (rl.2.getD m 0)) := hcc m hltm
            have y0 := (HSm.out.chg.cell (p := ⟨gi, oi + m, none⟩) (lt_of_cell y0w) (by simp)).trans y0w
            obtain ⟨jd, hjd⟩ : ∃ j, rl.2.getD m 0 = j := ⟨_, rfl⟩
            have hjr := Hidx.out jd (by rw [← hjd]; exact getD_mem hltm 0)
            rw [hjd] at y0
            obtain ⟨j, rfl⟩ : ∃ j : Nat, jd = (j : Int) := ⟨jd.toNat, by omega⟩
            have hjN : j < R.length := by omega
            have y1 := HSm.out.nbx.cell
            have y2 := HSm.out.nrow.cell hjN
            have y3 := HSm.out.nrow.frozen j
            have Hjd := Lib.hid hjd
            have hj0 : (0 : Int) ≤ (j : Int) := by omega
            have hj1 : (j : Int) < (R.length : Int) := by omega
            have hm1 : (m : Int) < (rl.2.length : Int) := by omega
            clear hcc hjd hjr y0w
            gi_wp2
            exact ⟨⟨m + 1, by omega, by go_num, Lib.hid (HSm.out.mark hw3M j _ (fun q => by rw [ndAll_succ nd rl.2 m q hltm, Hjd.out, Int.toNat_natCast])), Lib.hid (HCm.out.setCell (Or.inl (by simp)) _)⟩, by simp [intOf]; omega⟩
          · obtain rfl : m = rl.2.length := by omega
            gi_wp2
            exact ⟨keepsFrom_of_chg HCm.out Hs.out.cells, Hs.out.keep2 hga HCm.out, BwI.take (nd' := ndAll nd rl.2 rl.2.length) (by rw [Hsk.out]; exact HSm.out) hl hlt hen Hinv.out.ok Hb.out (fun d => by unfold ndAll; rw [List.take_length, Hrule.out])⟩
    case done =>
      rintro D ys W hD rfl hI hK
      obtain ⟨nd, acc, v, hs, hl, hb⟩ := hI
      have hbw := hb (by rw [bkU_length])
      rw [bkU_length, Nat.sub_self] at hbw
      rw [bkU_length] at hl
      obtain ⟨hV, h0, hlast⟩ := hbw.fin Hinv.out.ok
      have hlst : (acc.reverse.getD (acc.reverse.length - 1) dPS).1 = st := by rw [List.length_reverse, hlast]; exact Hstd.out
      obtain ⟨g, cv, cur, rfl, hgB, hgb, hnc, hcm⟩ : ∃ g cv cur, v = .slice (some ⟨g, 0, none⟩) acc.length cv ∧ M + 4 ≤ g ∧ W.heap[g]? = some (.cells cur 59 (0, 0)) ∧ acc.length ≤ cv ∧ cv ≤ maxLen := by
        rcases hs.row.2 with ⟨_, hn⟩ | ⟨g, cap, cur, hv, h1, h2, h3, h4, _⟩
        · omega
        · exact ⟨g, cap, cur, hv, h1, h2, h3, h4⟩
      have hcu : ∀ i u, W.cell? ⟨g, i, none⟩ = some u → cur[i]? = some u := fun i u h => by
        simpa [World.cell?, hgb] using h
      have hq := fun (j : Nat) (hj : j < acc.length) => flatD_get e acc j hj
      have hqc : ∀ i u, (flatD e acc)[i]? = some u → cur[i]? = some u := fun i u h => hcu i u (by
        have := hs.row.cells (g := g) rfl i u h
        rwa [Addr.add_lit, Nat.zero_add] at this)
      have hRS : RS W g acc.length e (fun j => acc.getD j dPS) := ⟨cur, hgb, by
        have h2 := hqc _ _ (hq (acc.length - 1) (by omega)).2.2
        have := (Array.getElem?_eq_some_iff.1 h2).1
        omega, fun j hj => ⟨hqc _ _ (hq j hj).1, hqc _ _ (hq j hj).2.1, hqc _ _ (hq j hj).2.2⟩⟩
      have c12 := hs.box.cell
      have HB := Lib.hid hs.box
      have HCh := Lib.hid hs.chg
      have HV := Lib.hid hV
      have Hlst := Lib.hid hlst
      have hgD : D ≠ g := fun h => by rw [h, hgb] at hK; cases hK
      have hsz' := hs.sz
      have HK := Lib.hid hK
      have HRS := Lib.hid hRS
      have HD := Lib.hid hD
      have lg : g < W.heap.size := lt_of_obj hgb
      clear hcu hq hqc hRS hV hlst hlast hb hbw hs hK hgb Hst hI0 hD
      gi_wp2
      refine ⟨trivial, (callsIn_wide.2 (reverse_any W g acc.length cv e _ (by omega) hnc HRS.out)).mono ?_⟩
      rintro o W7 ⟨rfl, hR7, hc7⟩
      have hb12 : Boxed W7 (M + 2) 41 (.slice (some ⟨g, 0, none⟩) acc.length cv) := (hc7.block (M + 2) HB.out.lt (by simp; omega)).trans HB.out
      have c12 := hb12.cell
      clear hb12
      have hK7 : W7.heap[D]? = some (.deferred (some [])) := (hc7.block D (lt_of_obj HK.out) (by simp; exact hgD)).trans HK.out
      have hgr := grownBy_putObj' W7 D (.deferred none)
      have hR8 : ∀ j, j < acc.length → _ := fun j hj => hR7.cell j hj
      have hst8 : StepL (fun q => w.heap.size ≤ q ∧ q < (W7.putObj D (.deferred none)).heap.size) (W7.putObj D (.deferred none)) (.slice (some ⟨g, 0, none⟩) acc.length cv) e acc.reverse := by
        refine ⟨_, cv, by rw [List.length_reverse], by rw [List.length_reverse]; exact hnc, by rw [List.length_reverse]; omega, hcm, fun _ => ⟨g, 0, rfl, ⟨by omega, ?_⟩, fun j hj => ?_⟩⟩
        · have := hc7.size; have := hgr.size; omega
        · rw [List.length_reverse] at hj
          obtain ⟨y0, y1, y2⟩ := hR8 j hj
          rw [getD_reverse _ _ hj, Nat.zero_add]
          have hne : ∀ o, (W7.putObj D (.deferred none)).cell? ⟨g, o, none⟩ = W7.cell? ⟨g, o, none⟩ := fun o => World.cell?_of_block (w := W7) (a := ⟨g, o, none⟩) (World.putObj_heap_other (fun h => hgD h.symm))
          exact ⟨(hne _).trans y0, (hne _).trans y1, (hne _).trans y2⟩
      have hch8 : Chg [] w (W7.putObj D (.deferred none)) := Hc3.out.trans ((HCh.out.comp hc7 (fun k hk => Or.inr (by simp at hk; omega))).grown hgr (fun k e => Or.inr (by cases e; have := HD.out; omega)))
      have HSt8 := Lib.hid hst8
      have HCh8 := Lib.hid hch8
      clear hst8 hch8 hR8 hgr hR7 hc7
      gi_wp2
      refine ⟨by simp, .inl ⟨_, _, rfl, run_takeDeferred hK7, ?_⟩⟩
      refine ⟨_, ?_, .inl ⟨_, acc.reverse, rfl, HSt8.out, HV.out, by rw [List.length_reverse]; exact h0, Hlst.out, HCh8.out⟩⟩
      simp [results, Try.f15, go_sem]
    case stop =>
      rintro D c pre W _ _ h _
      exact h.elim
  · have hno : dOf St st = false := by
      cases hd : dOf St st
      · rfl
      · obtain ⟨t, ht, he⟩ := (dOf_iff _ _).1 hd
        have := hnone t ht
        simp [he] at this
    gi_wp2
    refine ⟨_, ?_, .inr ⟨rfl, ⟨St, Hinv.out, Hdone.out, hno⟩, Hc3.out⟩⟩
    simp [results, Try.f15, go_sem]
end Go.Proofs.Ytaciceaipmclgaa
