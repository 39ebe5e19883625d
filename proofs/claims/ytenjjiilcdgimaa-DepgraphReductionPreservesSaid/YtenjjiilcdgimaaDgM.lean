/- depgraph: reachable. -/
import Derived.Test.YtenjjiilcdgimaaDgL
namespace Go.Proofs.Ytenjjiilcdgimaa
open Go.RowKit Go.ChangeMaps Go.MapKept Go.Shelf
set_option linter.unusedVariables false
set_option linter.unusedSimpArgs false
def lenV : Value → Nat
  | .slice _ n _ => n
  | _ => 0
def seenE (R : List I3) : List (I3 × Value) := R.map fun k => (k, .int .i64 1)
theorem zeroInt (w : World) : (zeroValue 3).run Try.prog w = .ok (.int .i64 0) w := by
  have h : (Try.prog.info? 3).map (fun i => (i.zero, i.size, i.bytes)) = some (some (.int .i64 0), 1, 8) := by kernel_rfl
  obtain ⟨i0, hi, hz0, hz1, hz2⟩ := info_parts h
  simp [zeroValue, typeInfo, hi, hz0]
theorem seen_get (R : List I3) (x : I3) : aget (seenE R) x = if x ∈ R then some (.int .i64 1) else none := by
  unfold seenE
  induction R with
  | nil => rfl
  | cons k R ih =>
    simp only [List.map_cons, aget_cons, ih, List.mem_cons]
    by_cases e : k = x
    · simp [e]
    · simp [e, Ne.symm e]
theorem seen_ups (R : List I3) (x : I3) (h : x ∉ R) : ups (seenE R) x (.int .i64 1) = seenE (R ++ [x]) := by
  unfold seenE
  induction R with
  | nil => rfl
  | cons k R ih =>
    simp only [List.mem_cons, not_or] at h
    simp only [List.map_cons, ups, List.cons_append]
    rw [if_neg (Ne.symm h.1), ih h.2]
theorem reach_ok {E : List Ed} (h : EdOk E) {x y : I3} (hr : Reach E x y) : QKok y := by
  induction hr with
  | one h' => exact (h _ h').2
  | step _ _ ih => exact ih
/-- the search in memory -/
structure RI (w w' : World) (bs : Nat) (E : List Ed) (x : I3) (vr vp : Value) (R P : List I3) : Prop where
  res : OwnK w' w.heap.size vr R
  pen : OwnK w' w.heap.size vp P
  dj : disj vr vp
  seen : MapAt Try.prog 24 i3v w' bs (seenE R)
  ge : w.heap.size ≤ bs
  chg : Chg [] w w'
  dfs : DfsI E x R P
def RchPost (w : World) (E : List Ed) (x : I3) (e : Ending) (w' : World) : Prop :=
  ∃ v' l, e = .returned v' ∧ I3s (fun g => w.heap.size ≤ g ∧ g < w'.heap.size) w' v' l ∧ IsDeps E x l ∧ Chg [] w w'
theorem run_append_keys (w : World) (ty : TypeId) (B B' : Nat) (v sv : Value) (l m : List I3) (hv : OwnK w B v l) (hs : OwnK w B' sv m) (hlen : l.length + m.length ≤ 100000) (hB : B ≤ w.heap.size) :
    ∃ v' w', (Builtin.append_ #[26, 26] ty #[v, sv]).run Try.prog w = .ok v' w' ∧ OwnK w' B v' (l ++ m) ∧ Chg v.ownBlock.toList w w' ∧ (∀ g, v'.ownBlock = some g → v.ownBlock = some g ∨ w.heap.size ≤ g) := by
  obtain ⟨i0, hi, hz0, hz1, hz2⟩ := info_parts Try.infoK
  obtain ⟨a, cap, rfl⟩ := ownsRow_shape hs
  cases a with
  | none =>
    have h0 : m = [] := by
      rcases hs.2 with ⟨hv, hx⟩ | ⟨g, cap', cur', hv, _⟩
      · exact List.eq_nil_of_length_eq_zero hx
      · cases hv
    subst h0
    have hcap : cap = 0 := by
      rcases hs.2 with ⟨hv, hx⟩ | ⟨g, cap', cur', hv, _⟩
      · cases hv; rfl
      · cases hv
    subst hcap
    have := run_append_owned_none (P := Try.prog) (w := w) B 26 ty 24 i0 3 Try.underlying26 hi v l.length (kCells l) hv
    refine ⟨v, w, this, by simpa using hv, Chg.refl _ _, fun g hg => Or.inl hg⟩
  | some ad =>
    obtain ⟨_, g, rfl, hc⟩ := hs.cells
    obtain ⟨v', w', hr, h2, h3, _, h5⟩ := run_append_own_at (P := Try.prog) w B 26 ty 24 i0 (.agg #[.int .i64 0, .int .i64 0, .int .i64 0]) 3 24 Try.underlying26 hi hz0 hz1 hz2 rfl (by decide) v l.length (kCells l) hv ⟨g, 0, none⟩ m.length cap (kCells m) (kCells_len m) (fun j u hj => by rw [Addr.add_lit, Nat.zero_add]; exact hc j u hj) (kCells_oneCell m) (by unfold maxLen; omega) (by omega) hB
    refine ⟨v', w', hr, ?_, (Chg.refl _ w).grown h3 (by intro k hk; left; simp [hk]), fun g' hg => ?_⟩
    · unfold OwnK
      rw [kCells_append, List.length_append]
      exact h2
    · rcases h5 with h5 | h5
      · exact Or.inl (by rw [← h5]; exact hg)
      · right
        rw [h5] at hg
        cases hg
        exact Nat.le_refl _
theorem OwnK.of_heap1 {w : World} {g : Nat} {x : I3} (h : w.heap[g]? = some (kObj x)) : OwnK w 0 (.slice (some ⟨g, 0, none⟩) 1 1) [x] :=
  ⟨rfl, .inr ⟨g, 1, _, rfl, Nat.zero_le _, h, Nat.le_refl _, by simp [maxLen], rfl, rfl⟩⟩
set_option maxRecDepth 100000 in
set_option maxHeartbeats 8000000 in
theorem reachable_any (w : World) (B gb bm : Nat) (E : List Ed) (L : GL) (kv : Value) (x : I3) (h : GrAt w B gb bm L kv (ks E)) (hL : ∀ y, glL L y = nx E y) (hE : E.length ≤ 100) (hok : EdOk E) (hx : QKok x) :
    Calls Try.prog 18 #[.pointer (some ⟨gb, 0, none⟩), i3v x] w (RchPost w E x) := by
  have hmm := @run_makeMap Try.prog
  obtain ⟨x0, x1, x2⟩ := x
  obtain ⟨w2, hw2⟩ : ∃ q, q = (w.alloc (kObj (x0, x1, x2))).alloc (.map #[] 0) := ⟨_, rfl⟩
  have hc2 : Chg [] w w2 := by rw [hw2]; exact ((Chg.refl [] w).alloc _).alloc _
  have hb2 : w2.heap[w.heap.size]? = some (kObj (x0, x1, x2)) := by rw [hw2]; exact (heap_past _ _ _ (by simp)).trans (heap_at _ _ _ rfl)
  have hm2 : MapAt Try.prog 24 i3v w2 (w.heap.size + 1) (seenE []) := by
    rw [hw2]
    have := MapAt.made Try.prog 24 i3v (w.alloc (kObj (x0, x1, x2)))
    simpa [seenE] using this
  have hG := h.same hc2
  have p0 : w2.cell? ⟨gb, 0, none⟩ = some (.map (some bm)) := cell_of_heap hG.box rfl
  obtain ⟨b0, b1, b2⟩ := kCellsAt hb2
  have hlk := (hG.same ((Chg.refl [] w2).drew)).look _ hx
  have hcl := keysCloneK w2.drew B (glV L (x0, x1, x2)) _ ((hG.row (x0, x1, x2)).same ((Chg.refl [] w2).drew)) (by rw [hL]; exact Nat.le_trans (nx_spec E _).2.2 (by omega))
  rw [hL] at hcl
  have lg := lt_of_cell p0
  have lb := lt_of_cell b0
  simp only [i3v] at hlk
  unfold i3v
  simp only
  have HG := Lib.hid h
  have Hm2 := Lib.hid hm2
  have Hc2 := Lib.hid hc2
  have Hw2 := Lib.hid hw2
  have Hcl := Lib.hid hcl
  have Hok := Lib.hid hok
  clear h hm2 hc2 hb2 hG hcl hok hw2
  go_enter Try.func18, Try.ntmps18
  go_upto_region 3 with (fail)
  have hw2' := Hw2.out
  unfold kObj at hw2'
  rw [← hw2']
  clear hw2'
  obtain ⟨nb, hnb⟩ : ∃ n, n = w.heap.size := ⟨_, rfl⟩
  obtain ⟨bs, hbs⟩ : ∃ n, n = w.heap.size + 1 := ⟨_, rfl⟩
  rw [← hnb] at b0 b1 b2 lb
  rw [← hbs] at Hm2
  rw [← hbs, ← hnb]
  have Hn := Lib.hid (And.intro hnb hbs)
  clear hnb hbs
  refine wp_region_readsQ 6 (by kernel_rfl) (by kernel_rfl) ?_
  intro wd hwd
  simp only [List.take_succ_cons, List.take_zero, List.drop_succ_cons, List.drop_zero]
  rw [← hwd] at hlk Hcl
  have hcd : Chg [] w2 wd := by rw [hwd]; exact (Chg.refl [] w2).drew
  have q0 := (hcd.cell lg (by simp)).trans p0
  have c0 := (hcd.cell lb (by simp)).trans b0
  have c1 := (hcd.cell (p := ⟨nb, 1, none⟩) lb (by simp)).trans b1
  have c2 := (hcd.cell (p := ⟨nb, 2, none⟩) lb (by simp)).trans b2
  have Hcd := Lib.hid (Hc2.out.trans hcd)
  have Hmd := Lib.hid (Hm2.out.kept hcd (by simp))
  clear hwd hcd p0 b0 b1 b2 Hw2
  repeat go_big_quiet_step (fail)
  refine wpQuiet_nil ?_
  go_wp2_with (refine Hcl.out.mono ?_; rintro e w3 ⟨v', rfl, hown, hc3⟩)
  obtain ⟨a0', cp0, rfl⟩ := ownsRow_shape hown
  have HI0 := Lib.hid (show RI w w3 bs E (x0, x1, x2) (.slice none 0 0) (.slice a0' (nx E (x0, x1, x2)).length cp0) [] (nx E (x0, x1, x2)) from
    ⟨OwnK.nil _ _, ownsRow_base hown Hcd.out.size, fun g hg => by simp [Value.ownBlock] at hg, Hmd.out.kept hc3 (by simp), by have := Hn.out.2; omega, Hcd.out.trans hc3, DfsI.start E _⟩)
  have hnl := (nx_spec E (x0, x1, x2)).2.2
  clear hown hc3 Hcl c0 c1 c2 q0 hlk Hmd Hm2 lg lb
  go_loopw [5, 7] (fun v5 v7 wr => ∃ (R P : List I3) (a5 a7 : Option Addr) (c5 c7 : Nat), v5 = .slice a5 R.length c5 ∧ v7 = .slice a7 P.length c7 ∧ P.length ≤ (R.length + 1) * 100 ∧ Hid (RI w wr bs E (x0, x1, x2) v5 v7 R P)) (fun v5 v7 _ => (200 - lenV v5) * 101 + lenV v7)
  case atStart => exact ⟨[], _, none, a0', 0, cp0, rfl, rfl, by simp; omega, HI0⟩
  case round =>
    clear HI0
    obtain ⟨R, P, a5, a7, c5, c7, rfl, rfl, hPl, HR⟩ := hrel
    rcases List.eq_nil_or_concat P with rfl | ⟨Q, k, rfl⟩
    · have hR := HR.out
      have hrl := hR.dfs.len
      have hks := (ks_spec E).2.2
      have hso := sortRow_any wr w.heap.size _ R hR.res (by omega) hR.dfs.nd
      have Hso := Lib.hid hso
      have HR2 := Lib.hid hR
      clear hR HR hso
      go_wp2_with fail
      refine Hso.out.mono ?_
      rintro e w6 ⟨rfl, l', hp, hsd, hi, hc6⟩
      have Hi := Lib.hid (And.intro hp (And.intro hsd (And.intro hi hc6)))
      clear hp hsd hi hc6
      go_wp2_with fail
      go_ret
      obtain ⟨hp, hsd, hi, hc6⟩ := Hi.out
      have hR := HR2.out
      refine ⟨_, l', rfl, hi.imp fun g hg => ?_, ⟨hsd, fun y => (hp.mem_iff).trans (hR.dfs.fin y)⟩, hR.chg.comp hc6 fun g hg => Or.inr (hR.res.lt g (by simpa using hg)).1⟩
      have := hR.res.lt g hg
      have := hc6.size
      omega
    · obtain ⟨k0, k1, k2⟩ := k
      have hR := HR.out
      have hlen : (Q ++ [(k0, k1, k2)]).length = Q.length + 1 := by simp
      rw [List.concat_eq_append] at hR hPl ⊢
      rw [hlen] at hPl hR ⊢
      obtain ⟨_, hpop, g7, rfl, kc0, kc1, kc2⟩ := hR.pen.pop
      have hbd := hR.pen.bound
      rw [hlen] at hbd
      have hmx : c7 ≤ maxLen := hbd.2.2
      unfold maxLen at hmx
      have lk := lt_of_cell kc0
      have hrl := hR.dfs.len
      have hks := (ks_spec E).2.2
      have hkok : QKok (k0, k1, k2) := reach_ok Hok.out (hR.dfs.sound _ (by simp))
      have hpos : (0 : Int) < (Q.length : Int) + 1 := by omega
      have hin : (Q.length : Int) < (Q.length : Int) + 1 := by omega
      have hwr : IntKind.i64.wrap ((Q.length : Int)) = (Q.length : Int) := IntWalk.i64_in _ (by omega)
      have hcc : (Q.length : Int) ≤ c7 := by omega
      have hHR := Lib.hid hR
      have Hpop := Lib.hid hpop
      clear hR HR hlen hpop hbd
      go_upto_region 7 with (fail)
      obtain ⟨w5, hw5⟩ : ∃ q, q = wr.alloc (kObj (k0, k1, k2)) := ⟨_, rfl⟩
      obtain ⟨nk, hnk⟩ : ∃ n, n = wr.heap.size := ⟨_, rfl⟩
      have hc5 : Chg [] wr w5 := by rw [hw5]; exact (Chg.refl [] wr).alloc _
      have hb5 : w5.heap[nk]? = some (kObj (k0, k1, k2)) := by rw [hw5, hnk]; exact heap_at _ _ _ rfl
      have hm5 := hHR.out.seen.kept hc5 (by simp)
      have hlk := hm5.lookup qkeyed i3v_inj Try.underlying49 (qkOk hkok) (zeroInt _) false
      simp only [seen_get, Bool.false_eq_true, if_false] at hlk
      obtain ⟨d0, d1, d2⟩ := kCellsAt hb5
      have ld := lt_of_cell d0
      have hw5' := hw5
      unfold kObj at hw5'
      rw [← hw5', ← hnk]
      have Hnk := Lib.hid hnk
      have Hc5 := Lib.hid hc5
      have Hb5 := Lib.hid hb5
      have Hm5 := Lib.hid hm5
      clear hw5' hw5 hnk hc5 hb5 hm5
      simp only [i3v] at hlk
      by_cases hin2 : (k0, k1, k2) ∈ R
      · rw [if_pos hin2] at hlk
        simp only [Option.getD_some] at hlk
        have Hin := Lib.hid hin2
        clear hin2
        go_wp2_with fail
        have hR := hHR.out
        refine ⟨⟨R, Q, a5, some ⟨g7, 0, none⟩, c5, c7, rfl, rfl, by omega, Lib.hid ⟨hR.res.same Hc5.out, Hpop.out.same Hc5.out, hR.dj, Hm5.out, hR.ge, hR.chg.trans Hc5.out, hR.dfs.skip Hin.out⟩⟩, by simp [lenV]⟩
      · rw [if_neg hin2] at hlk
        simp only [Option.getD_none] at hlk
        have hvis := hHR.out.dfs.visit hin2
        have hvl := hvis.len
        rw [List.length_append] at hvl
        simp only [List.length_cons, List.length_nil] at hvl
        obtain ⟨o, hup, hmu⟩ := Hm5.out.update qkeyed i3v_inj Try.underlying49 (qkOk hkok) (.int .i64 1)
        rw [seen_ups _ _ hin2] at hmu
        simp only [i3v] at hup
        obtain ⟨w6, hw6⟩ : ∃ q, q = setBlock w5 bs o := ⟨_, rfl⟩
        rw [← hw6] at hup hmu
        have hc6 : Chg [bs] w5 w6 := by rw [hw6]; exact chg_setBlock w5 bs o
        have hnb : nk ≠ bs := map_obj Hm5.out Hb5.out
        have hb6 : w6.heap[nk]? = some (kObj (k0, k1, k2)) := (hc6.block _ (lt_of_obj Hb5.out) (by simpa using hnb)).trans Hb5.out
        have Hin := Lib.hid hin2
        have Hvis := Lib.hid hvis
        have Hmu := Lib.hid hmu
        have Hc6 := Lib.hid hc6
        have Hb6 := Lib.hid hb6
        have Hnb := Lib.hid hnb
        clear hin2 hvis hmu hc6 hb6 hw6 hnb
        obtain ⟨e0, e1, e2⟩ := kCellsAt Hb6.out
        have le := lt_of_cell e0
        have hRl : (R ++ [(k0, k1, k2)]).length = R.length + 1 := by simp
        obtain ⟨w7, hw7⟩ : ∃ q, q = w6.alloc (kObj (k0, k1, k2)) := ⟨_, rfl⟩
        obtain ⟨n7, hn7⟩ : ∃ n, n = w6.heap.size := ⟨_, rfl⟩
        have hc7 : Chg [] w6 w7 := by rw [hw7]; exact (Chg.refl [] w6).alloc _
        have hb7 : w7.heap[n7]? = some (kObj (k0, k1, k2)) := by rw [hw7, hn7]; exact heap_at _ _ _ rfl
        have hR := hHR.out
        have hbsv : ∀ g, (Value.slice a5 R.length c5).ownBlock = some g → g ≠ bs := fun g hg e => own_map hR.res hR.seen (by rw [hg, e])
        have hbsp : ∀ g, (Value.slice (some ⟨g7, 0, none⟩) Q.length c7).ownBlock = some g → g ≠ bs := fun g hg e => own_map Hpop.out hR.seen (by rw [hg, e])
        have hr7 : OwnK w7 w.heap.size (.slice a5 R.length c5) R := ((hR.res.same Hc5.out).kept Hc6.out.toP fun g hg hm => hbsv g hg (by simpa using hm)).same hc7
        have hp7 : OwnK w7 w.heap.size (.slice (some ⟨g7, 0, none⟩) Q.length c7) Q := ((Hpop.out.same Hc5.out).kept Hc6.out.toP fun g hg hm => hbsp g hg (by simpa using hm)).same hc7
        have hg7 : Chg [bs] wr w7 := (Hc5.out.nil.trans Hc6.out).new hc7
        obtain ⟨v8, w8, hr8, ho8, hc8, hn8⟩ := run_append_keys w7 26 w.heap.size 0 _ _ R [(k0, k1, k2)] hr7 (OwnK.of_heap1 hb7) (by simp only [List.length_cons, List.length_nil]; omega) (Nat.le_trans hR.chg.size hg7.size)
        obtain ⟨a8, c8, rfl⟩ := ownsRow_shape ho8
        rw [hRl] at hr8 ho8 hn8
        have hk8 : w8.heap[nk]? = some (kObj (k0, k1, k2)) := (hc8.block _ (lt_of_obj ((hc7.block _ (lt_of_obj Hb6.out) (by simp)).trans Hb6.out)) (fun hm => by
          have := (hR.res.lt nk (by simpa using hm)).2
          have := Hnk.out
          omega)).trans ((hc7.block _ (lt_of_obj Hb6.out) (by simp)).trans Hb6.out)
        have hp8 : OwnK w8 w.heap.size (.slice (some ⟨g7, 0, none⟩) Q.length c7) Q := hp7.kept hc8.toP fun g hg hm => hR.dj g (by simpa using hm) (by simpa [Value.ownBlock] using hg)
        have hs8 : MapAt Try.prog 24 i3v w8 bs (seenE (R ++ [(k0, k1, k2)])) := (Hmu.out.kept hc7 (by simp)).kept hc8 (fun hm => hbsv bs (by simpa using hm) rfl)
        have hg8 : Chg [] w w8 := (hR.chg.comp hg7 (fun g hg => Or.inr (by rw [List.mem_singleton.1 hg]; exact hR.ge))).comp hc8 fun g hg => Or.inr (hr7.lt g (by simpa using hg)).1
        have hd8 : disj (.slice a8 (R.length + 1) c8) (.slice (some ⟨g7, 0, none⟩) Q.length c7) := fun g hg hg' => (hn8 g hg).elim (fun e => hR.dj g e (by simpa [Value.ownBlock] using hg')) fun e => by have := (hp7.lt g hg').2; omega
        have hG8 := HG.out.same hg8
        have hlk8 := (hG8.look _ hkok)
        have hw7' := hw7
        unfold kObj at hw7'
        have Hw7 := Lib.hid (And.intro hw7' hn7)
        have H8 := Lib.hid (And.intro ho8 (And.intro hp8 (And.intro hs8 (And.intro hg8 (And.intro hd8 (And.intro hG8 hk8))))))
        have Hr8 := Lib.hid hr8
        simp only [i3v] at hlk8
        clear hR hRl hc7 hb7 hbsv hbsp hr7 hp7 hg7 ho8 hc8 hn8 hk8 hp8 hs8 hg8 hd8 hG8 hw7 hn7 hw7' hr8
        go_wp2_with (at_builtin; rw [← Hw7.out.1, ← Hw7.out.2]; refine wpList_append_run rfl _ _ _ rfl _ _ _ _ rfl rfl Hr8.out ?_)
        refine wp_region_readsQ 7 (by kernel_rfl) (by kernel_rfl) ?_
        intro we hwe
        simp only [List.take_succ_cons, List.take_zero, List.drop_succ_cons, List.drop_zero]
        have hce : Chg [] w8 we := by rw [hwe]; exact (Chg.refl [] w8).drew
        obtain ⟨ho8, hp8, hs8, hg8, hd8, hG8, hk8⟩ := H8.out
        have hle := hG8.look (k0, k1, k2) hkok
        have hGe := hG8.same hce
        have hlk9 := hGe.look (k0, k1, k2) hkok
        have p0 : we.cell? ⟨gb, 0, none⟩ = some (.map (some bm)) := cell_of_heap hGe.box rfl
        have lg := lt_of_cell p0
        have hke := (hce.block _ (lt_of_obj hk8) (by simp)).trans hk8
        obtain ⟨f0, f1, f2⟩ := kCellsAt hke
        have lf := lt_of_cell f0
        have hrow := hGe.row (k0, k1, k2)
        rw [hL] at hrow
        have hxl := (nx_spec E (k0, k1, k2)).2.2
        obtain ⟨v9, w9, hr9, ho9, hc9, hn9⟩ := run_append_keys we 26 w.heap.size B _ _ Q (nx E (k0, k1, k2)) (hp8.same hce) hrow (by omega) (Nat.le_trans hg8.size hce.size)
        obtain ⟨a9, c9, rfl⟩ := ownsRow_shape ho9
        have H9 := Lib.hid (show RI w w9 bs E (x0, x1, x2) (.slice a8 (R.length + 1) c8) (.slice a9 (Q ++ nx E (k0, k1, k2)).length c9) (R ++ [(k0, k1, k2)]) (Q ++ nx E (k0, k1, k2)) from
          ⟨(ho8.same hce).kept hc9.toP fun g hg hm => hd8 g hg (by simpa using hm), ho9,
            fun g hg hg' => (hn9 g hg').elim (fun e => hd8 g hg e) fun e => by have := (ho8.lt g hg).2; have := hce.size; omega,
            (hs8.kept hce (by simp)).kept hc9 (fun hm => own_map hp8 hs8 (by simpa using hm)), hHR.out.ge, (hg8.new hce).comp hc9 fun g hg => Or.inr (hp8.lt g (by simpa using hg)).1, Hvis.out⟩)
        have Hr9 := Lib.hid hr9
        simp only [i3v] at hlk9
        have hnl : (nx E (k0, k1, k2)).length ≤ 100 := by omega
        clear hwe hce ho8 hp8 hs8 hg8 hd8 hG8 hk8 hle hGe hke hrow ho9 hc9 hn9 hr9 H8 hlk8 hlk hup d0 d1 d2 e0 e1 e2 kc0 kc1 kc2 Hr8 Hmu Hvis
        repeat go_big_quiet_step (fail)
        refine wpQuiet_nil ?_
        go_wp2_with (at_builtin; refine wpList_append_run rfl _ _ _ rfl _ _ _ _ rfl rfl Hr9.out ?_)
        have hRl : (R ++ [(k0, k1, k2)]).length = R.length + 1 := by simp
        refine ⟨⟨R ++ [(k0, k1, k2)], Q ++ nx E (k0, k1, k2), a8, a9, c8, c9, by rw [hRl], by rw [List.length_append], ?_, ?_⟩, ?_⟩
        · rw [hRl, List.length_append]; omega
        · rw [List.length_append] at H9; exact H9
        · simp only [lenV, List.length_append]; omega
end Go.Proofs.Ytenjjiilcdgimaa
