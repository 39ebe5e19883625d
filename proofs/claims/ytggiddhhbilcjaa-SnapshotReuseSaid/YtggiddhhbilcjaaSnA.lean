/- compute's closure addInputs: keys are noted in the result under way. -/
import Derived.Test.YtggiddhhbilcjaaSnI
import Derived.Test.YtggiddhhbilcjaaAnyT
namespace Go.Proofs.Ytggiddhhbilcjaa.Sn
open Go.RowKit Go.ChangeMaps Go.MapKept
set_option linter.unusedVariables false
set_option linter.unusedSimpArgs false
/-- a result under way: its pointer's box, its struct, its inputs' row -/
structure RbAt (w : World) (cr rb : Nat) (f l : Int) (iv : Value) (ins : List QK) : Prop where
  bre : w.heap[cr]? = some (.cells #[.pointer (some ⟨rb, 0, none⟩)] 94 (0, 0))
  res : w.heap[rb]? = some (.cells #[.int .i64 f, .int .i64 l, .slice none 0 0, .string ⟨#[]⟩, iv] 93 (0, 0))
  row : w.ownsRow 0 43 3 iv ins.length (flat3 ins)
theorem RbAt.kept {S : Nat → Prop} {w w' : World} {cr rb : Nat} {f l : Int} {iv : Value} {ins : List QK} (h : RbAt w cr rb f l iv ins) (hc : ChgP S w w') (h1 : ¬ S cr) (h2 : ¬ S rb) (h3 : ∀ g, iv.ownBlock = some g → ¬ S g) : RbAt w' cr rb f l iv ins :=
  ⟨(hc.block _ (lt_of_obj h.bre) h1).trans h.bre, (hc.block _ (lt_of_obj h.res) h2).trans h.res, ownsRow_kept h.row fun g hg hl => hc.block g hl (h3 g hg)⟩
theorem RbAt.new {w w' : World} {cr rb : Nat} {f l : Int} {iv : Value} {ins : List QK} (h : RbAt w cr rb f l iv ins) (hc : Chg [] w w') : RbAt w' cr rb f l iv ins := h.kept (S := fun _ => False) hc.p (fun h => h) (fun h => h) (fun _ _ h => h)
theorem RbAt.own {w : World} {cr rb : Nat} {f l : Int} {iv : Value} {ins : List QK} (h : RbAt w cr rb f l iv ins) {g : Nat} (hg : iv.ownBlock = some g) : g ≠ cr ∧ g ≠ rb ∧ g < w.heap.size := by
  have h1 := tyAt_own h.row hg
  refine ⟨fun e => ?_, fun e => ?_, (h.row.lt g hg).2⟩
  · rw [e, tyAt_cells h.bre] at h1; cases h1
  · rw [e, tyAt_cells h.res] at h1; cases h1
theorem RbAt.ne {w : World} {cr rb : Nat} {f l : Int} {iv : Value} {ins : List QK} (h : RbAt w cr rb f l iv ins) : cr ≠ rb := fun e => by
  have h1 := tyAt_cells h.res
  rw [← e, tyAt_cells h.bre] at h1; cases h1
theorem RbAt.push {w w8 : World} {cr rb : Nat} {f l : Int} {iv v8 : Value} {ins : List QK} {k : QK} {n : Nat} (h : RbAt w cr rb f l iv ins) (hn : n = ins.length) (hk : k ∉ ins)
    (hown : w8.ownsRow 0 43 3 v8 (n + 1) (flat3 ins ++ [.int .i64 k.1, .int .i64 k.2.1, .int .i64 k.2.2])) (hc : ChgP (fun g => iv.ownBlock = some g) w w8) : RbAt (w8.setCell ⟨rb, 4, none⟩ v8) cr rb f l v8 (addK ins k) := by
  subst hn
  have hs : ChgP (fun g => g = rb) w8 (w8.setCell ⟨rb, 4, none⟩ v8) := (ChgP.refl (fun g => g = rb) w8).setCell (p := ⟨rb, 4, none⟩) (Or.inl rfl) v8
  have e1 : addK ins k = ins ++ [k] := by unfold addK; rw [if_neg hk]
  have hbre := (hc.block _ (lt_of_obj h.bre) fun e => (h.own e).1 rfl).trans h.bre
  have hres := (hc.block _ (lt_of_obj h.res) fun e => (h.own e).2.1 rfl).trans h.res
  refine ⟨(hs.block _ (lt_of_obj hbre) h.ne).trans hbre, (heap_setCell_same hres _).trans rfl, ?_⟩
  rw [e1, List.length_append, flat3_append]
  refine ownsRow_kept hown fun g hg hl => hs.block g hl fun e => ?_
  have h1 := tyAt_own hown hg
  rw [e, tyAt_cells hres] at h1
  cases h1
theorem addKs_snoc (l ks : List QK) (k : QK) : addKs l (ks ++ [k]) = addK (addKs l ks) k := by unfold addKs; rw [List.foldl_append]; rfl
theorem addK_len (l : List QK) (k : QK) : (addK l k).length ≤ l.length + 1 := by
  unfold addK
  split
  · omega
  · simp
theorem addKs_len (l ks : List QK) : (addKs l ks).length ≤ l.length + ks.length := by
  induction ks generalizing l with
  | nil => simp [addKs]
  | cons k ks ih =>
    have h1 := ih (addK l k)
    have h2 := addK_len l k
    have h3 : addKs l (k :: ks) = addKs (addK l k) ks := rfl
    rw [h3, List.length_cons]
    omega
/-- what addInputs brings -/
def AddPost (cr rb : Nat) (f l : Int) (iv : Value) (ins ks : List QK) (w : World) (e : Ending) (w' : World) : Prop :=
  e = .returned (.tuple #[]) ∧ ∃ iv', RbAt w' cr rb f l iv' (addKs ins ks) ∧ ChgP (fun g => g = rb ∨ iv.ownBlock = some g) w w' ∧ ∀ g, iv'.ownBlock = some g → iv.ownBlock = some g ∨ w.heap.size ≤ g
structure AddRel (cr rb : Nat) (f l : Int) (iv : Value) (ins ks : List QK) (w : World) (n : Nat) (iv' : Value) (wr : World) : Prop where
  at_ : RbAt wr cr rb f l iv' (addKs ins (ks.take n))
  chg : ChgP (fun g => g = rb ∨ iv.ownBlock = some g) w wr
  new : ∀ g, iv'.ownBlock = some g → iv.ownBlock = some g ∨ w.heap.size ≤ g
theorem AddRel.more {cr rb : Nat} {f l : Int} {iv iv' : Value} {ins ks : List QK} {w wr w' : World} {n : Nat} (h : AddRel cr rb f l iv ins ks w n iv' wr) (hc : Chg [] wr w') : AddRel cr rb f l iv ins ks w n iv' w' := ⟨h.at_.new hc, h.chg.new hc, h.new⟩
set_option maxRecDepth 100000 in
set_option maxHeartbeats 4000000 in
theorem add_any (p : Nat → Prop) (w : World) (cr rb : Nat) (f l : Int) (iv v : Value) (ins ks : List QK) (h : RbAt w cr rb f l iv ins) (hk : I3s p w v ks) (hp : ∀ g, p g → g < w.heap.size ∧ g ≠ rb ∧ iv.ownBlock ≠ some g) (hlen : ins.length + ks.length ≤ 1000) :
    Calls Try.prog 88 #[v, .pointer (some ⟨cr, 0, none⟩)] w (AddPost cr rb f l iv ins ks w) := by
  obtain ⟨a, cap, rfl, hm, hc⟩ := hk.shape
  have Hk := Lib.hid hk
  have Hp := Lib.hid hp
  have H := Lib.hid h
  clear hk hp h
  unfold maxLen at hm
  go_enter Try.func88, Try.ntmps88
  go_wp2_with fail
  go_loopw [7] (fun i wr => ∃ (n : Nat) (iv' : Value), n ≤ ks.length ∧ i = .int .i64 (n : Nat) ∧ AddRel cr rb f l iv ins ks w n iv' wr) (fun i _ => ks.length - (intOf i).toNat)
  case atStart => exact ⟨0, iv, by omega, rfl, by rw [List.take_zero]; exact H.out, ChgP.refl _ _, fun g hg => Or.inl hg⟩
  case round =>
    obtain ⟨n, iv', hn, rfl, hR⟩ := hrel
    have HR := Lib.hid hR
    clear hR
    by_cases hlt : n < ks.length
    · obtain ⟨k, hkk⟩ : ∃ x, ks.getD n (0, 0, 0) = x := ⟨_, rfl⟩
      have hks : I3s p wr (.slice a ks.length cap) ks := Hk.out.kept HR.out.chg fun g hg e => e.elim (Hp.out g hg).2.1 (Hp.out g hg).2.2
      obtain ⟨g, off, rfl, _, c0, c1, c2⟩ := SlR.at hks n hlt (0, 0, 0)
      rw [hkk] at c0 c1 c2
      simp only at c0 c1 c2
      have hn1 : (n : Int) < ks.length := by omega
      have hn0 : (0 : Int) ≤ (n : Int) := by omega
      have hstep : addKs ins (ks.take (n + 1)) = addK (addKs ins (ks.take n)) k := by rw [fold_take_snoc ks n hlt (0, 0, 0), hkk, addKs_snoc]
      have Hstep := Lib.hid hstep
      obtain ⟨cur, hcur⟩ : ∃ x, x = addKs ins (ks.take n) := ⟨_, rfl⟩
      have hcl : cur.length ≤ 2000 := by have := addKs_len ins (ks.take n); rw [hcur]; simp at this; omega
      rw [← hcur] at Hstep
      have Hcur := Lib.hid hcur
      have hra := HR.out.at_
      rw [← hcur] at hra
      have Hra := Lib.hid hra
      obtain ⟨k1, k2, k3⟩ := k
      simp only at c0 c1 c2
      obtain ⟨ia, icap, rfl⟩ := ownsRow_shape hra.row
      have lw := lt_of_cell c0
      have b0 : wr.cell? ⟨cr, 0, none⟩ = some (.pointer (some ⟨rb, 0, none⟩)) := cell_of_heap hra.bre rfl
      have b4 : wr.cell? ⟨rb, 4, none⟩ = some (.slice ia cur.length icap) := cell_of_heap hra.res rfl
      have lcr := lt_of_cell b0
      have lrb := lt_of_cell b4
      clear hks hkk hstep hcur hra
      go_wp2_with fail
      obtain ⟨wk, hwk⟩ : ∃ x, x = wr.alloc (.cells #[.int .i64 k1, .int .i64 k2, .int .i64 k3] 43) := ⟨_, rfl⟩
      rw [← hwk]
      have hck : Chg [] wr wk := by rw [hwk]; exact (Chg.refl _ _).alloc _
      have hkb : wk.heap[wr.heap.size]? = some (.cells #[.int .i64 k1, .int .i64 k2, .int .i64 k3] 43 (0, 0)) := by rw [hwk]; exact heap_at _ _ _ rfl
      clear hwk
      have b0k := (hck.cell (p := ⟨cr, 0, none⟩) lcr (by simp)).trans b0
      have b4k := (hck.cell (p := ⟨rb, 4, none⟩) lrb (by simp)).trans b4
      have e0 := cell_of_heap hkb (i := 0) rfl
      have e1 := cell_of_heap hkb (i := 1) rfl
      have e2 := cell_of_heap hkb (i := 2) rfl
      refine wp_region_reads 5 (by kernel_rfl) (by kernel_rfl) ?_
      intro wd hwd
      simp only [List.take_succ_cons, List.take_zero, List.drop_succ_cons, List.drop_zero]
      have hcd : Chg [] wk wd := by rw [hwd]; exact (Chg.refl _ _).drew
      have b0d := (hcd.cell (lt_of_cell b0k) (by simp)).trans b0k
      have b4d := (hcd.cell (lt_of_cell b4k) (by simp)).trans b4k
      have e0d := (hcd.cell (lt_of_cell e0) (by simp)).trans e0
      have e1d := (hcd.cell (lt_of_cell e1) (by simp)).trans e1
      have e2d := (hcd.cell (lt_of_cell e2) (by simp)).trans e2
      have Hcon := Lib.hid (keyContains_any _ wd _ cur (k1, k2, k3) (i3s_of_own (Hra.out.new (hck.trans hcd)).row) (fun g hg => ((Hra.out.new (hck.trans hcd)).row.lt g hg).2))
      have Hkb := Lib.hid ((hcd.block _ (lt_of_obj hkb) (by simp)).trans hkb)
      have Hcwd := Lib.hid (hck.trans hcd)
      clear hwd b0 b4 b0k b4k e0 e1 e2 hkb hck hcd
      repeat still_step
      refine wpStill_nil ?_
      go_wp2_with fail
      refine Hcon.out.mono ?_
      rintro e w2 ⟨rfl, cc2⟩
      have Hra2 := Lib.hid (Hra.out.new (Hcwd.out.trans cc2))
      have Hkb2 := Lib.hid ((cc2.block _ (lt_of_obj Hkb.out) (by simp)).trans Hkb.out)
      have Hc2 := Lib.hid (Hcwd.out.trans cc2)
      clear cc2 b0d b4d e0d e1d e2d Hcon
      by_cases hin : (k1, k2, k3) ∈ cur
      · rw [decide_eq_true hin]
        have Hin := Lib.hid (show addK cur (k1, k2, k3) = cur by unfold addK; rw [if_pos hin])
        clear hin
        go_wp2_with fail
        refine ⟨⟨n + 1, .slice ia cur.length icap, by omega, by go_num, ?_, HR.out.chg.new Hc2.out, HR.out.new⟩, by simp [intOf]; omega⟩
        rw [Hstep.out, Hin.out]
        exact Hra2.out
      · rw [decide_eq_false hin]
        have Hin := Lib.hid hin
        clear hin
        go_wp2_with fail
        have c0 : w2.cell? ⟨cr, 0, none⟩ = some (.pointer (some ⟨rb, 0, none⟩)) := cell_of_heap Hra2.out.bre rfl
        have c4 : w2.cell? ⟨rb, 4, none⟩ = some (.slice ia cur.length icap) := cell_of_heap Hra2.out.res rfl
        have e0 := cell_of_heap Hkb2.out (i := 0) rfl
        have e1 := cell_of_heap Hkb2.out (i := 1) rfl
        have e2 := cell_of_heap Hkb2.out (i := 2) rfl
        obtain ⟨i0, hi0, hz0, hz1, hz2⟩ := info_parts Try.infoKey
        have Hi0 := Lib.hid hi0
        have Hz0 := Lib.hid hz0
        have Hz1 := Lib.hid hz1
        have Hz2 := Lib.hid hz2
        clear hi0 hz0 hz1 hz2
        refine wp_region_T (fun w' => w'.cell? ⟨cr, 0, none⟩ = some (.pointer (some ⟨rb, 0, none⟩)) ∧ w'.cell? ⟨rb, 4, none⟩ = some (.slice ia cur.length icap) ∧ w'.cell? ⟨wr.heap.size, 0, none⟩ = some (.int .i64 k1) ∧ w'.cell? ⟨wr.heap.size, 1, none⟩ = some (.int .i64 k2) ∧ w'.cell? ⟨wr.heap.size, 2, none⟩ = some (.int .i64 k3)) 10 (by kernel_rfl) ?_
        intro wd hwd
        have hcd : Chg [] w2 wd := by rw [hwd]; exact (Chg.refl _ _).drew
        have Hwd := Lib.hid (Hra2.out.new hcd)
        have Hcj := Lib.hid (Hc2.out.trans hcd)
        have lcr2 : cr < wd.heap.size := Nat.lt_of_lt_of_le (lt_of_cell c0) hcd.size
        have lkey : wr.heap.size < wd.heap.size := Nat.lt_of_lt_of_le (lt_of_cell e0) hcd.size
        have lrb2 : rb < wd.heap.size := Nat.lt_of_lt_of_le (lt_of_cell c4) hcd.size
        have hSW := And.intro ((hcd.cell (lt_of_cell c0) (by simp)).trans c0) (And.intro ((hcd.cell (lt_of_cell c4) (by simp)).trans c4) (And.intro ((hcd.cell (lt_of_cell e0) (by simp)).trans e0) (And.intro ((hcd.cell (lt_of_cell e1) (by simp)).trans e1) ((hcd.cell (lt_of_cell e2) (by simp)).trans e2))))
        have hia : ∀ g, (Value.slice ia cur.length icap).ownBlock = some g → g < wr.heap.size := fun g hg => (Hra.out.own hg).2.2
        have Hia := Lib.hid hia
        have Hca := Lib.hid ((Chg.refl [] wd).alloc (.cells #[.int .i64 k1, .int .i64 k2, .int .i64 k3] 43))
        clear hwd hcd c0 c4 e0 e1 e2 hia
        refine anyT_take (i := 0) (v := .pointer (some ⟨rb, 0, none⟩)) rfl (by kernel_rfl) (fun _ _ _ h => h) (Or.inl ⟨by rfl, fun w' hS => by go_simp⟩) hSW ?_
        simp only [Act.put, List.setIfInBounds_toArray, List.set_cons_zero, List.set_cons_succ]
        refine anyT_take (i := 1) (v := .pointer (some ⟨rb, 0, none⟩)) rfl (by kernel_rfl) (fun _ _ _ h => h) (Or.inl ⟨by rfl, fun w' hS => by go_simp⟩) hSW ?_
        simp only [Act.put, List.setIfInBounds_toArray, List.set_cons_zero, List.set_cons_succ]
        refine anyT_pure (i := 2) (v := .pointer (some ⟨rb, 0, none⟩)) rfl (by kernel_rfl) (fun _ _ _ h => h) (Or.inl ⟨by rfl, fun w' hS => by go_simp⟩) hSW ?_
        simp only [Act.put, List.setIfInBounds_toArray, List.set_cons_zero, List.set_cons_succ]
        refine anyT_pure (i := 3) (v := .pointer (some ⟨rb, 4, none⟩)) rfl (by kernel_rfl) (fun _ _ _ h => h) (Or.inl ⟨by rfl, fun w' hS => by go_simp⟩) hSW ?_
        simp only [Act.put, List.setIfInBounds_toArray, List.set_cons_zero, List.set_cons_succ]
        refine anyT_take (i := 4) (v := .slice ia cur.length icap) rfl (by kernel_rfl) (fun _ _ _ h => h) (Or.inl ⟨by rfl, fun w' hS => by go_simp⟩) hSW ?_
        simp only [Act.put, List.setIfInBounds_toArray, List.set_cons_zero, List.set_cons_succ]
        refine anyT_take (i := 5) (v := .agg #[.int .i64 k1, .int .i64 k2, .int .i64 k3]) rfl (by kernel_rfl) (fun _ _ _ h => h) (Or.inl ⟨by rfl, fun w' hS => by go_simp⟩) hSW ?_
        simp only [Act.put, List.setIfInBounds_toArray, List.set_cons_zero, List.set_cons_succ]
        refine anyT_one (k := 6) (by kernel_rfl) rfl (fun K hK => ?_)
        go_simp
        refine hK _ _ (fun _ => ?_) ?_
        · obtain ⟨s0, s1, s2, s3, s4⟩ := hSW
          exact ⟨(Hca.out.cell (lt_of_cell s0) (by simp)).trans s0, (Hca.out.cell (lt_of_cell s1) (by simp)).trans s1, (Hca.out.cell (lt_of_cell s2) (by simp)).trans s2, (Hca.out.cell (lt_of_cell s3) (by simp)).trans s3, (Hca.out.cell (lt_of_cell s4) (by simp)).trans s4⟩
        clear hK K
        refine anyT_one (k := 7) (by kernel_rfl) rfl (fun K hK => ?_)
        refine step_append_lies _ (by rfl) _ _ _ (by rfl) 0 43 i0 (.agg #[.int .i64 0, .int .i64 0, .int .i64 0]) 3 24 Try.underlying89 Hi0.out Hz0.out Hz1.out Hz2.out rfl (by omega) (.slice ia cur.length icap) cur.length (flat3 cur) (by rfl) (Hwd.out.row.alloc _) ⟨wd.heap.size, 0, none⟩ 1 1 [.int .i64 k1, .int .i64 k2, .int .i64 k3] (by rfl) (by rfl) (World.news_of_block (cs := #[.int .i64 k1, .int .i64 k2, .int .i64 k3]) (t := 43) (fr := (0, 0)) (heap_alloc_new wd _)) (by simp [Value.oneCell']) (by omega) (by unfold maxLen; omega) (by omega) (Nat.zero_le _) (wd.heap.size + 1) (by simp) ?_
        intro gg cap8 w8 hown8 hgr8 hat8 hlt8
        have hc8 := ((ChgP.refl (fun g => (Value.slice ia cur.length icap).ownBlock = some g) wd).alloc (.cells #[.int .i64 k1, .int .i64 k2, .int .i64 k3] 43)).grown hgr8 (fun k h => Or.inl h)
        have hat8' : ∀ g, (Value.slice (some (⟨gg, 0, none⟩ : Addr)) (cur.length + 1) cap8).ownBlock = some g → (Value.slice ia cur.length icap).ownBlock = some g ∨ wd.heap.size ≤ g := fun g hg => by
          simp only [Value.ownBlock, Option.some.injEq] at hg
          subst hg
          exact hat8.elim Or.inl (fun e => Or.inr (by rw [e]; exact Nat.le_succ _))
        have hrb8 := (hc8.block rb lrb2 (fun h => (Hwd.out.own h).2.1 rfl)).trans Hwd.out.res
        have r4 := cell_of_heap hrb8 (i := 4) rfl
        have fr4 := frozen_of_heap hrb8 (i := 4)
        have hpush := RbAt.push Hwd.out rfl Hin.out hown8 hc8
        have Hpush := Lib.hid hpush
        have Hc8 := Lib.hid hc8
        have Hat8 := Lib.hid hat8'
        have hS8 := And.intro ((hc8.cell (p := ⟨cr, 0, none⟩) lcr2 (fun h => (Hwd.out.own h).1 rfl)).trans hSW.1) (And.intro r4 (And.intro ((hc8.cell (p := ⟨wr.heap.size, 0, none⟩) lkey (fun h => Nat.lt_irrefl _ (Hia.out _ h))).trans hSW.2.2.1) (And.intro ((hc8.cell (p := ⟨wr.heap.size, 1, none⟩) lkey (fun h => Nat.lt_irrefl _ (Hia.out _ h))).trans hSW.2.2.2.1) ((hc8.cell (p := ⟨wr.heap.size, 2, none⟩) lkey (fun h => Nat.lt_irrefl _ (Hia.out _ h))).trans hSW.2.2.2.2))))
        go_simp
        refine hK _ _ (fun _ => hS8) ?_
        clear hK K hown8 hgr8 hat8 hlt8 hc8 hat8' hrb8 hpush hSW
        refine anyT_one (k := 8) (by kernel_rfl) rfl (fun K hK => ?_)
        go_simp
        refine hK _ _ (fun _ => hS8) ?_
        clear hK K
        refine anyT_one (k := 9) (by kernel_rfl) rfl (fun K hK => ?_)
        go_simp
        refine hK _ _ (fun _ => hS8) ?_
        clear hK K
        refine anyT_one (k := 10) (by kernel_rfl) rfl (fun K hK => ?_)
        go_simp
        refine hK _ _ (fun h => by simp at h) ?_
        clear hK K
        refine anyT_done (by kernel_rfl) ?_
        go_wp2_with fail
        refine ⟨⟨n + 1, .slice (some ⟨gg, 0, none⟩) (cur.length + 1) cap8, by omega, by go_num, ⟨?_, ?_, ?_⟩⟩, by simp [intOf]; omega⟩
        · rw [Hstep.out]
          exact Hpush.out
        · refine (HR.out.chg.new Hcj.out).comp ((Hc8.out.mono (T := fun g => g = rb ∨ (Value.slice ia cur.length icap).ownBlock = some g) fun _ h => Or.inr h).setCell (p := ⟨rb, 4, none⟩) (Or.inl (Or.inl rfl)) _) fun g hg => ?_
          rcases hg with rfl | hg
          · exact Or.inl (Or.inl rfl)
          · exact (HR.out.new g hg).imp Or.inr id
        · intro g hg
          rcases Hat8.out g hg with h1 | h1
          · exact HR.out.new g h1
          · have h2 := Hcj.out.size
            have h3 := HR.out.chg.size
            exact Or.inr (by omega)
    · obtain rfl : n = ks.length := by omega
      go_wp2_with fail
      refine Go.Great.bodyPost_end0 (by kernel_rfl) rfl ?_
      refine ⟨rfl, iv', ?_, HR.out.chg, HR.out.new⟩
      have := HR.out.at_
      rw [List.take_length] at this
      exact this
end Go.Proofs.Ytggiddhhbilcjaa.Sn
