/- change. -/
import Derived.Test.YtggiddhhbilcjaaSnK
namespace Go.Proofs.Ytggiddhhbilcjaa.Sn
open Go.RowKit Go.ChangeMaps Go.MapKept
set_option linter.unusedVariables false
set_option linter.unusedSimpArgs false
section
variable {w w' w3 : World} {d : Hm} {k : QK}
/-- a version is noted -/
theorem HmAt.putVer {e : Ve} {v' : Value} {o : Obj} (h : HmAt w d) (hi : Inp.Ints w (.slice e.a e.xs.length e.cap) e.xs ∧ e.xs.length * 8 ≤ 140737488355328) (hv : w3.ownsRow 0 130 3 v' ((gL d.VL k).length + 1) (encV (gL d.VL k) ++ [.int .i64 e.rev, .slice e.a e.xs.length e.cap, .string ⟨#[]⟩])) (hc : ChgP (fun g => (gV d.VL k).ownBlock = some g ∨ g = d.bv) w w3)
    (hn : ∀ g, v'.ownBlock = some g → (gV d.VL k).ownBlock = some g ∨ w.heap.size ≤ g) (hm : MapAt Try.prog 43 Inp.qk (setBlock w3 d.bv o) d.bv (ups (gE d.VL) k v')) :
    HmAt (setBlock w3 d.bv o) { d with VL := ups d.VL k (v', gL d.VL k ++ [e]) } ∧ ChgP (fun g => (gV d.VL k).ownBlock = some g ∨ g = d.bv) w (setBlock w3 d.bv o) := by
  have hs : ChgP (fun g => g = d.bv) w3 (setBlock w3 d.bv o) := (ChgP.refl (fun g => g = d.bv) w3).setBlock (Or.inl rfl) o
  have hall : ChgP (fun g => (gV d.VL k).ownBlock = some g ∨ g = d.bv) w (setBlock w3 d.bv o) := hc.comp hs fun g hg => Or.inl (Or.inr hg)
  have hty : ∀ g t, t ≠ none → t ≠ some 130 → tyAt w g = some t → ¬ ((gV d.VL k).ownBlock = some g ∨ g = d.bv) := by
    rintro g t h1 h2 ht (e | e)
    · rw [tyAt_own (h.V.row k) e] at ht; cases ht; exact h2 rfl
    · rw [e, tyAt_map h.V.mp] at ht; cases ht; exact h1 rfl
  have hI : ∀ g, (tyAt w g = some (some 3) ∨ tyAt w g = some (some 43)) → (setBlock w3 d.bv o).heap[g]? = w.heap[g]? := by
    rintro g (e | e)
    · exact hall.block g (tyAt_lt e) (hty g _ (by simp) (by decide) e)
    · exact hall.block g (tyAt_lt e) (hty g _ (by simp) (by decide) e)
  have hbr : ∀ g, g = d.br → ¬ ((gV d.VL k).ownBlock = some g ∨ g = d.bv) := by
    rintro g rfl (e | e)
    · have h1 := tyAt_own (h.V.row k) e
      rw [tyAt_map h.R.mp] at h1
      cases h1
    · exact h.ne e.symm
  refine ⟨⟨(hall.block _ (lt_of_obj h.box) (hty _ _ (by simp) (by decide) (tyAt_cells h.box))).trans h.box, ?_, h.R.kept hall (hbr _ rfl) fun x g hg => hty g _ (by simp) (by decide) (tyAt_own (h.R.row x) hg), fun x e' he' => ?_, fun x r hr => ?_, h.inj, h.ne⟩, hall⟩
  · refine h.V.push k (by rw [List.length_append, encV_snoc]; exact hv) hc hn hm fun g hg e => ?_
    obtain ⟨cur, h2⟩ := own_at hv hg
    rw [e] at h2
    rcases hn g hg with e1 | e1
    · have h3 := tyAt_own (h.V.row k) e1
      rw [e, tyAt_map h.V.mp] at h3
      cases h3
    · have := h.V.mp.lt; omega
  · simp only [gL_ups] at he'
    split at he'
    · rcases List.mem_append.1 he' with he' | he'
      · exact ⟨intsKept' (h.vn k e' he').1 fun g hg => hI g (Or.inl (tyAt_ints (h.vn k e' he').1 hg)), (h.vn k e' he').2⟩
      · rw [List.mem_singleton] at he'
        subst he'
        exact ⟨intsKept' hi.1 fun g hg => hI g (Or.inl (tyAt_ints hi.1 hg)), hi.2⟩
    · exact ⟨intsKept' (h.vn x e' he').1 fun g hg => hI g (Or.inl (tyAt_ints (h.vn x e' he').1 hg)), (h.vn x e' he').2⟩
  · have hr' := h.each x r hr
    exact hr'.kept (hall.block _ (lt_of_obj hr'.blk) (hty _ _ (by simp) (by decide) (tyAt_cells hr'.blk))) (fun g hg => hI g (Or.inl (tyAt_ints hr'.nums hg))) (fun g hg => hI g (Or.inr (tyAt_own hr'.ins hg)))
theorem AfterH.putVer {e : Ve} {v' : Value} {o : Obj} (h : HmAt w d) (hi : Inp.Ints w (.slice e.a e.xs.length e.cap) e.xs ∧ e.xs.length * 8 ≤ 140737488355328) (hv : w3.ownsRow 0 130 3 v' ((gL d.VL k).length + 1) (encV (gL d.VL k) ++ [.int .i64 e.rev, .slice e.a e.xs.length e.cap, .string ⟨#[]⟩])) (hc : ChgP (fun g => (gV d.VL k).ownBlock = some g ∨ g = d.bv) w w3)
    (hn : ∀ g, v'.ownBlock = some g → (gV d.VL k).ownBlock = some g ∨ w.heap.size ≤ g) (hm : MapAt Try.prog 43 Inp.qk (setBlock w3 d.bv o) d.bv (ups (gE d.VL) k v')) {N : Nat} (hN : N ≤ w.heap.size) (he : ∀ g ∈ oblk e.a, N ≤ g) :
    ∃ d1, HmAt (setBlock w3 d.bv o) d1 ∧ ChgP d.M w (setBlock w3 d.bv o) ∧ (∀ g, d1.M g → d.M g ∨ N ≤ g) ∧ (∀ g, d1.I g → d.I g ∨ N ≤ g) ∧ d1 = { d with VL := ups d.VL k (v', gL d.VL k ++ [e]) } := by
  obtain ⟨h1, h2⟩ := h.putVer hi hv hc hn hm
  refine ⟨_, h1, h2.mono ?_, ?_, ?_, rfl⟩
  · rintro g (hg | hg)
    · exact Or.inr (Or.inr (Or.inr (Or.inl ⟨k, hg⟩)))
    · exact Or.inr (Or.inl hg)
  · rintro g (hg | hg | hg | ⟨x, hg⟩ | hg | hg)
    · exact Or.inl (Or.inl hg)
    · exact Or.inl (Or.inr (Or.inl hg))
    · exact Or.inl (Or.inr (Or.inr (Or.inl hg)))
    · simp only [gV_ups] at hg
      split at hg
      · exact (hn g hg).imp (fun e => Or.inr (Or.inr (Or.inr (Or.inl ⟨k, e⟩)))) fun e => Nat.le_trans hN e
      · exact Or.inl (Or.inr (Or.inr (Or.inr (Or.inl ⟨x, hg⟩))))
    · exact Or.inl (Or.inr (Or.inr (Or.inr (Or.inr (Or.inl hg)))))
    · exact Or.inl (Or.inr (Or.inr (Or.inr (Or.inr (Or.inr hg)))))
  · rintro g (⟨x, e', he', hg⟩ | hg)
    · simp only [gL_ups] at he'
      split at he'
      · rcases List.mem_append.1 he' with he' | he'
        · exact Or.inl (Or.inl ⟨k, e', he', hg⟩)
        · rw [List.mem_singleton] at he'
          subst he'
          exact Or.inr (he g hg)
      · exact Or.inl (Or.inl ⟨x, e', he', hg⟩)
    · exact Or.inl (Or.inr hg)
end
theorem infoVer : (Try.prog.info? 130).map (fun i => (i.zero, i.size, i.bytes)) = some (some (.agg #[.int .i64 0, .slice none 0 0, .string ⟨#[]⟩]), 3, 48) := by kernel_rfl
/-- the old value has been read -/
def OldAt (ys : List Int) (wa : World) (bb : Nat) (wx : World) : Prop := ∃ a c, wx.heap[bb]? = some (.cells #[.slice a ys.length c, .string ⟨#[]⟩] 39 (0, 0)) ∧ Inp.Ints wx (.slice a ys.length c) ys ∧ Chg [] wa wx
theorem mem_gE {α : Type} {L : GLg α} {x : QK} {r : α} (h : r ∈ gL L x) : ∃ v, (x, v) ∈ gE L := by
  unfold gL at h
  cases ha : aget L x with
  | none => rw [ha] at h; simp at h
  | some p =>
    have := aget_mem ha
    unfold gE
    exact ⟨p.1, List.mem_map.2 ⟨(x, p), this, rfl⟩⟩
theorem gV_of_mem {α : Type} {L : GLg α} (hd : (L.map (·.1)).Nodup) {x : QK} {v : Value} (h : (x, v) ∈ gE L) : gV L x = v := by
  unfold gE at h
  obtain ⟨p, hp, e⟩ := List.mem_map.1 h
  simp only [Prod.mk.injEq] at e
  unfold gV
  rw [← e.1, aget_of_mem hd (x := p.1) (v := p.2) (by exact hp)]
  exact e.2
/-- the results are gone through; 'rest': the keys still to come -/
def OutRel (d d1 : Hm) (k : QK) (w : World) (it : Nat) (wr : World) : Prop := ∃ D rest, HmAt wr (d1.cut d.lat k D) ∧ RangeAt Try.prog 43 Inp.qk wr d.br it (gE d.RL) rest ∧ (∀ p ∈ rest, p ∈ gE d.RL) ∧ (∀ x r, r ∈ gL d.RL x → r.blk ∈ D ∨ ∃ v, (x, v) ∈ rest) ∧ ChgP d.M w wr ∧
  wr.heap[w.heap.size]? = some (.cells #[.int .i64 k.1, .int .i64 k.2.1, .int .i64 k.2.2] 43 (0, 0))
/-- the results of one key are gone through -/
structure InnRel (d d1 : Hm) (k : QK) (w : World) (it : Nat) (rest' : List (QK × Value)) (D : List Nat) (l : List Rs) (n : Nat) (D' : List Nat) (wr : World) : Prop where
  mem : HmAt wr (d1.cut d.lat k D')
  rng : RangeAt Try.prog 43 Inp.qk wr d.br it (gE d.RL) rest'
  sub : ∀ b ∈ D, b ∈ D'
  done : ∀ r ∈ l.take n, r.blk ∈ D'
  chg : ChgP d.M w wr
  key : wr.heap[w.heap.size]? = some (.cells #[.int .i64 k.1, .int .i64 k.2.1, .int .i64 k.2.2] 43 (0, 0))
theorem InnRel.more {d d1 : Hm} {k : QK} {w wr w' : World} {it n : Nat} {rest' : List (QK × Value)} {D D' : List Nat} {l : List Rs} (h : InnRel d d1 k w it rest' D l n D' wr) (hc : Chg [] wr w') : InnRel d d1 k w it rest' D l n D' w' :=
  ⟨h.mem.new hc, h.rng.kept hc (by simp) (by simp), h.sub, h.done, h.chg.new hc, (hc.block _ (lt_of_obj h.key) (by simp)).trans h.key⟩
theorem InnRel.skip {d d1 : Hm} {k : QK} {w wr : World} {it n : Nat} {rest' : List (QK × Value)} {D D' : List Nat} {l : List Rs} (h : InnRel d d1 k w it rest' D l n D' wr) (hR : d1.RL = d.RL) {x : QK} (hl : l = gL d.RL x) (hn : n < l.length) (hno : ¬ ((cutB d.lat k D' l[n]).last = fev ∧ k ∈ l[n].ins)) :
    InnRel d d1 k w it rest' D l (n + 1) (l[n].blk :: D') wr :=
  ⟨h.mem.cut_skip (x := x) (by rw [hR, ← hl]; exact List.getElem_mem _) hno, h.rng, fun b hb => List.mem_cons_of_mem _ (h.sub b hb), fun r hr => by
    rw [List.take_add_one, List.getElem?_eq_getElem hn] at hr
    rcases List.mem_append.1 hr with hr | hr
    · exact List.mem_cons_of_mem _ (h.done r hr)
    · simp at hr; rw [hr]; simp, h.chg, h.key⟩
theorem InnRel.set {d d1 : Hm} {k : QK} {w wr : World} {it n : Nat} {rest' : List (QK × Value)} {D D' : List Nat} {l : List Rs} (h : InnRel d d1 k w it rest' D l n D' wr) (hR : d1.RL = d.RL) (hbr : d1.br = d.br) (hL : d.lat - 1 ≠ fev) {x : QK} (hl : l = gL d.RL x) (hn : n < l.length) (hno : (cutB d.lat k D' l[n]).last = fev ∧ k ∈ l[n].ins) :
    InnRel d d1 k w it rest' D l (n + 1) (l[n].blk :: D') (wr.setCell ⟨l[n].blk, 1, none⟩ (.int .i64 (d.lat - 1))) := by
  have hmem : l[n] ∈ gL d1.RL x := by rw [hR, ← hl]; exact List.getElem_mem _
  obtain ⟨h1, h2⟩ := h.mem.cut_set hL hmem hno
  have hra := h.mem.each x (cutB d.lat k D' l[n]) (by unfold Hm.cut; simp only [gMap_L]; exact List.mem_map.2 ⟨_, hmem, rfl⟩)
  have hb := hra.blk
  rw [cutB_blk] at hb
  have hrng := h.rng
  obtain ⟨arr, clk, since, seen, c0, r1, r2, r3, r4, r5, r6⟩ := hrng
  refine ⟨h1, h.rng.of_blocks (h2.block _ (lt_of_obj r1) fun e => ?_) (h2.block _ (lt_of_obj r5) fun e => ?_), fun b hb => List.mem_cons_of_mem _ (h.sub b hb), fun r hr => ?_, h.chg.comp h2 fun g hg => Or.inl ?_, (h2.block _ (lt_of_obj h.key) fun e => ?_).trans h.key⟩
  · rw [e, hb] at r1; cases r1
  · rw [e, hb] at r5; cases r5
  · rw [List.take_add_one, List.getElem?_eq_getElem hn] at hr
    rcases List.mem_append.1 hr with hr | hr
    · exact List.mem_cons_of_mem _ (h.done r hr)
    · simp at hr; rw [hr]; simp
  · exact Or.inr (Or.inr (Or.inr (Or.inr (Or.inr ⟨x, l[n], by rw [← hl]; exact List.getElem_mem _, hg⟩))))
  · have := tyAt_cells h.key
    rw [e, tyAt_cells hb] at this
    cases this
/-- what change brings -/
def ChPost (k : QK) (xs : List Int) (w : World) (d : Hm) (e : Ending) (w' : World) : Prop := e = .returned (.tuple #[]) ∧ ∃ d', AfterH w w' d d' ∧ d'.pl = chgP d.pl k xs ∧ d'.mu = d.mu ∧ (d.RL = [] → d'.RL = [])
set_option maxRecDepth 100000 in
set_option maxHeartbeats 8000000 in
theorem change_any (w : World) (d : Hm) (k : QK) (va : Option Addr) (vc : Nat) (xs : List Int) (h : HmAt w d) (hk : Inp.QKok k) (hv : ∀ e ∈ gL d.VL k, 0 ≤ e.rev ∧ e.rev ≤ 1000000) (hfew : (gL d.VL k).length ≤ 200000) (hlat : 1 ≤ d.lat ∧ d.lat ≤ 1000000)
    (hx : Inp.Ints w (.slice va xs.length vc) xs) (hxl : xs.length * 8 ≤ 140737488355328) :
    Calls Try.prog 40 #[.pointer (some ⟨d.b, 0, none⟩), i3v k, .agg #[.slice va xs.length vc, .string ⟨#[]⟩]] w (ChPost k xs w d) := by
  obtain ⟨k1, k2, k3⟩ := k
  obtain ⟨wa, hwa⟩ : ∃ x, x = (w.alloc (.cells #[.int .i64 k1, .int .i64 k2, .int .i64 k3] 43)).alloc (.cells #[.slice va xs.length vc, .string ⟨#[]⟩] 39) := ⟨_, rfl⟩
  have hca : Chg [] w wa := by rw [hwa]; exact ((Chg.refl [] w).alloc _).alloc _
  have hsa : wa.heap.size = w.heap.size + 2 := by rw [hwa]; simp
  have hkb : wa.heap[w.heap.size]? = some (.cells #[.int .i64 k1, .int .i64 k2, .int .i64 k3] 43 (0, 0)) := by
    rw [hwa]; exact (heap_past _ _ _ (by simp)).trans (heap_at _ _ _ rfl)
  have hvb : wa.heap[w.heap.size + 1]? = some (.cells #[.slice va xs.length vc, .string ⟨#[]⟩] 39 (0, 0)) := by
    rw [hwa]; exact heap_at _ _ _ (by simp)
  obtain ⟨ys, hys⟩ : ∃ ys, ys = (d.pl.inp (k1, k2, k3) d.lat).1 := ⟨_, rfl⟩
  obtain ⟨fi, la, hinp⟩ : ∃ fi la, d.pl.inp (k1, k2, k3) d.lat = (ys, fi, la) := ⟨_, _, by rw [hys]⟩
  have q5 : wa.cell? ⟨d.b, 5, none⟩ = some (.int .i64 d.lat) := cell_of_heap (h.new hca).box rfl
  have e0 : wa.cell? ⟨w.heap.size, 0, none⟩ = some (.int .i64 k1) := cell_of_heap hkb rfl
  have e1 : wa.cell? ⟨w.heap.size, 1, none⟩ = some (.int .i64 k2) := cell_of_heap hkb rfl
  have e2 : wa.cell? ⟨w.heap.size, 2, none⟩ = some (.int .i64 k3) := cell_of_heap hkb rfl
  have H := Lib.hid h
  have Hk := Lib.hid hk
  have Hv := Lib.hid hv
  have Hca := Lib.hid hca
  have Hb := Lib.hid (And.intro hkb hvb)
  have Hsa := Lib.hid hsa
  have Hinp := Lib.hid hinp
  have Hys := Lib.hid hys
  have Hx := Lib.hid hx
  clear h hk hv hca hkb hvb hsa hinp hys hx
  unfold i3v
  go_enter Try.func40, Try.ntmps40
  go_upto_region 1 with fail
  rw [← hwa]
  clear hwa
  go_cut [6, 7, 8] (fun x6 x7 x8 wx => ∃ bb f l, x6 = .pointer (some ⟨bb, 0, none⟩) ∧ x7 = .int .i64 f ∧ x8 = .int .i64 l ∧ OldAt ys wa bb wx)
  case first =>
    refine wp_region_U (fun w' => w'.cell? ⟨d.b, 5, none⟩ = some (.int .i64 d.lat) ∧ w'.cell? ⟨w.heap.size, 0, none⟩ = some (.int .i64 k1) ∧ w'.cell? ⟨w.heap.size, 1, none⟩ = some (.int .i64 k2) ∧ w'.cell? ⟨w.heap.size, 2, none⟩ = some (.int .i64 k3)) (fun _ => True) 12 (by kernel_rfl) ?_
    intro wd hwd
    have hcd : Chg [] wa wd := by rw [hwd]; exact (Chg.refl _ _).drew
    have hSW := And.intro ((hcd.cell (lt_of_cell q5) (by simp)).trans q5) (And.intro ((hcd.cell (lt_of_cell e0) (by simp)).trans e0) (And.intro ((hcd.cell (lt_of_cell e1) (by simp)).trans e1) ((hcd.cell (lt_of_cell e2) (by simp)).trans e2)))
    have hin := fun W (hW : Chg [] w W) => input_any W d (k1, k2, k3) d.lat (H.out.new hW) Hk.out Hv.out
    unfold InPost at hin
    simp only [Hinp.out] at hin
    have Hin := Lib.hid hin
    have Hcd := Lib.hid hcd
    clear hwd hcd hin q5 e0 e1 e2
    refine anyU_pure (i := 0) (v := .pointer (some ⟨d.b, 0, none⟩)) rfl (by kernel_rfl) (fun _ _ _ h => h) (Or.inl ⟨by rfl, fun w' hS => by go_simp⟩) (fun _ => hSW) trivial ?_
    simp only [Act.put, List.setIfInBounds_toArray, List.set_cons_zero, List.set_cons_succ]
    refine anyU_take (i := 1) (v := .agg #[.int .i64 k1, .int .i64 k2, .int .i64 k3]) rfl (by kernel_rfl) (fun _ _ _ h => h) (Or.inl ⟨by rfl, fun w' hS => by go_simp⟩) hSW trivial ?_
    simp only [Act.put, List.setIfInBounds_toArray, List.set_cons_zero, List.set_cons_succ]
    refine anyU_pure (i := 2) (v := .pointer (some ⟨d.b, 0, none⟩)) rfl (by kernel_rfl) (fun _ _ _ h => h) (Or.inl ⟨by rfl, fun w' hS => by go_simp⟩) (fun _ => hSW) trivial ?_
    simp only [Act.put, List.setIfInBounds_toArray, List.set_cons_zero, List.set_cons_succ]
    refine anyU_pure (i := 3) (v := .pointer (some ⟨d.b, 0, none⟩)) rfl (by kernel_rfl) (fun _ _ _ h => h) (Or.inl ⟨by rfl, fun w' hS => by go_simp⟩) (fun _ => hSW) trivial ?_
    simp only [Act.put, List.setIfInBounds_toArray, List.set_cons_zero, List.set_cons_succ]
    refine anyU_pure (i := 4) (v := .pointer (some ⟨d.b, 5, none⟩)) rfl (by kernel_rfl) (fun _ _ _ h => h) (Or.inl ⟨by rfl, fun w' hS => by go_simp⟩) (fun _ => hSW) trivial ?_
    simp only [Act.put, List.setIfInBounds_toArray, List.set_cons_zero, List.set_cons_succ]
    refine anyU_take (i := 5) (v := .int .i64 d.lat) rfl (by kernel_rfl) (fun _ _ _ h => h) (Or.inl ⟨by rfl, fun w' hS => by go_simp⟩) hSW trivial ?_
    simp only [Act.put, List.setIfInBounds_toArray, List.set_cons_zero, List.set_cons_succ]
    refine anyU_two (k := 6) (k' := 11) (by kernel_rfl) rfl rfl (fun K hK => ?_) (fun K hK => ?_)
    · go_simp
      refine (Hin.out _ (Hca.out.trans Hcd.out)).mono ?_
      rintro e w1 ⟨a1, c1, rfl, hi1, hx1, hc1⟩
      have hS1 := And.intro ((hc1.cell (lt_of_cell hSW.1) (by simp)).trans hSW.1) (And.intro ((hc1.cell (lt_of_cell hSW.2.1) (by simp)).trans hSW.2.1) (And.intro ((hc1.cell (lt_of_cell hSW.2.2.1) (by simp)).trans hSW.2.2.1) ((hc1.cell (lt_of_cell hSW.2.2.2) (by simp)).trans hSW.2.2.2)))
      have Hc1 := Lib.hid (Hcd.out.trans hc1)
      have Hi1 := Lib.hid hi1
      clear hi1 hx1 hc1 hSW
      refine hK _ _ (fun _ => hS1) trivial ?_
      clear hK K
      refine anyU_pure (i := 7) (v := .tuple #[.agg #[.slice a1 ys.length c1, .string ⟨#[]⟩], .int .i64 fi, .int .i64 la]) rfl (by kernel_rfl) (fun _ _ _ h => h) (Or.inl ⟨by rfl, fun w' hS => by go_simp⟩) (fun _ => hS1) trivial ?_
      simp only [Act.put, List.setIfInBounds_toArray, List.set_cons_zero, List.set_cons_succ]
      refine anyU_pure (i := 8) (v := .agg #[.slice a1 ys.length c1, .string ⟨#[]⟩]) rfl (by kernel_rfl) (fun _ _ _ h => h) (Or.inl ⟨by rfl, fun w' hS => by go_simp⟩) (fun _ => hS1) trivial ?_
      simp only [Act.put, List.setIfInBounds_toArray, List.set_cons_zero, List.set_cons_succ]
      refine anyU_pure (i := 9) (v := .int .i64 fi) rfl (by kernel_rfl) (fun _ _ _ h => h) (Or.inl ⟨by rfl, fun w' hS => by go_simp⟩) (fun _ => hS1) trivial ?_
      simp only [Act.put, List.setIfInBounds_toArray, List.set_cons_zero, List.set_cons_succ]
      refine anyU_pure (i := 10) (v := .int .i64 la) rfl (by kernel_rfl) (fun _ _ _ h => h) (Or.inl ⟨by rfl, fun w' hS => by go_simp⟩) (fun _ => hS1) trivial ?_
      simp only [Act.put, List.setIfInBounds_toArray, List.set_cons_zero, List.set_cons_succ]
      refine anyU_one (k := 11) (by kernel_rfl) rfl (fun K hK => ?_)
      go_simp
      have hcb := (Chg.refl [] w1).alloc (.cells #[.slice none 0 0, .string ⟨#[]⟩] 39)
      have hS2 := And.intro ((hcb.cell (lt_of_cell hS1.1) (by simp)).trans hS1.1) (And.intro ((hcb.cell (lt_of_cell hS1.2.1) (by simp)).trans hS1.2.1) (And.intro ((hcb.cell (lt_of_cell hS1.2.2.1) (by simp)).trans hS1.2.2.1) ((hcb.cell (lt_of_cell hS1.2.2.2) (by simp)).trans hS1.2.2.2)))
      clear hcb
      refine hK _ _ (fun _ => hS2) trivial ?_
      clear hK K
      refine anyU_one (k := 12) (by kernel_rfl) rfl (fun K hK => ?_)
      go_simp
      refine hK _ _ (fun h => by simp at h) trivial ?_
      clear hK K
      refine anyU_one (k := 13) (by kernel_rfl) rfl (fun K hK => ?_)
      go_simp
      refine hK _ _ (fun h => by simp at h) trivial ?_
      clear hK K
      refine anyU_one (k := 14) (by kernel_rfl) rfl (fun K hK => ?_)
      go_simp
      refine hK _ _ (fun h => by simp at h) trivial ?_
      clear hK K
      refine anyU_done (by kernel_rfl) ?_
      clear hS1 hS2
      go_wp2_with fail
      go_meet
      exact ⟨w1.heap.size, fi, la, rfl, rfl, rfl, a1, c1, heap_at _ _ _ rfl, Hi1.out.same ((Chg.refl _ _).alloc _), Hc1.out.alloc _⟩
    · go_simp
      have hcb := (Chg.refl [] wd).alloc (.cells #[.slice none 0 0, .string ⟨#[]⟩] 39)
      have hbb := heap_at wd (.cells #[.slice none 0 0, .string ⟨#[]⟩] 39) wd.heap.size rfl
      obtain ⟨we, hwe⟩ : ∃ x, x = wd.alloc (.cells #[.slice none 0 0, .string ⟨#[]⟩] 39) := ⟨_, rfl⟩
      rw [← hwe] at hcb hbb ⊢
      have hS2 := And.intro ((hcb.cell (lt_of_cell hSW.1) (by simp)).trans hSW.1) (And.intro ((hcb.cell (lt_of_cell hSW.2.1) (by simp)).trans hSW.2.1) (And.intro ((hcb.cell (lt_of_cell hSW.2.2.1) (by simp)).trans hSW.2.2.1) ((hcb.cell (lt_of_cell hSW.2.2.2) (by simp)).trans hSW.2.2.2)))
      have Hce := Lib.hid (Hcd.out.trans hcb)
      have Hbb := Lib.hid hbb
      clear hwe hcb hbb hSW
      refine hK _ _ (fun _ => hS2) trivial ?_
      clear hK K
      refine anyU_one (k := 6) (by kernel_rfl) rfl (fun K hK => ?_)
      go_simp
      refine (Hin.out _ (Hca.out.trans Hce.out)).mono ?_
      rintro e w1 ⟨a1, c1, rfl, hi1, hx1, hc1⟩
      have hS1 := And.intro ((hc1.cell (lt_of_cell hS2.1) (by simp)).trans hS2.1) (And.intro ((hc1.cell (lt_of_cell hS2.2.1) (by simp)).trans hS2.2.1) (And.intro ((hc1.cell (lt_of_cell hS2.2.2.1) (by simp)).trans hS2.2.2.1) ((hc1.cell (lt_of_cell hS2.2.2.2) (by simp)).trans hS2.2.2.2)))
      have hbb1 := (hc1.block _ (lt_of_obj Hbb.out) (by simp)).trans Hbb.out
      have n0 : w1.cell? ⟨wd.heap.size, 0, none⟩ = some (.slice none 0 0) := cell_of_heap hbb1 rfl
      have n1 : w1.cell? ⟨wd.heap.size, 1, none⟩ = some (.string ⟨#[]⟩) := cell_of_heap hbb1 rfl
      have nf0 := frozen_of_heap hbb1 (i := 0)
      have nf1 := frozen_of_heap hbb1 (i := 1)
      have Hc1 := Lib.hid (Hce.out.trans hc1)
      have Hi1 := Lib.hid hi1
      have Hbb1 := Lib.hid hbb1
      clear hi1 hx1 hc1 hS2 hbb1
      refine hK _ _ (fun _ => hS1) trivial ?_
      clear hK K
      refine anyU_pure (i := 7) (v := .tuple #[.agg #[.slice a1 ys.length c1, .string ⟨#[]⟩], .int .i64 fi, .int .i64 la]) rfl (by kernel_rfl) (fun _ _ _ h => h) (Or.inl ⟨by rfl, fun w' hS => by go_simp⟩) (fun _ => hS1) trivial ?_
      simp only [Act.put, List.setIfInBounds_toArray, List.set_cons_zero, List.set_cons_succ]
      refine anyU_pure (i := 8) (v := .agg #[.slice a1 ys.length c1, .string ⟨#[]⟩]) rfl (by kernel_rfl) (fun _ _ _ h => h) (Or.inl ⟨by rfl, fun w' hS => by go_simp⟩) (fun _ => hS1) trivial ?_
      simp only [Act.put, List.setIfInBounds_toArray, List.set_cons_zero, List.set_cons_succ]
      refine anyU_pure (i := 9) (v := .int .i64 fi) rfl (by kernel_rfl) (fun _ _ _ h => h) (Or.inl ⟨by rfl, fun w' hS => by go_simp⟩) (fun _ => hS1) trivial ?_
      simp only [Act.put, List.setIfInBounds_toArray, List.set_cons_zero, List.set_cons_succ]
      refine anyU_pure (i := 10) (v := .int .i64 la) rfl (by kernel_rfl) (fun _ _ _ h => h) (Or.inl ⟨by rfl, fun w' hS => by go_simp⟩) (fun _ => hS1) trivial ?_
      simp only [Act.put, List.setIfInBounds_toArray, List.set_cons_zero, List.set_cons_succ]
      refine anyU_one (k := 12) (by kernel_rfl) rfl (fun K hK => ?_)
      go_simp
      refine hK _ _ (fun h => by simp at h) trivial ?_
      clear hK K
      refine anyU_one (k := 13) (by kernel_rfl) rfl (fun K hK => ?_)
      go_simp
      refine hK _ _ (fun h => by simp at h) trivial ?_
      clear hK K
      refine anyU_one (k := 14) (by kernel_rfl) rfl (fun K hK => ?_)
      go_simp
      refine hK _ _ (fun h => by simp at h) trivial ?_
      clear hK K
      refine anyU_done (by kernel_rfl) ?_
      clear hS1 n0 n1 nf0 nf1
      go_wp2_with fail
      go_meet
      exact ⟨wd.heap.size, fi, la, rfl, rfl, rfl, a1, c1, box_set Hbb1.out _ _, box_ints Hbb1.out _ _ Hi1.out, box_chg Hc1.out Hcd.out.size _ _⟩
  case rest =>
    obtain ⟨bb, f, l, rfl, rfl, rfl, a1, c1, hbb, hi1, hc1⟩ := hcut
    have hkc := (hc1.block _ (lt_of_obj Hb.out.1) (by simp)).trans Hb.out.1
    have hvc := (hc1.block _ (lt_of_obj Hb.out.2) (by simp)).trans Hb.out.2
    have o0 : wc.cell? ⟨bb, 0, none⟩ = some (.slice a1 ys.length c1) := cell_of_heap hbb rfl
    have o1 : wc.cell? ⟨bb, 1, none⟩ = some (.string ⟨#[]⟩) := cell_of_heap hbb rfl
    have v0 : wc.cell? ⟨w.heap.size + 1, 0, none⟩ = some (.slice va xs.length vc) := cell_of_heap hvc rfl
    have v1 : wc.cell? ⟨w.heap.size + 1, 1, none⟩ = some (.string ⟨#[]⟩) := cell_of_heap hvc rfl
    have heq : ∃ t : Bool, (t = true ↔ ys = xs) ∧ Calls Try.prog 65 #[.agg #[.slice a1 ys.length c1, .string ⟨#[]⟩], .agg #[.slice va xs.length vc, .string ⟨#[]⟩]] wc fun e w' => e = .returned (.bool t) ∧ Chg [] wc w' :=
      ⟨decide ((⟨#[]⟩ : ByteArray) = ⟨#[]⟩ ∧ ys = xs), by simp, Inp.inputsEqual wc (.slice a1 ys.length c1) (.slice va xs.length vc) ⟨#[]⟩ ⟨#[]⟩ ys xs hi1 (Hx.out.same (Hca.out.trans hc1))⟩
    obtain ⟨t, ht, heq⟩ := heq
    have Heq := Lib.hid heq
    have Ht := Lib.hid ht
    clear ht heq
    have Hc1 := Lib.hid (Hca.out.trans hc1)
    have Hkc := Lib.hid (And.intro hkc hvc)
    clear hkc hvc hbb hi1 hc1
    go_wp2_with fail
    refine Heq.out.mono ?_
    rintro e w2 ⟨rfl, hc2⟩
    have Hc2 := Lib.hid (Hc1.out.trans hc2)
    have Hk2 := Lib.hid (And.intro ((hc2.block _ (lt_of_obj Hkc.out.1) (by simp)).trans Hkc.out.1) ((hc2.block _ (lt_of_obj Hkc.out.2) (by simp)).trans Hkc.out.2))
    clear hc2 o0 o1 v0 v1
    cases t
    case true =>
      have Hxy := Lib.hid (Ht.out.1 rfl)
      go_wp2_with fail
      refine Go.Great.bodyPost_end0 (by kernel_rfl) rfl ?_
      refine ⟨rfl, d, AfterH.new H.out Hc2.out, ?_, rfl, id⟩
      unfold chgP
      rw [if_pos (by rw [show d.pl.lat = d.lat from rfl, ← Hys.out]; exact Hxy.out)]
    case false =>
      have Hxy := Lib.hid (show ¬ ys = xs from fun h => by have := Ht.out.2 h; cases this)
      have h2 := H.out.new Hc2.out
      have m3 : w2.cell? ⟨d.b, 3, none⟩ = some (.map (some d.bv)) := cell_of_heap h2.box rfl
      have q5 : w2.cell? ⟨d.b, 5, none⟩ = some (.int .i64 d.lat) := cell_of_heap h2.box rfl
      have e0 : w2.cell? ⟨w.heap.size, 0, none⟩ = some (.int .i64 k1) := cell_of_heap Hk2.out.1 rfl
      have e1 : w2.cell? ⟨w.heap.size, 1, none⟩ = some (.int .i64 k2) := cell_of_heap Hk2.out.1 rfl
      have e2 : w2.cell? ⟨w.heap.size, 2, none⟩ = some (.int .i64 k3) := cell_of_heap Hk2.out.1 rfl
      have v0 : w2.cell? ⟨w.heap.size + 1, 0, none⟩ = some (.slice va xs.length vc) := cell_of_heap Hk2.out.2 rfl
      have v1 : w2.cell? ⟨w.heap.size + 1, 1, none⟩ = some (.string ⟨#[]⟩) := cell_of_heap Hk2.out.2 rfl
      clear h2
      go_wp2_with fail
      refine wp_region_U (fun w' => w'.cell? ⟨d.b, 3, none⟩ = some (.map (some d.bv)) ∧ w'.cell? ⟨d.b, 5, none⟩ = some (.int .i64 d.lat) ∧ w'.cell? ⟨w.heap.size, 0, none⟩ = some (.int .i64 k1) ∧ w'.cell? ⟨w.heap.size, 1, none⟩ = some (.int .i64 k2) ∧ w'.cell? ⟨w.heap.size, 2, none⟩ = some (.int .i64 k3) ∧ w'.cell? ⟨w.heap.size + 1, 0, none⟩ = some (.slice va xs.length vc) ∧ w'.cell? ⟨w.heap.size + 1, 1, none⟩ = some (.string ⟨#[]⟩)) (fun _ => True) 13 (by kernel_rfl) ?_
      intro wd hwd
      have hcd : Chg [] w2 wd := by rw [hwd]; exact (Chg.refl _ _).drew
      have hS2 := And.intro m3 (And.intro q5 (And.intro e0 (And.intro e1 (And.intro e2 (And.intro v0 v1)))))
      have hSW := And.intro ((hcd.cell (lt_of_cell hS2.1) (by simp)).trans hS2.1) (And.intro ((hcd.cell (lt_of_cell hS2.2.1) (by simp)).trans hS2.2.1) (And.intro ((hcd.cell (lt_of_cell hS2.2.2.1) (by simp)).trans hS2.2.2.1) (And.intro ((hcd.cell (lt_of_cell hS2.2.2.2.1) (by simp)).trans hS2.2.2.2.1) (And.intro ((hcd.cell (lt_of_cell hS2.2.2.2.2.1) (by simp)).trans hS2.2.2.2.2.1) (And.intro ((hcd.cell (lt_of_cell hS2.2.2.2.2.2.1) (by simp)).trans hS2.2.2.2.2.2.1) ((hcd.cell (lt_of_cell hS2.2.2.2.2.2.2) (by simp)).trans hS2.2.2.2.2.2.2))))))
      have Hcl := Lib.hid (clone_any wd (.slice va xs.length vc) ⟨#[]⟩ xs (Hx.out.same (Hc2.out.trans hcd)) hxl)
      have Hcd := Lib.hid (Hc2.out.trans hcd)
      have Hkd := Lib.hid (And.intro ((hcd.block _ (lt_of_obj Hk2.out.1) (by simp)).trans Hk2.out.1) ((hcd.block _ (lt_of_obj Hk2.out.2) (by simp)).trans Hk2.out.2))
      clear hwd hcd m3 q5 e0 e1 e2 v0 v1 hS2
      refine anyU_pure (i := 0) (v := .pointer (some ⟨d.b, 0, none⟩)) rfl (by kernel_rfl) (fun _ _ _ h => h) (Or.inl ⟨by rfl, fun w' hS => by go_simp⟩) (fun _ => hSW) trivial ?_
      simp only [Act.put, List.setIfInBounds_toArray, List.set_cons_zero, List.set_cons_succ]
      refine anyU_pure (i := 1) (v := .pointer (some ⟨d.b, 0, none⟩)) rfl (by kernel_rfl) (fun _ _ _ h => h) (Or.inl ⟨by rfl, fun w' hS => by go_simp⟩) (fun _ => hSW) trivial ?_
      simp only [Act.put, List.setIfInBounds_toArray, List.set_cons_zero, List.set_cons_succ]
      refine anyU_pure (i := 2) (v := .pointer (some ⟨d.b, 3, none⟩)) rfl (by kernel_rfl) (fun _ _ _ h => h) (Or.inl ⟨by rfl, fun w' hS => by go_simp⟩) (fun _ => hSW) trivial ?_
      simp only [Act.put, List.setIfInBounds_toArray, List.set_cons_zero, List.set_cons_succ]
      refine anyU_take (i := 3) (v := .map (some d.bv)) rfl (by kernel_rfl) (fun _ _ _ h => h) (Or.inl ⟨by rfl, fun w' hS => by go_simp⟩) hSW trivial ?_
      simp only [Act.put, List.setIfInBounds_toArray, List.set_cons_zero, List.set_cons_succ]
      refine anyU_take (i := 4) (v := .agg #[.int .i64 k1, .int .i64 k2, .int .i64 k3]) rfl (by kernel_rfl) (fun _ _ _ h => h) (Or.inl ⟨by rfl, fun w' hS => by go_simp⟩) hSW trivial ?_
      simp only [Act.put, List.setIfInBounds_toArray, List.set_cons_zero, List.set_cons_succ]
      refine anyU_pure (i := 5) (v := .pointer (some ⟨d.b, 0, none⟩)) rfl (by kernel_rfl) (fun _ _ _ h => h) (Or.inl ⟨by rfl, fun w' hS => by go_simp⟩) (fun _ => hSW) trivial ?_
      simp only [Act.put, List.setIfInBounds_toArray, List.set_cons_zero, List.set_cons_succ]
      refine anyU_pure (i := 6) (v := .pointer (some ⟨d.b, 0, none⟩)) rfl (by kernel_rfl) (fun _ _ _ h => h) (Or.inl ⟨by rfl, fun w' hS => by go_simp⟩) (fun _ => hSW) trivial ?_
      simp only [Act.put, List.setIfInBounds_toArray, List.set_cons_zero, List.set_cons_succ]
      refine anyU_pure (i := 7) (v := .pointer (some ⟨d.b, 5, none⟩)) rfl (by kernel_rfl) (fun _ _ _ h => h) (Or.inl ⟨by rfl, fun w' hS => by go_simp⟩) (fun _ => hSW) trivial ?_
      simp only [Act.put, List.setIfInBounds_toArray, List.set_cons_zero, List.set_cons_succ]
      refine anyU_take (i := 8) (v := .int .i64 d.lat) rfl (by kernel_rfl) (fun _ _ _ h => h) (Or.inl ⟨by rfl, fun w' hS => by go_simp⟩) hSW trivial ?_
      simp only [Act.put, List.setIfInBounds_toArray, List.set_cons_zero, List.set_cons_succ]
      refine anyU_take (i := 9) (v := .agg #[.slice va xs.length vc, .string ⟨#[]⟩]) rfl (by kernel_rfl) (fun _ _ _ h => h) (Or.inl ⟨by rfl, fun w' hS => by go_simp⟩) hSW trivial ?_
      simp only [Act.put, List.setIfInBounds_toArray, List.set_cons_zero, List.set_cons_succ]
      refine anyU_one (k := 10) (by kernel_rfl) rfl (fun K hK => ?_)
      go_simp
      refine Hcl.out.mono ?_
      rintro e w3 ⟨a3, c3, rfl, hi3, hn3, hc3⟩
      have hS3 := And.intro ((hc3.cell (lt_of_cell hSW.1) (by simp)).trans hSW.1) (And.intro ((hc3.cell (lt_of_cell hSW.2.1) (by simp)).trans hSW.2.1) (And.intro ((hc3.cell (lt_of_cell hSW.2.2.1) (by simp)).trans hSW.2.2.1) (And.intro ((hc3.cell (lt_of_cell hSW.2.2.2.1) (by simp)).trans hSW.2.2.2.1) (And.intro ((hc3.cell (lt_of_cell hSW.2.2.2.2.1) (by simp)).trans hSW.2.2.2.2.1) (And.intro ((hc3.cell (lt_of_cell hSW.2.2.2.2.2.1) (by simp)).trans hSW.2.2.2.2.2.1) ((hc3.cell (lt_of_cell hSW.2.2.2.2.2.2) (by simp)).trans hSW.2.2.2.2.2.2))))))
      have Hc3 := Lib.hid (Hcd.out.trans hc3)
      have Hk3 := Lib.hid ((hc3.block _ (lt_of_obj Hkd.out.1) (by simp)).trans Hkd.out.1)
      have Hi3 := Lib.hid hi3
      have Hn3 := Lib.hid (show ∀ g ∈ oblk a3, w.heap.size ≤ g from fun g hg => by
        cases a3 with
        | none => simp [oblk] at hg
        | some ad =>
          simp [oblk] at hg
          subst hg
          have h1 := hn3 ad rfl
          have h2 := Hcd.out.size
          omega)
      clear hi3 hn3 hc3 hSW
      refine hK _ _ (fun _ => hS3) trivial ?_
      clear hK K
      refine anyU_pure (i := 11) (v := .agg #[.int .i64 d.lat, .slice a3 xs.length c3, .string ⟨#[]⟩]) rfl (by kernel_rfl) (fun _ _ _ h => h) (Or.inl ⟨by rfl, fun w' hS => by go_simp⟩) (fun _ => hS3) trivial ?_
      simp only [Act.put, List.setIfInBounds_toArray, List.set_cons_zero, List.set_cons_succ]
      refine anyU_one (k := 12) (by kernel_rfl) rfl (fun K hK => ?_)
      go_simp
      obtain ⟨wb, hwb⟩ : ∃ x, x = w3.alloc (.cells #[.int .i64 d.lat, .slice a3 xs.length c3, .string ⟨#[]⟩] 130) := ⟨_, rfl⟩
      rw [← hwb]
      have hcb : Chg [] w3 wb := by rw [hwb]; exact (Chg.refl _ _).alloc _
      have hrowb : wb.heap[w3.heap.size]? = some (.cells #[.int .i64 d.lat, .slice a3 xs.length c3, .string ⟨#[]⟩] 130 (0, 0)) := by rw [hwb]; exact heap_at _ _ _ rfl
      have hSb := And.intro ((hcb.cell (lt_of_cell hS3.1) (by simp)).trans hS3.1) (And.intro ((hcb.cell (lt_of_cell hS3.2.1) (by simp)).trans hS3.2.1) (And.intro ((hcb.cell (lt_of_cell hS3.2.2.1) (by simp)).trans hS3.2.2.1) (And.intro ((hcb.cell (lt_of_cell hS3.2.2.2.1) (by simp)).trans hS3.2.2.2.1) (And.intro ((hcb.cell (lt_of_cell hS3.2.2.2.2.1) (by simp)).trans hS3.2.2.2.2.1) (And.intro ((hcb.cell (lt_of_cell hS3.2.2.2.2.2.1) (by simp)).trans hS3.2.2.2.2.2.1) ((hcb.cell (lt_of_cell hS3.2.2.2.2.2.2) (by simp)).trans hS3.2.2.2.2.2.2))))))
      have hMb := (H.out.new (Hc3.out.trans hcb)).V
      obtain ⟨o, st, hent, -, hstore⟩ := entry_update Inp.qkeyed Inp.qk_inj Try.underlying77 zeroVs hMb.mp (Inp.qkOk Hk.out)
      have hgE : (aget (gE d.VL) (k1, k2, k3)).getD (.slice none 0 0) = gV d.VL (k1, k2, k3) := by
        rw [gE_get]; unfold gV; rfl
      rw [hgE] at hent
      unfold Inp.qk goInt at hent
      unfold goInt at hstore
      obtain ⟨ga, gcap, hgv⟩ := ownsRow_shape (hMb.row (k1, k2, k3))
      obtain ⟨m, hmm⟩ : ∃ m, m = (gL d.VL (k1, k2, k3)).length := ⟨_, rfl⟩
      rw [← hmm] at hgv hfew
      rw [hgv] at hent
      have Hmm := Lib.hid hmm
      clear hmm
      obtain ⟨we2, hwe2⟩ : ∃ x, x = setBlock wb d.bv o := ⟨_, rfl⟩
      have hcs : ChgP (fun g => g = d.bv) wb we2 := by rw [hwe2]; exact (ChgP.refl (fun g => g = d.bv) wb).setBlock (Or.inl rfl) o
      have hbr2 : we2.heap[d.bv]? = some o := by
        rw [hwe2]
        obtain ⟨arr', clk', h1, _⟩ := hMb.mp
        exact heap_setBlock_same h1 _
      have hnbr : ∀ {g : Nat} {c : Array Value} {T : TypeId} {fr : Nat × Nat}, wb.heap[g]? = some (.cells c T fr) → g ≠ d.bv := fun {g c T fr} hg e => by
        have h1 := tyAt_map hMb.mp
        rw [← e, tyAt_cells hg] at h1
        cases h1
      have hrow2 : we2.ownsRow 0 130 3 (.slice ga m gcap) m (encV (gL d.VL (k1, k2, k3))) := by
        have h1 := hMb.row (k1, k2, k3)
        rw [hgv, ← Hmm.out] at h1
        exact ownsRow_kept h1 fun g hg hl => hcs.block g hl (by obtain ⟨cur, h2⟩ := own_at h1 hg; exact hnbr h2)
      have hnown : ∀ g, (Value.slice ga m gcap).ownBlock = some g → g ≠ d.bv := fun g hg => by
        have h1 := hMb.row (k1, k2, k3)
        rw [hgv, ← Hmm.out] at h1
        obtain ⟨cur, h2⟩ := own_at h1 hg
        exact hnbr h2
      have hnews2 := (hcs.block _ (lt_of_obj hrowb) (hnbr hrowb)).trans hrowb
      have hboxb := (H.out.new (Hc3.out.trans hcb)).box
      have hB : ∀ {g : Nat} {c : Array Value} {T : TypeId}, wb.heap[g]? = some (.cells c T (0, 0)) → we2.heap[g]? = some (.cells c T (0, 0)) := fun {g c T} hg => (hcs.block g (lt_of_obj hg) (hnbr hg)).trans hg
      have hneo : ∀ {g : Nat} {c : Array Value} {T : TypeId}, we2.heap[g]? = some (.cells c T (0, 0)) → T ≠ 130 → ¬ (Value.slice ga m gcap).ownBlock = some g := fun {g c T} hg hT e => by
        have h1 := tyAt_own hrow2 e
        rw [tyAt_cells hg] at h1
        exact hT (Option.some.inj (Option.some.inj h1))
      have hkb2 := hB ((hcb.block _ (lt_of_obj Hk3.out) (by simp)).trans Hk3.out)
      have Hcb := Lib.hid hcb
      refine hK _ _ (fun _ => hSb) trivial ?_
      clear hK K hwb hS3 hSb hcb hB
      refine anyU_one (k := 13) (by kernel_rfl) rfl (fun K hK => ?_)
      go_simp
      rw [← hwe2]
      refine hK _ _ (fun h => by simp at h) trivial ?_
      have Hwe2 := Lib.hid hwe2
      clear hK K hent hwe2
      refine anyU_pure (i := 14) (v := .slice ga m gcap) rfl (by kernel_rfl) (fun _ _ _ h => h) (Or.inl ⟨by rfl, fun w' hS => by go_simp⟩) (fun h => by simp at h) trivial ?_
      simp only [Act.put, List.setIfInBounds_toArray, List.set_cons_zero, List.set_cons_succ]
      refine anyU_pure (i := 16) (v := .int .i64 (st : Int)) rfl (by kernel_rfl) (fun _ _ _ h => h) (Or.inl ⟨by rfl, fun w' hS => by go_simp⟩) (fun h => by simp at h) trivial ?_
      simp only [Act.put, List.setIfInBounds_toArray, List.set_cons_zero, List.set_cons_succ]
      obtain ⟨j0, hj0, hy0, hy1, hy2⟩ := info_parts infoVer
      have Hj0 := Lib.hid hj0
      have Hy0 := Lib.hid hy0
      have Hy1 := Lib.hid hy1
      have Hy2 := Lib.hid hy2
      clear hj0 hy0 hy1 hy2
      refine anyU_one (k := 15) (by kernel_rfl) rfl (fun K hK => ?_)
      refine step_append_lies _ (by rfl) _ _ _ (by rfl) 0 130 j0 (.agg #[.int .i64 0, .slice none 0 0, .string ⟨#[]⟩]) 3 48 Try.underlying128 Hj0.out Hy0.out Hy1.out Hy2.out rfl (by omega) (.slice ga m gcap) m (encV (gL d.VL (k1, k2, k3))) (by rfl) hrow2 ⟨w3.heap.size, 0, none⟩ 1 1 [.int .i64 d.lat, .slice a3 xs.length c3, .string ⟨#[]⟩] (by rfl) (by rfl) (World.news_of_block (cs := #[.int .i64 d.lat, .slice a3 xs.length c3, .string ⟨#[]⟩]) (t := 130) (fr := (0, 0)) hnews2) (by simp [Value.oneCell']) (by omega) (by unfold maxLen; omega) (by omega) (Nat.zero_le _) we2.heap.size (by simp) ?_
      intro ggr capr wr hownr hgrr hatr hltr
      have hcr := (ChgP.refl (fun g => (Value.slice ga m gcap).ownBlock = some g) we2).grown hgrr (fun k h => Or.inl h)
      have hbrr := (hcr.block _ (lt_of_obj hbr2) (fun e => hnown _ e rfl)).trans hbr2
      obtain ⟨o', hst', hmap'⟩ := hstore wr (.slice (some ⟨ggr, 0, none⟩) (m + 1) capr) hbrr
      have hkbr := (hcr.block _ (lt_of_obj hkb2) (hneo hkb2 (by decide))).trans hkb2
      have hkbf : (setBlock wr d.bv o').heap[w.heap.size]? = some (.cells #[.int .i64 k1, .int .i64 k2, .int .i64 k3] 43 (0, 0)) := (((ChgP.refl (fun g => g = d.bv) wr).setBlock (Or.inl rfl) o').block _ (lt_of_obj hkbr) (fun e => by
        have h1 := H.out.V.mp.lt
        omega)).trans hkbr
      have hput := AfterH.putVer (e := ⟨d.lat, a3, c3, xs⟩) (N := w.heap.size) (H.out.new Hc3.out) ⟨Hi3.out, hxl⟩ (v' := .slice (some ⟨ggr, 0, none⟩) (m + 1) capr) (o := o') (by rw [← Hmm.out]; exact hownr)
        (((Hcb.out.p (S := fun g => (gV d.VL (k1, k2, k3)).ownBlock = some g ∨ g = d.bv)).comp hcs fun g hg => Or.inl (Or.inr hg)).comp hcr fun g hg => Or.inl (Or.inl (by rw [hgv]; exact hg)))
        (fun g hg => by
          simp only [Value.ownBlock, Option.some.injEq] at hg
          subst hg
          rw [hgv]
          refine hatr.imp id fun e => ?_
          have h1 := hcs.size
          have h2 := Hcb.out.size
          omega) hmap' (by have := Hc3.out.size; exact this) Hn3.out
      obtain ⟨d1, hm1, hch1, hmu1, him1, hd1⟩ := hput
      have Hp1 := Lib.hid (And.intro (show ChgP d.M w (setBlock wr d.bv o') from (Hc3.out.p (S := d.M)).comp hch1 fun g hg => Or.inl hg) (And.intro hmu1 him1))
      have Hd1 := Lib.hid hd1
      have Hm1 := Lib.hid hm1
      have Hkbf := Lib.hid hkbf
      clear hownr hgrr hatr hltr hcr hmap' hstore hrow2 hnews2 hkb2 hkbr hkbf hMb hcs hbr2 hbrr hneo hnown hnbr hboxb hm1 hch1 hmu1 him1 hd1
      go_simp
      refine hK _ _ (fun h => by simp at h) trivial ?_
      clear hK K
      refine anyU_one (k := 17) (by kernel_rfl) rfl (fun K hK => ?_)
      go_simp
      refine hK _ _ (fun h => by simp at h) trivial ?_
      clear hK K hst'
      refine anyU_done (by kernel_rfl) ?_
      obtain ⟨wf, hwf⟩ : ∃ x, x = setBlock wr d.bv o' := ⟨_, rfl⟩
      rw [← hwf] at Hp1 Hm1 Hkbf ⊢
      clear hwf
      have hR1 : d1.RL = d.RL ∧ d1.br = d.br ∧ d1.b = d.b ∧ d1.lat = d.lat := by rw [Hd1.out]; exact ⟨rfl, rfl, rfl, rfl⟩
      have m4 : wf.cell? ⟨d.b, 4, none⟩ = some (.map (some d.br)) := by
        rw [← hR1.2.2.1, ← hR1.2.1]; exact cell_of_heap Hm1.out.box rfl
      have hmr := Hm1.out.R.mp
      rw [hR1.1, hR1.2.1] at hmr
      obtain ⟨it, hrun, hra⟩ := hmr.range Try.underlying78
      have Hra := Lib.hid hra
      have HR1 := Lib.hid hR1
      clear hra hmr hR1
      go_wp2_with fail
      go_loopw [10] (fun _ wr => OutRel d d1 (k1, k2, k3) w wf.heap.size wr) (fun _ wr => wr.rangeLeft d.br wf.heap.size)
      case atStart =>
        exact ⟨[], gE d.RL, by rw [Hm.cut_nil]; exact Hm1.out.new ((Chg.refl _ _).alloc _), Hra.out, fun p hp => hp, fun x r hr => Or.inr (mem_gE hr), Hp1.out.1.alloc _, (heap_past _ _ _ (lt_of_obj Hkbf.out)).trans Hkbf.out⟩
      case round =>
        obtain ⟨D, rest, hmm, hrg, hsub, hall, hch, hkey⟩ := hrel
        rcases hrg.next 0 with ⟨hnil, hrun⟩ | ⟨x, v, rest', w', hp, hrun, hrg', hcw, hsz, hcell, hfroz, hen⟩
        · have hdone : ∀ x r, r ∈ gL d.RL x → r.blk ∈ D := fun x r hr => (hall x r hr).elim id fun ⟨v, hv⟩ => by rw [hnil] at hv; cases hv
          have hfin : ChPost (k1, k2, k3) xs w d (.returned (.tuple #[])) wr := by
            obtain ⟨z1, z2, z3, z4⟩ := HR1.out
            refine ⟨rfl, d1.cut d.lat (k1, k2, k3) D, ⟨hmm, hch, fun g hg => Hp1.out.2.1 g ((Hm.cut_M _ _ _ _ _).1 hg), fun g hg => Hp1.out.2.2 g ((Hm.cut_I _ _ _ _ _).1 hg), z3, by rw [Hd1.out]; rfl⟩, ?_, by rw [Hd1.out]; rfl, fun h0 => by
              show gMap _ d1.RL = []
              rw [z1, h0]; rfl⟩
            have hc : ¬ ((d.pl.inp (k1, k2, k3) d.pl.lat).1 = xs) := by rw [show d.pl.lat = d.lat from rfl, ← Hys.out]; exact Hxy.out
            unfold chgP
            rw [if_neg hc]
            unfold Hm.pl Hm.cut
            simp only [gMap_L, HS.mk.injEq]
            rw [Hd1.out]
            simp only
            refine ⟨funext fun y => ?_, funext fun y => ?_, by simp⟩
            · rw [gL_ups]
              unfold upd
              by_cases e : (k1, k2, k3) = y
              · rw [if_pos e, if_pos e.symm]
                subst e
                simp [Ve.pl]
              · rw [if_neg e, if_neg (Ne.symm e)]
            · rw [List.map_map, List.map_map]
              exact List.map_congr_left fun r hr => cutB_all (hdone y r hr)
          have Hfin := Lib.hid hfin
          clear hnil hdone hfin hmm hrg hsub hall hch hkey
          go_wp2_with fail
          refine Go.Great.bodyPost_end0 (by kernel_rfl) rfl ?_
          exact Hfin.out
        · have hxm : (x, v) ∈ rest := hp.mem_iff.2 (List.mem_cons_self ..)
          have hxe := hsub _ hxm
          obtain ⟨hR1, hR2, hR3, hR4⟩ := HR1.out
          have hkeys : (d.RL.map (·.1)).Nodup := by rw [← hR1]; exact Hm1.out.keys
          have hgv : gV d.RL x = v := gV_of_mem hkeys hxe
          have hit : tyAt wr wf.heap.size = none := by
            obtain ⟨arr, clk, since, seen, c0, r1, r2, r3, r4, r5, r6⟩ := hrg
            unfold tyAt
            rw [r5]
          have hmw : HmAt w' (d1.cut d.lat (k1, k2, k3) D) := hmm.kept hcw.toP (fun g hg hs => by
            obtain ⟨t, _, ht⟩ := hmm.tyM hg
            rw [List.mem_singleton.1 hs, hit] at ht
            cases ht) (fun g hg hs => by
            rcases hmm.tyI hg with ht | ht
            · rw [List.mem_singleton.1 hs, hit] at ht; cases ht
            · rw [List.mem_singleton.1 hs, hit] at ht; cases ht)
          obtain ⟨l, hl⟩ : ∃ l, l = gL d.RL x := ⟨_, rfl⟩
          have hrow := hmw.R.row x
          unfold Hm.cut at hrow
          simp only [gMap_V, gMap_L, List.length_map, encR_cut] at hrow
          rw [hR1, hgv, ← hl] at hrow
          obtain ⟨ra, rcap, rfl⟩ := ownsRow_shape hrow
          have hsl := ptrs_of_own hrow
          obtain ⟨_, _, hsh, hlm, _⟩ := hsl.shape
          unfold maxLen at hlm
          have hlen : rest'.length < rest.length := by have := hp.length_eq; simp at this; omega
          have hkey' := (hcw.block _ (lt_of_obj hkey) (by
            intro hs
            have := tyAt_cells hkey
            rw [List.mem_singleton.1 hs, hit] at this
            cases this)).trans hkey
          have hch' : ChgP d.M w w' := hch.comp hcw.toP fun g hg => Or.inr (by
            rw [List.mem_singleton.1 hg]
            have := Hp1.out.1.size
            exact this)
          have Hin0 := Lib.hid (show InnRel d d1 (k1, k2, k3) w wf.heap.size rest' D l 0 D w' from ⟨hmw, hrg', fun b hb => hb, by simp, hch', hkey'⟩)
          have Hrg := Lib.hid hrg
          have Hsl := Lib.hid hsl
          have Hl := Lib.hid hl
          have Hgv := Lib.hid hgv
          have Hlen := Lib.hid hlen
          have Hrest := Lib.hid (show (∀ p ∈ rest', p ∈ gE d.RL) ∧ (∀ y r, r ∈ gL d.RL y → r.blk ∈ D ∨ y = x ∨ ∃ v, (y, v) ∈ rest') from ⟨fun p hp' => hsub p (hp.mem_iff.2 (List.mem_cons_of_mem _ hp')), fun y r hr => (hall y r hr).imp id fun ⟨v', hv'⟩ => by
            rcases List.mem_cons.1 (hp.mem_iff.1 hv') with e | e
            · exact Or.inl (congrArg Prod.fst e)
            · exact Or.inr ⟨v', e⟩⟩)
          unfold Inp.qk at hrun hen
          clear hp hcw hcell hfroz hsz hmm hrg hrg' hsub hall hch hkey hxm hxe hkeys hgv hit hmw hl hrow hsl hsh hlen hkey' hch' hR1 hR2 hR3 hR4
          go_wp2_with fail
          go_loopw [55] (fun i wr => ∃ (n : Nat) (D' : List Nat), n ≤ l.length ∧ i = .int .i64 (n : Nat) ∧ InnRel d d1 (k1, k2, k3) w wf.heap.size rest' D l n D' wr) (fun i _ => l.length - (intOf i).toNat)
          case atStart => exact ⟨0, D, by omega, rfl, Hin0.out⟩
          case round =>
            obtain ⟨n, D', hn, rfl, hI⟩ := hrel
            have HI := Lib.hid hI
            by_cases hlt : n < l.length
            · have hwr : SlR (fun g => (Value.slice ra l.length rcap).ownBlock = some g) 1 rdP wr (.slice ra l.length rcap) l := by
                have hrow := hI.mem.R.row x
                unfold Hm.cut at hrow
                simp only [gMap_V, gMap_L, List.length_map, encR_cut] at hrow
                obtain ⟨z1, z2, z3, z4⟩ := HR1.out
                rw [z1, Hgv.out, ← Hl.out] at hrow
                exact ptrs_of_own hrow
              obtain ⟨g, off, rfl, _, c0⟩ := SlR.at hwr n hlt ⟨0, 0, 0, none, 0, [], .slice none 0 0, []⟩
              obtain ⟨r, hr⟩ : ∃ r, r = l[n] := ⟨_, rfl⟩
              rw [Nat.mul_one, List.getD_eq_getElem?_getD, List.getElem?_eq_getElem hlt, Option.getD_some, ← hr] at c0
              unfold rdP Rs.val at c0
              have hmem : r ∈ gL d1.RL x := by rw [HR1.out.1, ← Hl.out, hr]; exact List.getElem_mem _
              have hra := hI.mem.each x (cutB d.lat (k1, k2, k3) D' r) (by unfold Hm.cut; simp only [gMap_L]; exact List.mem_map.2 ⟨_, hmem, rfl⟩)
              obtain ⟨y1, y2, y3, _⟩ := cutB_imm d.lat (k1, k2, k3) D' r
              have hblk := hra.blk
              have hins := hra.ins
              rw [cutB_blk, y2] at hblk
              rw [y2, y3] at hins
              obtain ⟨la', hla'⟩ : ∃ x, x = (cutB d.lat (k1, k2, k3) D' r).last := ⟨_, rfl⟩
              rw [← hla'] at hblk
              obtain ⟨rb, hrb⟩ : ∃ x, x = r.blk := ⟨_, rfl⟩
              obtain ⟨riv, hriv⟩ : ∃ x, x = r.iv := ⟨_, rfl⟩
              rw [← hrb, ← hriv] at hblk
              rw [← hrb] at c0
              rw [← hriv] at hins
              have r1 : wr.cell? ⟨rb, 1, none⟩ = some (.int .i64 la') := cell_of_heap hblk rfl
              have r4 : wr.cell? ⟨rb, 4, none⟩ = some riv := cell_of_heap hblk rfl
              have f1 := frozen_of_heap hblk (i := 1)
              have e0 : wr.cell? ⟨w.heap.size, 0, none⟩ = some (.int .i64 k1) := cell_of_heap hI.key rfl
              have e1 : wr.cell? ⟨w.heap.size, 1, none⟩ = some (.int .i64 k2) := cell_of_heap hI.key rfl
              have e2 : wr.cell? ⟨w.heap.size, 2, none⟩ = some (.int .i64 k3) := cell_of_heap hI.key rfl
              have q5 : wr.cell? ⟨d.b, 5, none⟩ = some (.int .i64 d.lat) := by
                obtain ⟨z1, z2, z3, z4⟩ := HR1.out
                rw [← z3, ← z4]
                exact cell_of_heap hI.mem.box rfl
              have hn1 : (n : Int) < l.length := by omega
              have hn0 : (0 : Int) ≤ (n : Int) := by omega
              have Hla := Lib.hid hla'
              have Hr := Lib.hid (And.intro hr (And.intro hrb hriv))
              have Hins := Lib.hid hins
              clear hI hwr hmem hra y1 y2 y3 hblk hins hla' hr hrb hriv
              by_cases hl0 : la' = fev
              · subst hl0
                unfold fev at r1
                go_wp2_with fail
                refine wp_region_readsQ 11 (by kernel_rfl) (by kernel_rfl) ?_
                intro wd hwd
                simp only [List.take_succ_cons, List.take_zero, List.drop_succ_cons, List.drop_zero]
                have hcd : Chg [] wr wd := by rw [hwd]; exact (Chg.refl _ _).drew
                have r1d := (hcd.cell (lt_of_cell r1) (by simp)).trans r1
                have r4d := (hcd.cell (lt_of_cell r4) (by simp)).trans r4
                have e0d := (hcd.cell (lt_of_cell e0) (by simp)).trans e0
                have e1d := (hcd.cell (lt_of_cell e1) (by simp)).trans e1
                have e2d := (hcd.cell (lt_of_cell e2) (by simp)).trans e2
                have q5d := (hcd.cell (lt_of_cell q5) (by simp)).trans q5
                have f1d := (hcd.frozen (p := ⟨rb, 1, none⟩) (lt_of_cell r1) (by simp)).trans f1
                have hinsd : wd.ownsRow 0 43 3 riv r.ins.length (flat3 r.ins) := ownsRow_kept Hins.out fun g hg hl => hcd.block g hl (by simp)
                have hcon : ∃ t : Bool, (t = true ↔ (k1, k2, k3) ∈ r.ins) ∧ Calls Try.prog 66 #[riv, .agg #[.int .i64 k1, .int .i64 k2, .int .i64 k3]] wd fun e w' => e = .returned (.bool t) ∧ Chg [] wd w' :=
                  ⟨decide ((k1, k2, k3) ∈ r.ins), by simp, keyContains_any _ wd riv r.ins (k1, k2, k3) (i3s_of_own hinsd) (fun g hg => (hinsd.lt g hg).2)⟩
                obtain ⟨t, ht, hcon⟩ := hcon
                have Hcon := Lib.hid hcon
                have Ht := Lib.hid ht
                have Hcd := Lib.hid hcd
                clear hwd hcd hinsd hcon ht r1 r4 e0 e1 e2 q5 f1
                repeat go_big_quiet_step (fail)
                refine wpQuiet_nil ?_
                go_wp2_with fail
                refine Hcon.out.mono ?_
                rintro e w2 ⟨rfl, hc2⟩
                have HI2 := Lib.hid (HI.out.more (Hcd.out.trans hc2))
                have q52 := (hc2.cell (lt_of_cell q5d) (by simp)).trans q5d
                have r12 := (hc2.cell (lt_of_cell r1d) (by simp)).trans r1d
                have f12 := (hc2.frozen (p := ⟨rb, 1, none⟩) (lt_of_cell r1d) (by simp)).trans f1d
                clear hc2 r1d r4d e0d e1d e2d q5d f1d
                cases t
                case true =>
                  have Htt := Lib.hid (Ht.out.1 rfl)
                  go_wp2_with fail
                  refine ⟨⟨n + 1, r.blk :: D', by omega, by go_num, ?_⟩, by simp [intOf]; omega⟩
                  obtain ⟨z1, z2, z3⟩ := Hr.out
                  have hset := HI2.out.set HR1.out.1 HR1.out.2.1 (by unfold fev; omega) Hl.out hlt (by rw [← z1]; exact ⟨Hla.out.symm, Htt.out⟩)
                  rw [← z1, ← z2] at hset
                  rw [← z2]
                  exact hset
                case false =>
                  have Htt := Lib.hid (show ¬ (k1, k2, k3) ∈ r.ins from fun h => by have := Ht.out.2 h; cases this)
                  go_wp2_with fail
                  refine ⟨⟨n + 1, r.blk :: D', by omega, by go_num, ?_⟩, by simp [intOf]; omega⟩
                  obtain ⟨z1, z2, z3⟩ := Hr.out
                  have hset := HI2.out.skip HR1.out.1 Hl.out hlt (by rw [← z1]; exact fun h => Htt.out h.2)
                  rw [← z1] at hset
                  exact hset
              · have hd0 : decide (la' = 1152921504606846976) = false := decide_eq_false hl0
                have hd1 : (la' == 1152921504606846976) = false := by unfold fev at hl0; simpa using hl0
                have Hl0 := Lib.hid hl0
                clear hl0
                go_wp2_with fail
                go_quiet (fail)
                go_wp2_with fail
                refine ⟨⟨n + 1, r.blk :: D', by omega, by go_num, ?_⟩, by simp [intOf]; omega⟩
                obtain ⟨z1, z2, z3⟩ := Hr.out
                have hset := (HI.out.skip HR1.out.1 Hl.out hlt (by rw [← z1]; exact fun h => Hl0.out (Hla.out.trans h.1))).more ((Chg.refl [] _).drewN nq)
                rw [← z1] at hset
                exact hset
            · obtain rfl : n = l.length := by omega
              go_wp2_with fail
              refine ⟨⟨D', rest', HI.out.mem, HI.out.rng, Hrest.out.1, fun y r hr => ?_, HI.out.chg, HI.out.key⟩, by rw [HI.out.rng.left_eq, Hrg.out.left_eq]; exact Hlen.out⟩
              rcases Hrest.out.2 y r hr with h1 | rfl | h1
              · exact Or.inl (HI.out.sub _ h1)
              · exact Or.inl (HI.out.done r (by rw [List.take_length, Hl.out]; exact hr))
              · exact Or.inr h1
end Go.Proofs.Ytggiddhhbilcjaa.Sn
