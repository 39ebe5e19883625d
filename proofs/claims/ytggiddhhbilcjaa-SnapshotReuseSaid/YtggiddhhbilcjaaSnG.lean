/- compute's closure get. -/
import Derived.Test.YtggiddhhbilcjaaSnE
import Derived.Test.YtggiddhhbilcjaaAnyU
import Derived.Deep.DeepCutAuto
namespace Go.Proofs.Ytggiddhhbilcjaa.Sn
open Go.RowKit Go.ChangeMaps Go.MapKept
set_option linter.unusedVariables false
set_option linter.unusedSimpArgs false
section
variable {p : Prg} {w0 : World} {RO : Nat → Prop} {be : Nat} {rev : Int} {A : List QK} {ws : World} {ds : Hm} {sv : Value} {cev cadd cr rb : Nat}
/-- a get, its value read: the first and last revision are still to be noted -/
structure MidAt (p : Prg) (w0 : World) (RO : Nat → Prop) (be : Nat) (rev : Int) (A : List QK) (ws : World) (ds : Hm) (sv : Value) (cev cadd cr rb : Nat) (U : HS → QK → RR × HS) (F : Nat → Prop) (σ : GT) (k : QK) (w : World) (f' l' : Int) (wx : World) (d : Hm) (av iv : Value) (s' : HS) (ins' : List QK) (a : Option Addr) (c : Nat) (xs : List Int) : Prop where
  get : getP U rev σ k = (.ok xs, (s', max σ.2.1 f', min σ.2.2.1 l', ins'))
  at_ : GAt p w0 RO be rev A ws ds sv cev cadd cr rb (s', σ.2.1, σ.2.2.1, ins') wx d av iv
  free : GFree be ws rb d av iv F
  out : wx.heap[w.heap.size + 1]? = some (.cells #[.slice none 0 0, .string ⟨#[]⟩] 39 (0, 0))
  val : wx.heap[w.heap.size + 2]? = some (.cells #[.slice a xs.length c, .string ⟨#[]⟩] 39 (0, 0))
  nums : Inp.Ints wx (.slice a xs.length c) xs
  size : xs.length * 8 ≤ 140737488355328
  chg : ChgP (fun g => ¬ F g ∧ ¬ GRO RO cev cadd cr g) w wx
def Mid (p : Prg) (w0 : World) (RO : Nat → Prop) (be : Nat) (rev : Int) (A : List QK) (ws : World) (ds : Hm) (sv : Value) (cev cadd cr rb : Nat) (U : HS → QK → RR × HS) (F : Nat → Prop) (σ : GT) (k : QK) (w : World) (f' l' : Int) (wx : World) : Prop :=
  ∃ d av iv s' ins' a c xs, MidAt p w0 RO be rev A ws ds sv cev cadd cr rb U F σ k w f' l' wx d av iv s' ins' a c xs
theorem box_ne {w : World} {d : Hm} {av : Value} {g : Nat} {c : Array Value} {fr : Nat × Nat} (h : EvAt be rev A w d av) (hb : w.heap[g]? = some (.cells c 39 fr)) : ¬ EM d be av g ∧ ¬ d.I g :=
  ⟨h.neTy (tyAt_cells hb) (by decide) (by decide) (by decide), fun hi => by
    rcases h.mem.tyI hi with e | e
    · rw [tyAt_cells hb] at e; cases e
    · rw [tyAt_cells hb] at e; cases e⟩
theorem mid_end {U : HS → QK → RR × HS} {F : Nat → Prop} {σ : GT} {k : QK} {w wc wd w3 : World} {f' l' : Int} {d : Hm} {av iv : Value} {s' : HS} {ins' : List QK} {a : Option Addr} {c : Nat} {xs : List Int}
    (hM : MidAt p w0 RO be rev A ws ds sv cev cadd cr rb U F σ k w f' l' wc d av iv s' ins' a c xs) (hcd : Chg [] wc wd) (hws : ws.heap.size ≤ w.heap.size) (hro : ∀ g, GRO RO cev cadd cr g → g < w.heap.size) (hFl : ∀ g, F g → g < w.heap.size)
    (hc3 : Chg [] ((wd.setCell ⟨rb, 0, none⟩ (.int .i64 (max σ.2.1 f'))).setCell ⟨rb, 1, none⟩ (.int .i64 (min σ.2.2.1 l'))) w3) {a3 : Option Addr} {c3 : Nat} (hi : Inp.Ints w3 (.slice a3 xs.length c3) xs) :
    GI p w0 RO be rev A ws ds sv cev cadd cr rb F (s', max σ.2.1 f', min σ.2.2.1 l', ins') ((w3.setCell ⟨w.heap.size + 1, 0, none⟩ (.slice a3 xs.length c3)).setCell ⟨w.heap.size + 1, 1, none⟩ (.string ⟨#[]⟩)) ∧
    Inp.Ints ((w3.setCell ⟨w.heap.size + 1, 0, none⟩ (.slice a3 xs.length c3)).setCell ⟨w.heap.size + 1, 1, none⟩ (.string ⟨#[]⟩)) (.slice a3 xs.length c3) xs ∧
    ChgP (fun g => ¬ F g ∧ ¬ GRO RO cev cadd cr g) w ((w3.setCell ⟨w.heap.size + 1, 0, none⟩ (.slice a3 xs.length c3)).setCell ⟨w.heap.size + 1, 1, none⟩ (.string ⟨#[]⟩)) ∧ w3.heap[w.heap.size + 1]? = some (.cells #[.slice none 0 0, .string ⟨#[]⟩] 39 (0, 0)) := by
  obtain ⟨s0, f, l, ins⟩ := σ
  simp only at hc3 ⊢
  have hGd := hM.at_.newW hcd
  simp only at hGd
  obtain ⟨w2, hw2⟩ : ∃ x, x = ((wd.setCell ⟨rb, 0, none⟩ (.int .i64 (max f f'))).setCell ⟨rb, 1, none⟩ (.int .i64 (min l l'))) := ⟨_, rfl⟩
  rw [← hw2] at hc3
  have hc2 : ChgP (fun g => g = rb) wd w2 := by
    rw [hw2]
    exact ((ChgP.refl (fun g => g = rb) wd).setCell (p := ⟨rb, 0, none⟩) (Or.inl rfl) _).setCell (p := ⟨rb, 1, none⟩) (Or.inl rfl) _
  have hres2 : w2.heap[rb]? = some (.cells #[.int .i64 (max f f'), .int .i64 (min l l'), .slice none 0 0, .string ⟨#[]⟩, iv] 93 (0, 0)) := by
    rw [hw2]
    exact (heap_setCell_same (heap_setCell_same hGd.rba.res _) _).trans rfl
  have hr2 : RbAt w2 cr rb (max f f') (min l l') iv ins' := ⟨(hc2.block _ (lt_of_obj hGd.rba.bre) hGd.rba.ne).trans hGd.rba.bre, hres2, ownsRow_kept hGd.rba.row fun g hg hl => hc2.block g hl (hGd.rba.own hg).2.1⟩
  have hG2 := hGd.upd hr2 (hc2.mono fun _ h => Or.inl h) (fun g hg => Or.inl hg) hGd.ink hGd.nd
  have hG3 := hG2.newW hc3
  have hout3 : w3.heap[w.heap.size + 1]? = some (.cells #[.slice none 0 0, .string ⟨#[]⟩] 39 (0, 0)) := by
    have h1 := (hcd.block _ (lt_of_obj hM.out) (by simp)).trans hM.out
    have h2 := (hc2.block _ (lt_of_obj h1) (fun e => by
      have := tyAt_cells hGd.rba.res
      rw [← e, tyAt_cells h1] at this
      cases this)).trans h1
    exact (hc3.block _ (lt_of_obj h2) (by simp)).trans h2
  have hne := box_ne hG3.env.at_ hout3
  have hc4 : ChgP (fun g => g = w.heap.size + 1) w3 ((w3.setCell ⟨w.heap.size + 1, 0, none⟩ (.slice a3 xs.length c3)).setCell ⟨w.heap.size + 1, 1, none⟩ (.string ⟨#[]⟩)) :=
    ((ChgP.refl (fun g => g = w.heap.size + 1) w3).setCell (p := ⟨w.heap.size + 1, 0, none⟩) (Or.inl rfl) _).setCell (p := ⟨w.heap.size + 1, 1, none⟩) (Or.inl rfl) _
  have hty3 := tyAt_cells hout3
  have hG4 := hG3.kept hc4 (fun g hg e => hne.1 (e ▸ hg)) (fun g hg e => hne.2 (e ▸ hg)) (fun g hg e => by have := hro g hg; omega) (fun e => by
      have := tyAt_cells hG3.rba.res
      rw [show rb = w.heap.size + 1 from e, hty3] at this
      cases this) (fun g hg e => by
      have := tyAt_own hG3.rba.row hg
      rw [show g = w.heap.size + 1 from e, hty3] at this
      cases this) (fun g hg => by omega)
  refine ⟨⟨d, av, iv, hG4, hM.free, fun g hg => ?_⟩, box_ints hout3 _ _ hi, ?_, hout3⟩
  · have h1 := hFl g hg
    have h2 := hM.chg.size
    have h3 := hcd.size
    have h4 := hc2.size
    have h5 := hc3.size
    have h6 := hc4.size
    omega
  · have hmine := hM.at_.mine hM.free
    refine ((((hM.chg.new hcd).comp hc2 fun g hg => Or.inl (hmine g (Or.inr (Or.inl hg)))).new hc3).comp hc4 fun g hg => Or.inr (by omega))
theorem GAt.box {σ : GT} {w1 : World} {d : Hm} {av iv : Value} {B : Nat} {x0 x1 : Value} (h : GAt p w0 RO be rev A ws ds sv cev cadd cr rb σ w1 d av iv) (hb : w1.heap[B]? = some (.cells #[x0, x1] 39 (0, 0))) (hB : ws.heap.size ≤ B) (hro : ¬ GRO RO cev cadd cr B) (y0 y1 : Value) :
    GAt p w0 RO be rev A ws ds sv cev cadd cr rb σ ((w1.setCell ⟨B, 0, none⟩ y0).setCell ⟨B, 1, none⟩ y1) d av iv ∧ ChgP (fun g => g = B) w1 ((w1.setCell ⟨B, 0, none⟩ y0).setCell ⟨B, 1, none⟩ y1) := by
  have hne := box_ne h.env.at_ hb
  have hc4 : ChgP (fun g => g = B) w1 ((w1.setCell ⟨B, 0, none⟩ y0).setCell ⟨B, 1, none⟩ y1) :=
    ((ChgP.refl (fun g => g = B) w1).setCell (p := ⟨B, 0, none⟩) (Or.inl rfl) _).setCell (p := ⟨B, 1, none⟩) (Or.inl rfl) _
  have hty3 := tyAt_cells hb
  exact ⟨h.kept hc4 (fun g hg e => hne.1 (e ▸ hg)) (fun g hg e => hne.2 (e ▸ hg)) (fun g hg e => hro (e ▸ hg)) (fun e => by
      have := tyAt_cells h.rba.res
      rw [show rb = B from e, hty3] at this
      cases this) (fun g hg e => by
      have := tyAt_own h.rba.row hg
      rw [show g = B from e, hty3] at this
      cases this) (fun g hg => by omega), hc4⟩
theorem GAt.valbox {σ : GT} {w1 : World} {d : Hm} {av iv : Value} {B : Nat} {x0 x1 : Value} (h : GAt p w0 RO be rev A ws ds sv cev cadd cr rb σ w1 d av iv) (hb : w1.heap[B]? = some (.cells #[x0, x1] 39 (0, 0))) : B ≠ rb ∧ iv.ownBlock ≠ some B :=
  ⟨fun e => (by
    have := tyAt_cells h.rba.res
    rw [← e, tyAt_cells hb] at this
    cases this), fun e => (by
    have := tyAt_own h.rba.row e
    rw [tyAt_cells hb] at this
    cases this)⟩
theorem few_in {ks : List QK} (hp : PrgOk p) (hk : ∀ k ∈ ks, InK p k) (hd : ks.Nodup) : ks.length ≤ 80 := keys_few hp.inp.2 (L := 0) (by omega) hd fun k hm => Or.inl (hk k hm)
theorem StOk.rev_bd {p : Prg} {rev : Int} {d : Hm} (h : StOk p rev d.pl) (k : QK) : ∀ e ∈ gL d.VL k, 0 ≤ e.rev ∧ e.rev ≤ 1000000 := fun e he => by
  have h1 := (h.inv.vers k).bd e.pl (List.mem_map.2 ⟨e, he, rfl⟩)
  have h2 := h.few
  unfold Ve.pl at h1
  simp only at h1
  omega
/-- keys have been noted, the value stands in its box -/
theorem mid_mk {U : HS → QK → RR × HS} {F : Nat → Prop} {σ : GT} {k : QK} {w w3 w4 : World} {f' l' : Int} {d : Hm} {av iv iv' : Value} {s' : HS} {ks : List QK} {a : Option Addr} {c : Nat} {xs : List Int}
    (hget : getP U rev σ k = (.ok xs, (s', max σ.2.1 f', min σ.2.2.1 l', addKs σ.2.2.2 ks))) (hg : GAt p w0 RO be rev A ws ds sv cev cadd cr rb (s', σ.2.1, σ.2.2.1, σ.2.2.2) w3 d av iv) (hF : GFree be ws rb d av iv F) (hFl : ∀ g, F g → g < w3.heap.size)
    (hr : RbAt w4 cr rb σ.2.1 σ.2.2.1 iv' (addKs σ.2.2.2 ks)) (hc : ChgP (fun g => g = rb ∨ iv.ownBlock = some g) w3 w4) (hn : ∀ g, iv'.ownBlock = some g → iv.ownBlock = some g ∨ w3.heap.size ≤ g) (hk : ∀ k ∈ ks, InK p k)
    (hob : w3.heap[w.heap.size + 1]? = some (.cells #[.slice none 0 0, .string ⟨#[]⟩] 39 (0, 0))) (hvb : w3.heap[w.heap.size + 2]? = some (.cells #[.slice a xs.length c, .string ⟨#[]⟩] 39 (0, 0)))
    (hi : Inp.Ints w3 (.slice a xs.length c) xs) (hx : xs.length * 8 ≤ 140737488355328) (hch : ChgP (fun g => ¬ F g ∧ ¬ GRO RO cev cadd cr g) w w3) : Mid p w0 RO be rev A ws ds sv cev cadd cr rb U F σ k w f' l' w4 := by
  have hi4 : Inp.Ints w4 (.slice a xs.length c) xs := by
    refine intsKept' hi fun g hg' => ?_
    have ht := tyAt_ints hi hg'
    refine hc.block g (tyAt_lt ht) fun e => ?_
    rcases e with rfl | e
    · rw [tyAt_cells hg.rba.res] at ht; cases ht
    · rw [tyAt_own hg.rba.row e] at ht; cases ht
  obtain ⟨o1, o2⟩ := hg.valbox hob
  obtain ⟨v1, v2⟩ := hg.valbox hvb
  refine ⟨d, av, iv', s', addKs σ.2.2.2 ks, a, c, xs, hget, hg.upd hr hc hn (fun k hm => (mem_addKs_iff hm).elim (hg.ink k) (hk k)) (addKs_nodup hg.nd _), hF.upd hFl hn, (hc.block _ (lt_of_obj hob) (fun e => e.elim o1 o2)).trans hob, (hc.block _ (lt_of_obj hvb) (fun e => e.elim v1 v2)).trans hvb, hi4, hx, hch.comp hc fun g hg' => Or.inl (hg.mine hF g (Or.inr hg'))⟩
set_option maxRecDepth 100000 in
set_option maxHeartbeats 4000000 in
theorem sget_any {ch : Int → List PanicEntry} (hp : PrgOk p) {n q : Nat} (fam : EvalFam p w0 RO be rev ds.comp n) (hq : q ≤ n) (hqN : q < p.qs.length) (hA : ∀ q', q' < q → ActOk q' A) (F : Nat → Prop) (σ : GT) (w : World) (k : QK) (hk : KeyIn p.inp q k) (hI : GI p w0 RO be rev A ws ds sv cev cadd cr rb F σ w) :
    Calls Try.prog 89 #[i3v k, .pointer (some ⟨cev, 0, none⟩), .pointer (some ⟨cadd, 0, none⟩), .pointer (some ⟨cr, 0, none⟩)] w (VPost (GI p w0 RO be rev A ws ds sv cev cadd cr rb) (GRO RO cev cadd cr) (getP (RQ p.qs rev n) rev) ch F σ k w) := by
  obtain ⟨d, av, iv, hg, hF, hFl⟩ := hI
  obtain ⟨s, f, l, ins⟩ := σ
  have hpl := hg.pl
  simp only at hpl
  subst hpl
  have hkok := keyInOk hk hp.inp.2 (by have := hp.size; omega)
  obtain ⟨k1, k2, k3⟩ := k
  obtain ⟨wa, hwa⟩ : ∃ x, x = ((w.alloc (.cells #[.int .i64 k1, .int .i64 k2, .int .i64 k3] 43)).alloc (.cells #[.slice none 0 0, .string ⟨#[]⟩] 39)).alloc (.cells #[.slice none 0 0, .string ⟨#[]⟩] 39) := ⟨_, rfl⟩
  have hca : Chg [] w wa := by rw [hwa]; exact (((Chg.refl [] w).alloc _).alloc _).alloc _
  have hsa : wa.heap.size = w.heap.size + 3 := by rw [hwa]; simp
  have hkb : wa.heap[w.heap.size]? = some (.cells #[.int .i64 k1, .int .i64 k2, .int .i64 k3] 43 (0, 0)) := by
    rw [hwa]; exact (heap_past _ _ _ (by simp; omega)).trans ((heap_past _ _ _ (by simp)).trans (heap_at _ _ _ rfl))
  have hob : wa.heap[w.heap.size + 1]? = some (.cells #[.slice none 0 0, .string ⟨#[]⟩] 39 (0, 0)) := by
    rw [hwa]; exact (heap_past _ _ _ (by simp)).trans (heap_at _ _ _ (by simp))
  have hvb : wa.heap[w.heap.size + 2]? = some (.cells #[.slice none 0 0, .string ⟨#[]⟩] 39 (0, 0)) := by
    rw [hwa]; exact heap_at _ _ _ (by simp)
  have Hsa := Lib.hid hsa
  have Hg := Lib.hid hg
  have HF := Lib.hid (And.intro hF hFl)
  have Hk := Lib.hid hk
  have Hkok := Lib.hid hkok
  have Hca := Lib.hid hca
  have Hb := Lib.hid (And.intro hkb (And.intro hob hvb))
  have e0w := cell_of_heap hkb (i := 0) rfl
  clear hsa hg hF hFl hk hkok hca hkb hob hvb
  unfold i3v
  go_enter Try.func89, Try.ntmps89
  go_upto_if 12 with fail
  rw [← hwa]
  clear hwa
  go_cut [7, 8] (fun x7 x8 wx => ∃ f' l', x7 = .int .i64 f' ∧ x8 = .int .i64 l' ∧ Mid p w0 RO be rev A ws ds sv cev cadd cr rb (RQ p.qs rev n) F (d.pl, f, l, ins) (k1, k2, k3) w f' l' wx)
  case first =>
    by_cases h0 : k1 = 0
    · subst h0
      have c0 : wa.cell? ⟨cev, 0, none⟩ = some (.pointer (some ⟨be, 0, none⟩)) := cell_of_heap (Hg.out.newW Hca.out).bev rfl
      have b0 : wa.cell? ⟨be, 0, none⟩ = some (.pointer (some ⟨d.b, 0, none⟩)) := cell_of_heap (Hg.out.newW Hca.out).env.at_.ev rfl
      have b1 : wa.cell? ⟨be, 1, none⟩ = some (.int .i64 rev) := cell_of_heap (Hg.out.newW Hca.out).env.at_.ev rfl
      have e0 : wa.cell? ⟨w.heap.size, 0, none⟩ = some (.int .i64 0) := cell_of_heap Hb.out.1 rfl
      have e1 : wa.cell? ⟨w.heap.size, 1, none⟩ = some (.int .i64 k2) := cell_of_heap Hb.out.1 rfl
      have e2 : wa.cell? ⟨w.heap.size, 2, none⟩ = some (.int .i64 k3) := cell_of_heap Hb.out.1 rfl
      go_wp2_with fail
      refine wp_region_U (fun w' => w'.cell? ⟨cev, 0, none⟩ = some (.pointer (some ⟨be, 0, none⟩)) ∧ w'.cell? ⟨be, 0, none⟩ = some (.pointer (some ⟨d.b, 0, none⟩)) ∧ w'.cell? ⟨be, 1, none⟩ = some (.int .i64 rev) ∧ w'.cell? ⟨w.heap.size, 0, none⟩ = some (.int .i64 0) ∧ w'.cell? ⟨w.heap.size, 1, none⟩ = some (.int .i64 k2) ∧ w'.cell? ⟨w.heap.size, 2, none⟩ = some (.int .i64 k3)) (fun _ => True) 14 (by kernel_rfl) ?_
      intro wd hwd
      have hcd : Chg [] wa wd := by rw [hwd]; exact (Chg.refl _ _).drew
      have hSW := And.intro ((hcd.cell (lt_of_cell c0) (by simp)).trans c0) (And.intro ((hcd.cell (lt_of_cell b0) (by simp)).trans b0) (And.intro ((hcd.cell (lt_of_cell b1) (by simp)).trans b1) (And.intro ((hcd.cell (lt_of_cell e0) (by simp)).trans e0) (And.intro ((hcd.cell (lt_of_cell e1) (by simp)).trans e1) ((hcd.cell (lt_of_cell e2) (by simp)).trans e2)))))
      have Hcd := Lib.hid (Hca.out.trans hcd)
      obtain ⟨xs, fi, la, hxs⟩ : ∃ xs fi la, d.pl.inp (0, k2, k3) rev = (xs, fi, la) := ⟨_, _, _, rfl⟩
      have hin := input_any wd d (0, k2, k3) rev (Hg.out.newW Hcd.out).env.at_.mem Hkok.out (StOk.rev_bd Hg.out.st _)
      unfold InPost at hin
      simp only [hxs] at hin
      have Hxs := Lib.hid hxs
      have Hin := Lib.hid hin
      clear hin hxs
      have Hb2 := Lib.hid (And.intro ((hcd.block _ (lt_of_obj Hb.out.1) (by simp)).trans Hb.out.1) (And.intro ((hcd.block _ (lt_of_obj Hb.out.2.1) (by simp)).trans Hb.out.2.1) ((hcd.block _ (lt_of_obj Hb.out.2.2) (by simp)).trans Hb.out.2.2)))
      clear hwd c0 b0 b1 e0 e1 e2 hcd
      refine anyU_take (i := 0) (v := .pointer (some ⟨be, 0, none⟩)) rfl (by kernel_rfl) (fun _ _ _ h => h) (Or.inl ⟨by rfl, fun w' hS => by go_simp⟩) hSW trivial ?_
      simp only [Act.put, List.setIfInBounds_toArray, List.set_cons_zero, List.set_cons_succ]
      refine anyU_pure (i := 1) (v := .pointer (some ⟨be, 0, none⟩)) rfl (by kernel_rfl) (fun _ _ _ h => h) (Or.inl ⟨by rfl, fun w' hS => by go_simp⟩) (fun _ => hSW) trivial ?_
      simp only [Act.put, List.setIfInBounds_toArray, List.set_cons_zero, List.set_cons_succ]
      refine anyU_pure (i := 2) (v := .pointer (some ⟨be, 0, none⟩)) rfl (by kernel_rfl) (fun _ _ _ h => h) (Or.inl ⟨by rfl, fun w' hS => by go_simp⟩) (fun _ => hSW) trivial ?_
      simp only [Act.put, List.setIfInBounds_toArray, List.set_cons_zero, List.set_cons_succ]
      refine anyU_take (i := 3) (v := .pointer (some ⟨d.b, 0, none⟩)) rfl (by kernel_rfl) (fun _ _ _ h => h) (Or.inl ⟨by rfl, fun w' hS => by go_simp⟩) hSW trivial ?_
      simp only [Act.put, List.setIfInBounds_toArray, List.set_cons_zero, List.set_cons_succ]
      refine anyU_take (i := 4) (v := .agg #[.int .i64 0, .int .i64 k2, .int .i64 k3]) rfl (by kernel_rfl) (fun _ _ _ h => h) (Or.inl ⟨by rfl, fun w' hS => by go_simp⟩) hSW trivial ?_
      simp only [Act.put, List.setIfInBounds_toArray, List.set_cons_zero, List.set_cons_succ]
      refine anyU_take (i := 5) (v := .pointer (some ⟨be, 0, none⟩)) rfl (by kernel_rfl) (fun _ _ _ h => h) (Or.inl ⟨by rfl, fun w' hS => by go_simp⟩) hSW trivial ?_
      simp only [Act.put, List.setIfInBounds_toArray, List.set_cons_zero, List.set_cons_succ]
      refine anyU_pure (i := 6) (v := .pointer (some ⟨be, 0, none⟩)) rfl (by kernel_rfl) (fun _ _ _ h => h) (Or.inl ⟨by rfl, fun w' hS => by go_simp⟩) (fun _ => hSW) trivial ?_
      simp only [Act.put, List.setIfInBounds_toArray, List.set_cons_zero, List.set_cons_succ]
      refine anyU_pure (i := 7) (v := .pointer (some ⟨be, 1, none⟩)) rfl (by kernel_rfl) (fun _ _ _ h => h) (Or.inl ⟨by rfl, fun w' hS => by go_simp⟩) (fun _ => hSW) trivial ?_
      simp only [Act.put, List.setIfInBounds_toArray, List.set_cons_zero, List.set_cons_succ]
      refine anyU_take (i := 8) (v := .int .i64 rev) rfl (by kernel_rfl) (fun _ _ _ h => h) (Or.inl ⟨by rfl, fun w' hS => by go_simp⟩) hSW trivial ?_
      simp only [Act.put, List.setIfInBounds_toArray, List.set_cons_zero, List.set_cons_succ]
      refine anyU_one (k := 9) (by kernel_rfl) rfl (fun K hK => ?_)
      go_simp
      refine Hin.out.mono ?_
      rintro e w1 ⟨a1, c1, rfl, hi1, hx1, hc1⟩
      have hS1 := And.intro ((hc1.cell (lt_of_cell hSW.1) (by simp)).trans hSW.1) (And.intro ((hc1.cell (lt_of_cell hSW.2.1) (by simp)).trans hSW.2.1) (And.intro ((hc1.cell (lt_of_cell hSW.2.2.1) (by simp)).trans hSW.2.2.1) (And.intro ((hc1.cell (lt_of_cell hSW.2.2.2.1) (by simp)).trans hSW.2.2.2.1) (And.intro ((hc1.cell (lt_of_cell hSW.2.2.2.2.1) (by simp)).trans hSW.2.2.2.2.1) ((hc1.cell (lt_of_cell hSW.2.2.2.2.2) (by simp)).trans hSW.2.2.2.2.2)))))
      have hb1 := And.intro ((hc1.block _ (lt_of_obj Hb2.out.1) (by simp)).trans Hb2.out.1) (And.intro ((hc1.block _ (lt_of_obj Hb2.out.2.1) (by simp)).trans Hb2.out.2.1) ((hc1.block _ (lt_of_obj Hb2.out.2.2) (by simp)).trans Hb2.out.2.2))
      have v0 : w1.cell? ⟨w.heap.size + 1 + 1, 0, none⟩ = some (.slice none 0 0) := cell_of_heap hb1.2.2 rfl
      have v1 : w1.cell? ⟨w.heap.size + 1 + 1, 1, none⟩ = some (.string ⟨#[]⟩) := cell_of_heap hb1.2.2 rfl
      have fv0 : w1.frozen? ⟨w.heap.size + 1 + 1, 0, none⟩ = false := frozen_of_heap hb1.2.2 (i := 0)
      have fv1 : w1.frozen? ⟨w.heap.size + 1 + 1, 1, none⟩ = false := frozen_of_heap hb1.2.2 (i := 1)
      have Hc1 := Lib.hid (Hcd.out.trans hc1)
      have Hb1 := Lib.hid hb1
      have Hi1 := Lib.hid hi1
      have Hx1 := Lib.hid hx1
      have Hsa1 := Lib.hid (show w.heap.size + 3 ≤ w1.heap.size by have h1 := Hsa.out; have h2 := lt_of_obj hb1.2.2; omega)
      clear hc1 hb1 hi1 hx1 hSW
      refine hK _ _ (fun _ => hS1) trivial ?_
      clear hK K
      refine anyU_pure (i := 10) (v := .tuple #[.agg #[.slice a1 xs.length c1, .string ⟨#[]⟩], .int .i64 fi, .int .i64 la]) rfl (by kernel_rfl) (fun _ _ _ h => h) (Or.inl ⟨by rfl, fun w' hS => by go_simp⟩) (fun _ => hS1) trivial ?_
      simp only [Act.put, List.setIfInBounds_toArray, List.set_cons_zero, List.set_cons_succ]
      refine anyU_pure (i := 11) (v := .agg #[.slice a1 xs.length c1, .string ⟨#[]⟩]) rfl (by kernel_rfl) (fun _ _ _ h => h) (Or.inl ⟨by rfl, fun w' hS => by go_simp⟩) (fun _ => hS1) trivial ?_
      simp only [Act.put, List.setIfInBounds_toArray, List.set_cons_zero, List.set_cons_succ]
      refine anyU_pure (i := 12) (v := .int .i64 fi) rfl (by kernel_rfl) (fun _ _ _ h => h) (Or.inl ⟨by rfl, fun w' hS => by go_simp⟩) (fun _ => hS1) trivial ?_
      simp only [Act.put, List.setIfInBounds_toArray, List.set_cons_zero, List.set_cons_succ]
      refine anyU_pure (i := 13) (v := .int .i64 la) rfl (by kernel_rfl) (fun _ _ _ h => h) (Or.inl ⟨by rfl, fun w' hS => by go_simp⟩) (fun _ => hS1) trivial ?_
      simp only [Act.put, List.setIfInBounds_toArray, List.set_cons_zero, List.set_cons_succ]
      refine anyU_one (k := 14) (by kernel_rfl) rfl (fun K hK => ?_)
      go_simp
      refine hK _ _ (fun h => by simp at h) trivial ?_
      clear hK K
      refine anyU_one (k := 15) (by kernel_rfl) rfl (fun K hK => ?_)
      go_simp
      refine hK _ _ (fun h => by simp at h) trivial ?_
      clear hK K
      refine anyU_one (k := 16) (by kernel_rfl) rfl (fun K hK => ?_)
      go_simp
      refine hK _ _ (fun h => by simp at h) trivial ?_
      clear hK K
      refine anyU_done (by kernel_rfl) ?_
      have hro : ∀ g, GRO RO cev cadd cr g → g < w.heap.size := GI.ro ⟨d, av, iv, Hg.out, HF.out⟩
      have hG1 := Hg.out.newW Hc1.out
      have hbox := hG1.box (B := w.heap.size + 1 + 1) Hb1.out.2.2 (by have := Hg.out.next.chg.size; omega) (fun h => by have := hro _ h; omega) (.slice a1 xs.length c1) (.string ⟨#[]⟩)
      have hvb2 := box_set (B := w.heap.size + 1 + 1) Hb1.out.2.2 (.slice a1 xs.length c1) (.string ⟨#[]⟩)
      have hib2 := box_ints (B := w.heap.size + 1 + 1) Hb1.out.2.2 (.slice a1 xs.length c1) (.string ⟨#[]⟩) Hi1.out
      obtain ⟨w2, hw2⟩ : ∃ x, x = (w1.setCell ⟨w.heap.size + 1 + 1, 0, none⟩ (.slice a1 xs.length c1)).setCell ⟨w.heap.size + 1 + 1, 1, none⟩ (.string ⟨#[]⟩) := ⟨_, rfl⟩
      rw [← hw2] at hbox hvb2 hib2
      have hk2 := (hbox.2.block _ (lt_of_obj Hb1.out.1) (by omega)).trans Hb1.out.1
      have ho2 := (hbox.2.block _ (lt_of_obj Hb1.out.2.1) (by omega)).trans Hb1.out.2.1
      have a0 : w2.cell? ⟨cadd, 0, none⟩ = some (.func (.func 88) #[] #[.pointer (some ⟨cr, 0, none⟩)]) := cell_of_heap hbox.1.badd rfl
      have e0 := cell_of_heap hk2 (i := 0) rfl
      have e1 := cell_of_heap hk2 (i := 1) rfl
      have e2 := cell_of_heap hk2 (i := 2) rfl
      have Hbox := Lib.hid hbox
      have H2 := Lib.hid (And.intro ho2 (And.intro hvb2 hib2))
      clear hG1 hbox hvb2 hib2 hk2 ho2 hS1 v0 v1 fv0 fv1
      rw [← hw2]
      clear hw2
      go_wp2_with fail
      obtain ⟨w3, hw3⟩ : ∃ x, x = w2.alloc (.cells #[.int .i64 0, .int .i64 k2, .int .i64 k3] 43) := ⟨_, rfl⟩
      rw [← hw3]
      have hc3 : Chg [] w2 w3 := by rw [hw3]; exact (Chg.refl _ _).alloc _
      have hk3 : w3.heap[w2.heap.size]? = some (.cells #[.int .i64 0, .int .i64 k2, .int .i64 k3] 43 (0, 0)) := by rw [hw3]; exact heap_at _ _ _ rfl
      have hG3 := Hbox.out.1.newW hc3
      have hks : I3s (fun g => g = w2.heap.size) w3 (.slice (some ⟨w2.heap.size, 0, none⟩) 1 1) [((0 : Int), k2, k3)] := ⟨_, 1, rfl, by simp, by unfold maxLen; simp, fun _ => ⟨_, 0, rfl, rfl, fun j hj => by
        obtain rfl : j = 0 := by simpa using hj
        exact ⟨cell_of_heap hk3 rfl, cell_of_heap hk3 rfl, cell_of_heap hk3 rfl⟩⟩⟩
      have l2 := hc3.size
      have hadd := add_any _ w3 cr rb f l iv _ ins _ hG3.rba hks (fun g hg => ⟨by rw [show g = _ from hg]; exact lt_of_obj hk3, fun e => by
          have h1 := lt_of_obj Hbox.out.1.rba.res
          omega, fun e => by
          have h1 := (Hbox.out.1.rba.own e).2.2
          omega⟩) (by
          have := few_in hp Hg.out.ink Hg.out.nd
          simp only at this
          simp only [List.length_cons, List.length_nil]
          omega)
      have H3 := Lib.hid (And.intro hG3 (And.intro ((hc3.block _ (lt_of_obj H2.out.1) (by simp)).trans H2.out.1) (And.intro ((hc3.block _ (lt_of_obj H2.out.2.1) (by simp)).trans H2.out.2.1) (H2.out.2.2.same hc3))))
      have Hch3 := Lib.hid (show ChgP (fun g => ¬ F g ∧ ¬ GRO RO cev cadd cr g) w w3 from (((Hc1.out.p (S := fun g => ¬ F g ∧ ¬ GRO RO cev cadd cr g)).comp Hbox.out.2 fun g hg => Or.inr (by omega)).new hc3))
      have Hadd := Lib.hid hadd
      clear hw3 hc3 hk3 hG3 hks hadd a0 e0 e1 e2 l2
      refine Hadd.out.mono ?_
      rintro e w4 ⟨rfl, iv', hr4, hc4, hn4⟩
      have Hr4 := Lib.hid (And.intro hr4 (And.intro hc4 hn4))
      clear hr4 hc4 hn4
      go_wp2_with fail
      go_meet
      obtain ⟨hr4, hc4, hn4⟩ := Hr4.out
      refine ⟨fi, la, rfl, rfl, mid_mk (ks := [((0 : Int), k2, k3)]) ?_ H3.out.1 HF.out.1 (fun g hg => ?_) hr4 hc4 hn4 ?_ H3.out.2.1 H3.out.2.2.1 H3.out.2.2.2 Hx1.out Hch3.out⟩
      · unfold getP
        rw [if_pos rfl, Hxs.out]
        rfl
      · have h1 := HF.out.2 g hg
        have h2 := Hch3.out.size
        omega
      · intro k hm
        rw [List.mem_singleton] at hm
        subst hm
        rcases Hk.out with h | h
        · exact h
        · exact absurd h.1 (by simp)
    · obtain ⟨j, hj, rfl, rfl, rfl⟩ : ∃ j : Nat, j < q ∧ k1 = 1 ∧ k2 = (j : Int) ∧ k3 = 0 := by
        rcases Hk.out with h | ⟨x1, x2, x3, x4⟩
        · exact absurd h.1 h0
        · obtain ⟨j, hj⟩ := Int.eq_ofNat_of_zero_le x2
          simp only at x1 x2 x3 x4 hj
          exact ⟨j, by omega, x1, hj, x4⟩
      have hGa := Hg.out.newW Hca.out
      have c0 : wa.cell? ⟨cev, 0, none⟩ = some (.pointer (some ⟨be, 0, none⟩)) := cell_of_heap hGa.bev rfl
      have e0 : wa.cell? ⟨w.heap.size, 0, none⟩ = some (.int .i64 1) := cell_of_heap Hb.out.1 rfl
      have e1 : wa.cell? ⟨w.heap.size, 1, none⟩ = some (.int .i64 (j : Int)) := cell_of_heap Hb.out.1 rfl
      have e2 : wa.cell? ⟨w.heap.size, 2, none⟩ = some (.int .i64 0) := cell_of_heap Hb.out.1 rfl
      have hcall := fam wa d av A j (by omega) (by omega) hGa.env hGa.next.comp hGa.st (hA j hj)
      unfold i3v at hcall
      have Hcall := Lib.hid hcall
      have HGa := Lib.hid hGa
      clear hGa hcall h0 e0w
      go_wp2_with fail
      refine Hcall.out.mono ?_
      rintro e w1 ⟨d', av', r, hn, hpl', hrp, hrm, rfl⟩
      have hRP := good_RQ hp rev n d.pl j (by omega) (by omega) Hg.out.st.inv Hg.out.st.r0 Hg.out.st.r1
      have hst' : StOk p rev d'.pl := by rw [hpl']; exact Hg.out.st.stp hRP.stp
      have hrk := hRP.rok
      have hG1 := HGa.out.go hn hst'
      have hF1 := GFree.go HGa.out HF.out.1 (fun g hg => Nat.lt_of_lt_of_le (HF.out.2 g hg) Hca.out.size) hn
      have hob1 := (hn.other (lt_of_obj Hb.out.2.1) (box_ne HGa.out.env.at_ Hb.out.2.1).1).1.trans Hb.out.2.1
      have hvb1 := (hn.other (lt_of_obj Hb.out.2.2) (box_ne HGa.out.env.at_ Hb.out.2.2).1).1.trans Hb.out.2.2
      have hra := hn.at_.mem.each _ r hrm
      have hget : getP (RQ p.qs rev n) rev (d.pl, f, l, ins) (1, (j : Int), 0) = (.ok r.xs, (d'.pl, max f r.first, min l r.last, addKs ins r.ins)) := by
        unfold getP
        rw [if_neg (by simp)]
        simp only
        rw [← hrp, ← hpl']
        rfl
      have hrin : (∀ k ∈ r.ins, InK p k) ∧ r.ins.Nodup := by
        rw [← hrp] at hrk
        exact ⟨hrk.ink, hrk.nd⟩
      have hiv : ∀ g, r.iv.ownBlock = some g → d'.I g := fun g hg => Or.inr ⟨_, r, hrm, Or.inr hg⟩
      have Hn := Lib.hid (show ChgP (fun g => ¬ F g ∧ ¬ GRO RO cev cadd cr g) w w1 from (Hca.out.p (S := fun g => ¬ F g ∧ ¬ GRO RO cev cadd cr g)).comp hn.chg fun g hg => Or.inl (HGa.out.mine HF.out.1 g (Or.inl hg)))
      have Hiv := Lib.hid hiv
      have Hrin := Lib.hid hrin
      have Hget := Lib.hid hget
      have HG1 := Lib.hid (And.intro hG1 hF1)
      have Hb1 := Lib.hid (And.intro hob1 hvb1)
      obtain ⟨rblk, rf, rl, ra, rcap, rxs, riv, rins⟩ := r
      unfold Rs.val
      simp only at hra Hiv Hrin Hget ⊢
      have hrb := hra.blk
      simp only at hrb
      have r0 := cell_of_heap hrb (i := 0) rfl
      have r1 := cell_of_heap hrb (i := 1) rfl
      have r2 := cell_of_heap hrb (i := 2) rfl
      have r3 := cell_of_heap hrb (i := 3) rfl
      have v0 : w1.cell? ⟨w.heap.size + 1 + 1, 0, none⟩ = some (.slice none 0 0) := cell_of_heap hvb1 rfl
      have v1 : w1.cell? ⟨w.heap.size + 1 + 1, 1, none⟩ = some (.string ⟨#[]⟩) := cell_of_heap hvb1 rfl
      have fv0 : w1.frozen? ⟨w.heap.size + 1 + 1, 0, none⟩ = false := frozen_of_heap hvb1 (i := 0)
      have fv1 : w1.frozen? ⟨w.heap.size + 1 + 1, 1, none⟩ = false := frozen_of_heap hvb1 (i := 1)
      have nrv : rblk ≠ w.heap.size + 1 + 1 := fun e => by
        have := tyAt_cells hrb
        rw [e, tyAt_cells hvb1] at this
        cases this
      have Hra := Lib.hid hra
      have Hsz := Lib.hid (show ws.heap.size ≤ w.heap.size from Hg.out.next.chg.size)
      clear hn hpl' hrp hrm hRP hst' hrk hG1 hF1 hob1 hvb1 hra hget hrin hiv c0 e0 e1 e2
      go_wp2_with fail
      refine wp_region_U (fun w' => w'.cell? ⟨rblk, 0, none⟩ = some (.int .i64 rf) ∧ w'.cell? ⟨rblk, 1, none⟩ = some (.int .i64 rl) ∧ w'.cell? ⟨rblk, 2, none⟩ = some (.slice ra rxs.length rcap) ∧ w'.cell? ⟨rblk, 3, none⟩ = some (.string ⟨#[]⟩)) (fun w' => w'.cell? ⟨rblk, 0, none⟩ = some (.int .i64 rf) ∧ w'.cell? ⟨rblk, 1, none⟩ = some (.int .i64 rl) ∧ w'.cell? ⟨rblk, 2, none⟩ = some (.slice ra rxs.length rcap) ∧ w'.cell? ⟨rblk, 3, none⟩ = some (.string ⟨#[]⟩)) 12 (by kernel_rfl) ?_
      intro wd hwd
      have hcd : Chg [] w1 wd := by rw [hwd]; exact (Chg.refl _ _).drew
      have hSW := And.intro ((hcd.cell (lt_of_cell r0) (by simp)).trans r0) (And.intro ((hcd.cell (lt_of_cell r1) (by simp)).trans r1) (And.intro ((hcd.cell (lt_of_cell r2) (by simp)).trans r2) ((hcd.cell (lt_of_cell r3) (by simp)).trans r3)))
      have v0d := (hcd.cell (lt_of_cell v0) (by simp)).trans v0
      have v1d := (hcd.cell (lt_of_cell v1) (by simp)).trans v1
      have fv0d := (hcd.frozen (p := ⟨w.heap.size + 1 + 1, 0, none⟩) (lt_of_cell v0) (by simp)).trans fv0
      have fv1d := (hcd.frozen (p := ⟨w.heap.size + 1 + 1, 1, none⟩) (lt_of_cell v1) (by simp)).trans fv1
      have hcb := ((ChgP.refl (fun g => g = w.heap.size + 1 + 1) wd).setCell (p := ⟨w.heap.size + 1 + 1, 0, none⟩) (Or.inl rfl) (.slice ra rxs.length rcap)).setCell (p := ⟨w.heap.size + 1 + 1, 1, none⟩) (Or.inl rfl) (.string ⟨#[]⟩)
      have hS2 := And.intro ((hcb.cell (lt_of_cell hSW.1) nrv).trans hSW.1) (And.intro ((hcb.cell (lt_of_cell hSW.2.1) nrv).trans hSW.2.1) (And.intro ((hcb.cell (lt_of_cell hSW.2.2.1) nrv).trans hSW.2.2.1) ((hcb.cell (lt_of_cell hSW.2.2.2) nrv).trans hSW.2.2.2)))
      have Hcd := Lib.hid hcd
      clear hwd hcd hcb r0 r1 r2 r3 v0 v1 fv0 fv1 hrb
      refine anyU_pure (i := 0) (v := .pointer (some ⟨rblk, 0, none⟩)) rfl (by kernel_rfl) (fun _ _ _ h => h) (Or.inl ⟨by rfl, fun w' hS => by go_simp⟩) (fun _ => hSW) hSW ?_
      simp only [Act.put, List.setIfInBounds_toArray, List.set_cons_zero, List.set_cons_succ]
      refine anyU_pure (i := 1) (v := .pointer (some ⟨rblk, 0, none⟩)) rfl (by kernel_rfl) (fun _ _ _ h => h) (Or.inl ⟨by rfl, fun w' hS => by go_simp⟩) (fun _ => hSW) hSW ?_
      simp only [Act.put, List.setIfInBounds_toArray, List.set_cons_zero, List.set_cons_succ]
      refine anyU_pure (i := 2) (v := .pointer (some ⟨rblk, 2, none⟩)) rfl (by kernel_rfl) (fun _ _ _ h => h) (Or.inl ⟨by rfl, fun w' hS => by go_simp⟩) (fun _ => hSW) hSW ?_
      simp only [Act.put, List.setIfInBounds_toArray, List.set_cons_zero, List.set_cons_succ]
      refine anyU_keep (i := 3) (v := .agg #[.slice ra rxs.length rcap, .string ⟨#[]⟩]) rfl (by kernel_rfl) (fun _ _ _ h => h) (Or.inl ⟨by rfl, fun w' hS => by go_simp⟩) (fun _ h => h) (fun _ => hSW) hSW ?_
      simp only [Act.put, List.setIfInBounds_toArray, List.set_cons_zero, List.set_cons_succ]
      refine anyU_pure (i := 4) (v := .pointer (some ⟨rblk, 0, none⟩)) rfl (by kernel_rfl) (fun _ _ _ h => h) (Or.inl ⟨by rfl, fun w' hS => by go_simp⟩) (fun _ => hSW) hSW ?_
      simp only [Act.put, List.setIfInBounds_toArray, List.set_cons_zero, List.set_cons_succ]
      refine anyU_pure (i := 5) (v := .pointer (some ⟨rblk, 0, none⟩)) rfl (by kernel_rfl) (fun _ _ _ h => h) (Or.inl ⟨by rfl, fun w' hS => by go_simp⟩) (fun _ => hSW) hSW ?_
      simp only [Act.put, List.setIfInBounds_toArray, List.set_cons_zero, List.set_cons_succ]
      refine anyU_pure (i := 6) (v := .pointer (some ⟨rblk, 0, none⟩)) rfl (by kernel_rfl) (fun _ _ _ h => h) (Or.inl ⟨by rfl, fun w' hS => by go_simp⟩) (fun _ => hSW) hSW ?_
      simp only [Act.put, List.setIfInBounds_toArray, List.set_cons_zero, List.set_cons_succ]
      refine anyU_keep (i := 7) (v := .int .i64 rf) rfl (by kernel_rfl) (fun _ _ _ h => h) (Or.inl ⟨by rfl, fun w' hS => by go_simp⟩) (fun _ h => h) (fun _ => hSW) hSW ?_
      simp only [Act.put, List.setIfInBounds_toArray, List.set_cons_zero, List.set_cons_succ]
      refine anyU_pure (i := 8) (v := .pointer (some ⟨rblk, 0, none⟩)) rfl (by kernel_rfl) (fun _ _ _ h => h) (Or.inl ⟨by rfl, fun w' hS => by go_simp⟩) (fun _ => hSW) hSW ?_
      simp only [Act.put, List.setIfInBounds_toArray, List.set_cons_zero, List.set_cons_succ]
      refine anyU_pure (i := 9) (v := .pointer (some ⟨rblk, 0, none⟩)) rfl (by kernel_rfl) (fun _ _ _ h => h) (Or.inl ⟨by rfl, fun w' hS => by go_simp⟩) (fun _ => hSW) hSW ?_
      simp only [Act.put, List.setIfInBounds_toArray, List.set_cons_zero, List.set_cons_succ]
      refine anyU_pure (i := 10) (v := .pointer (some ⟨rblk, 1, none⟩)) rfl (by kernel_rfl) (fun _ _ _ h => h) (Or.inl ⟨by rfl, fun w' hS => by go_simp⟩) (fun _ => hSW) hSW ?_
      simp only [Act.put, List.setIfInBounds_toArray, List.set_cons_zero, List.set_cons_succ]
      refine anyU_keep (i := 11) (v := .int .i64 rl) rfl (by kernel_rfl) (fun _ _ _ h => h) (Or.inl ⟨by rfl, fun w' hS => by go_simp⟩) (fun _ h => h) (fun _ => hSW) hSW ?_
      simp only [Act.put, List.setIfInBounds_toArray, List.set_cons_zero, List.set_cons_succ]
      refine anyU_one (k := 12) (by kernel_rfl) rfl (fun K hK => ?_)
      go_simp
      refine hK _ _ (fun h => by simp at h) hS2 ?_
      clear hK K
      refine anyU_one (k := 13) (by kernel_rfl) rfl (fun K hK => ?_)
      go_simp
      refine hK _ _ (fun h => by simp at h) hS2 ?_
      clear hK K
      refine anyU_one (k := 14) (by kernel_rfl) rfl (fun K hK => ?_)
      go_simp
      refine hK _ _ (fun h => by simp at h) hS2 ?_
      clear hK K
      refine anyU_done (by kernel_rfl) ?_
      have hro : ∀ g, GRO RO cev cadd cr g → g < w.heap.size := GI.ro ⟨d, av, iv, Hg.out, HF.out⟩
      have hGd := HG1.out.1.newW Hcd.out
      have hvbd := (Hcd.out.block _ (lt_of_obj Hb1.out.2) (by simp)).trans Hb1.out.2
      have hobd := (Hcd.out.block _ (lt_of_obj Hb1.out.1) (by simp)).trans Hb1.out.1
      have hbox := hGd.box (B := w.heap.size + 1 + 1) hvbd (by have := Hsz.out; omega) (fun h => by have := hro _ h; omega) (.slice ra rxs.length rcap) (.string ⟨#[]⟩)
      have hvb2 := box_set (B := w.heap.size + 1 + 1) hvbd (.slice ra rxs.length rcap) (.string ⟨#[]⟩)
      have hra2 := (Hra.out.kept (w' := wd) (Hcd.out.block _ (lt_of_obj Hra.out.blk) (by simp)) (fun g hg => Hcd.out.block g (tyAt_lt (tyAt_ints Hra.out.nums hg)) (by simp)) fun g hg => Hcd.out.block g (Hra.out.ins.lt g hg).2 (by simp))
      have hib2 := box_ints (B := w.heap.size + 1 + 1) hvbd (.slice ra rxs.length rcap) (.string ⟨#[]⟩) hra2.nums
      obtain ⟨w2, hw2⟩ : ∃ x, x = (wd.setCell ⟨w.heap.size + 1 + 1, 0, none⟩ (.slice ra rxs.length rcap)).setCell ⟨w.heap.size + 1 + 1, 1, none⟩ (.string ⟨#[]⟩) := ⟨_, rfl⟩
      rw [← hw2] at hbox hvb2 hib2 hS2 ⊢
      have ho2 := (hbox.2.block _ (lt_of_obj hobd) (by omega)).trans hobd
      have a0 : w2.cell? ⟨cadd, 0, none⟩ = some (.func (.func 88) #[] #[.pointer (some ⟨cr, 0, none⟩)]) := cell_of_heap hbox.1.badd rfl
      have hrb2 := (hbox.2.block _ (lt_of_obj hra2.blk) nrv).trans hra2.blk
      have r4 : w2.cell? ⟨rblk, 4, none⟩ = some riv := cell_of_heap hrb2 (i := 4) rfl
      have hins2 : w2.ownsRow 0 43 3 riv rins.length (flat3 rins) := ownsRow_kept hra2.ins fun g hg hl => hbox.2.block g hl fun e => by
        have h1 := tyAt_own hra2.ins hg
        rw [show g = w.heap.size + 1 + 1 from e, tyAt_cells hvbd] at h1
        cases h1
      have Hbox := Lib.hid hbox
      have H2 := Lib.hid (And.intro ho2 (And.intro hvb2 (And.intro hib2 hins2)))
      have Hsize := Lib.hid Hra.out.size
      clear hGd hbox hvb2 hib2 ho2 hS2 hvbd hobd hra2 hrb2 hins2 hw2 v0d v1d fv0d fv1d hSW
      go_wp2_with fail
      refine wp_region_readsQ 5 (by kernel_rfl) (by kernel_rfl) ?_
      intro we hwe
      simp only [List.take_succ_cons, List.take_zero, List.drop_succ_cons, List.drop_zero]
      have hce : Chg [] w2 we := by rw [hwe]; exact (Chg.refl _ _).drew
      have a0e := (hce.cell (lt_of_cell a0) (by simp)).trans a0
      have r4e := (hce.cell (lt_of_cell r4) (by simp)).trans r4
      have hGe := Hbox.out.1.newW hce
      have hinse : we.ownsRow 0 43 3 riv rins.length (flat3 rins) := ownsRow_kept H2.out.2.2.2 fun g hg hl => hce.block g hl (by simp)
      have hoff := hGe.off
      have hadd := add_any _ we cr rb f l iv _ ins rins hGe.rba (i3s_of_own hinse) (fun g hg => ⟨(hinse.lt g hg).2, fun e => (hoff _ (Or.inr (Or.inl rfl))).2 (e ▸ Hiv.out g hg), fun e => (hoff g (Or.inr (Or.inr e))).2 (Hiv.out g hg)⟩) (by
          have h1 := few_in hp Hg.out.ink Hg.out.nd
          have h2 := few_in hp Hrin.out.1 Hrin.out.2
          simp only at h1
          omega)
      have H3 := Lib.hid (And.intro hGe (And.intro ((hce.block _ (lt_of_obj H2.out.1) (by simp)).trans H2.out.1) (And.intro ((hce.block _ (lt_of_obj H2.out.2.1) (by simp)).trans H2.out.2.1) (H2.out.2.2.1.same hce))))
      have Hch3 := Lib.hid (show ChgP (fun g => ¬ F g ∧ ¬ GRO RO cev cadd cr g) w we from (((Hn.out.new Hcd.out).comp Hbox.out.2 fun g hg => Or.inr (by omega)).new hce))
      have Hadd := Lib.hid hadd
      clear hwe hce hGe hinse hoff hadd a0 r4
      repeat go_big_quiet_step (fail)
      refine wpQuiet_nil ?_
      go_wp2_with fail
      refine Hadd.out.mono ?_
      rintro e w4 ⟨rfl, iv', hr4, hc4, hn4⟩
      have Hr4 := Lib.hid (And.intro hr4 (And.intro hc4 hn4))
      clear hr4 hc4 hn4 a0e r4e
      go_wp2_with fail
      go_meet
      obtain ⟨hr4, hc4, hn4⟩ := Hr4.out
      refine ⟨rf, rl, rfl, rfl, mid_mk (ks := rins) Hget.out H3.out.1 HG1.out.2 (fun g hg => ?_) hr4 hc4 hn4 Hrin.out.1 H3.out.2.1 H3.out.2.2.1 H3.out.2.2.2 Hsize.out Hch3.out⟩
      have h1 := HF.out.2 g hg
      have h2 := Hch3.out.size
      omega
  case rest =>
    obtain ⟨f', l', rfl, rfl, d2, av2, iv2, s', ins', a, c, xs, hM⟩ := hcut
    have c0 : wc.cell? ⟨cr, 0, none⟩ = some (.pointer (some ⟨rb, 0, none⟩)) := cell_of_heap hM.at_.rba.bre rfl
    have r0 : wc.cell? ⟨rb, 0, none⟩ = some (.int .i64 f) := cell_of_heap hM.at_.rba.res rfl
    have r1 : wc.cell? ⟨rb, 1, none⟩ = some (.int .i64 l) := cell_of_heap hM.at_.rba.res rfl
    have g0 := frozen_of_heap hM.at_.rba.res (i := 0)
    have g1 := frozen_of_heap hM.at_.rba.res (i := 1)
    have v0 : wc.cell? ⟨w.heap.size + 1 + 1, 0, none⟩ = some (.slice a xs.length c) := cell_of_heap hM.val (i := 0) rfl
    have v1 : wc.cell? ⟨w.heap.size + 1 + 1, 1, none⟩ = some (.string ⟨#[]⟩) := cell_of_heap hM.val (i := 1) rfl
    have nrb : rb ≠ w.heap.size + 1 + 1 := fun e => by
      have := tyAt_cells hM.at_.rba.res
      rw [e, tyAt_cells hM.val] at this
      cases this
    have nrb' : w.heap.size + 1 + 1 ≠ rb := Ne.symm nrb
    have HM := Lib.hid hM
    clear hM
    go_wp2_with fail
    refine wp_region_U (fun w' => w'.cell? ⟨cr, 0, none⟩ = some (.pointer (some ⟨rb, 0, none⟩)) ∧ w'.cell? ⟨rb, 0, none⟩ = some (.int .i64 f) ∧ w'.cell? ⟨rb, 1, none⟩ = some (.int .i64 l)) (fun w' => w'.cell? ⟨cr, 0, none⟩ = some (.pointer (some ⟨rb, 0, none⟩))) 16 (by kernel_rfl) ?_
    intro wd hwd
    have hcd : Chg [] wc wd := by rw [hwd]; exact (Chg.refl _ _).drew
    have hSW := And.intro ((hcd.cell (lt_of_cell c0) (by simp)).trans c0) (And.intro ((hcd.cell (lt_of_cell r0) (by simp)).trans r0) ((hcd.cell (lt_of_cell r1) (by simp)).trans r1))
    have hS0 := hSW.1
    have r0d := hSW.2.1
    have r1d := hSW.2.2
    have g0d := (hcd.frozen (p := ⟨rb, 0, none⟩) (lt_of_cell r0) (by simp)).trans g0
    have g1d := (hcd.frozen (p := ⟨rb, 1, none⟩) (lt_of_cell r1) (by simp)).trans g1
    have v0d := (hcd.cell (lt_of_cell v0) (by simp)).trans v0
    have v1d := (hcd.cell (lt_of_cell v1) (by simp)).trans v1
    have Hcd := Lib.hid hcd
    have ncr : cr ≠ rb := HM.out.at_.rba.ne
    have hS1 := (((ChgP.refl (fun g => g = rb) wd).setCell (p := ⟨rb, 0, none⟩) (Or.inl rfl) (.int .i64 (max f f'))).cell (p := ⟨cr, 0, none⟩) (lt_of_cell hS0) ncr).trans hS0
    have hS2 := ((((ChgP.refl (fun g => g = rb) wd).setCell (p := ⟨rb, 0, none⟩) (Or.inl rfl) (.int .i64 (max f f'))).setCell (p := ⟨rb, 1, none⟩) (Or.inl rfl) (.int .i64 (min l l'))).cell (p := ⟨cr, 0, none⟩) (lt_of_cell hS0) ncr).trans hS0
    clear hwd c0 r0 r1 g0 g1 hcd v0 v1 ncr
    refine anyU_keep (i := 0) (v := .pointer (some ⟨rb, 0, none⟩)) rfl (by kernel_rfl) (fun _ _ _ h => h) (Or.inl ⟨by rfl, fun w' hS => by go_simp⟩) (fun _ h => h.1) (fun _ => hSW) hS0 ?_
    simp only [Act.put, List.setIfInBounds_toArray, List.set_cons_zero, List.set_cons_succ]
    refine anyU_keep (i := 1) (v := .pointer (some ⟨rb, 0, none⟩)) rfl (by kernel_rfl) (fun _ _ _ h => h) (Or.inl ⟨by rfl, fun w' hS => by go_simp⟩) (fun _ h => h.1) (fun _ => hSW) hS0 ?_
    simp only [Act.put, List.setIfInBounds_toArray, List.set_cons_zero, List.set_cons_succ]
    refine anyU_keep (i := 2) (v := .pointer (some ⟨rb, 0, none⟩)) rfl (by kernel_rfl) (fun _ _ _ h => h) (Or.inl ⟨by rfl, fun w' hS => by go_simp⟩) (fun _ h => h.1) (fun _ => hSW) hS0 ?_
    simp only [Act.put, List.setIfInBounds_toArray, List.set_cons_zero, List.set_cons_succ]
    refine anyU_pure (i := 3) (v := .pointer (some ⟨rb, 0, none⟩)) rfl (by kernel_rfl) (fun _ _ _ h => h) (Or.inl ⟨by rfl, fun w' hS => by go_simp⟩) (fun _ => hSW) hS0 ?_
    simp only [Act.put, List.setIfInBounds_toArray, List.set_cons_zero, List.set_cons_succ]
    refine anyU_pure (i := 4) (v := .pointer (some ⟨rb, 0, none⟩)) rfl (by kernel_rfl) (fun _ _ _ h => h) (Or.inl ⟨by rfl, fun w' hS => by go_simp⟩) (fun _ => hSW) hS0 ?_
    simp only [Act.put, List.setIfInBounds_toArray, List.set_cons_zero, List.set_cons_succ]
    refine anyU_take (i := 5) (v := .int .i64 (f)) rfl (by kernel_rfl) (fun _ _ _ h => h) (Or.inl ⟨by rfl, fun w' hS => by go_simp⟩) hSW hS0 ?_
    simp only [Act.put, List.setIfInBounds_toArray, List.set_cons_zero, List.set_cons_succ]
    refine anyU_pure (i := 6) (v := .int .i64 (f')) rfl (by kernel_rfl) (fun _ _ _ h => h) (Or.inl ⟨by rfl, fun w' hS => by go_simp⟩) (fun _ => hSW) hS0 ?_
    simp only [Act.put, List.setIfInBounds_toArray, List.set_cons_zero, List.set_cons_succ]
    refine anyU_pure (i := 7) (v := .int .i64 (max f f')) rfl (by kernel_rfl) (fun _ _ _ h => h) (Or.inl ⟨by rfl, fun w' hS => by go_simp⟩) (fun _ => hSW) hS0 ?_
    simp only [Act.put, List.setIfInBounds_toArray, List.set_cons_zero, List.set_cons_succ]
    refine anyU_keep (i := 8) (v := .pointer (some ⟨rb, 0, none⟩)) rfl (by kernel_rfl) (fun _ _ _ h => h) (Or.inl ⟨by rfl, fun w' hS => by go_simp⟩) (fun _ h => h.1) (fun _ => hSW) hS0 ?_
    simp only [Act.put, List.setIfInBounds_toArray, List.set_cons_zero, List.set_cons_succ]
    refine anyU_pure (i := 9) (v := .pointer (some ⟨rb, 0, none⟩)) rfl (by kernel_rfl) (fun _ _ _ h => h) (Or.inl ⟨by rfl, fun w' hS => by go_simp⟩) (fun _ => hSW) hS0 ?_
    simp only [Act.put, List.setIfInBounds_toArray, List.set_cons_zero, List.set_cons_succ]
    refine anyU_pure (i := 10) (v := .pointer (some ⟨rb, 1, none⟩)) rfl (by kernel_rfl) (fun _ _ _ h => h) (Or.inl ⟨by rfl, fun w' hS => by go_simp⟩) (fun _ => hSW) hS0 ?_
    simp only [Act.put, List.setIfInBounds_toArray, List.set_cons_zero, List.set_cons_succ]
    refine anyU_take (i := 11) (v := .int .i64 (l)) rfl (by kernel_rfl) (fun _ _ _ h => h) (Or.inl ⟨by rfl, fun w' hS => by go_simp⟩) hSW hS0 ?_
    simp only [Act.put, List.setIfInBounds_toArray, List.set_cons_zero, List.set_cons_succ]
    refine anyU_pure (i := 12) (v := .int .i64 (l')) rfl (by kernel_rfl) (fun _ _ _ h => h) (Or.inl ⟨by rfl, fun w' hS => by go_simp⟩) (fun _ => hSW) hS0 ?_
    simp only [Act.put, List.setIfInBounds_toArray, List.set_cons_zero, List.set_cons_succ]
    refine anyU_pure (i := 13) (v := .int .i64 (min l l')) rfl (by kernel_rfl) (fun _ _ _ h => h) (Or.inl ⟨by rfl, fun w' hS => by go_simp⟩) (fun _ => hSW) hS0 ?_
    simp only [Act.put, List.setIfInBounds_toArray, List.set_cons_zero, List.set_cons_succ]
    refine anyU_pure (i := 14) (v := .pointer (some ⟨rb, 0, none⟩)) rfl (by kernel_rfl) (fun _ _ _ h => h) (Or.inl ⟨by rfl, fun w' hS => by go_simp⟩) (fun _ => hSW) hS0 ?_
    simp only [Act.put, List.setIfInBounds_toArray, List.set_cons_zero, List.set_cons_succ]
    refine anyU_pure (i := 15) (v := .pointer (some ⟨rb, 0, none⟩)) rfl (by kernel_rfl) (fun _ _ _ h => h) (Or.inl ⟨by rfl, fun w' hS => by go_simp⟩) (fun _ => hSW) hS0 ?_
    simp only [Act.put, List.setIfInBounds_toArray, List.set_cons_zero, List.set_cons_succ]
    refine anyU_one (k := 16) (by kernel_rfl) rfl (fun K hK => ?_)
    go_simp
    refine hK _ _ (fun h => by simp at h) hS1 ?_
    clear hK K
    refine anyU_one (k := 17) (by kernel_rfl) rfl (fun K hK => ?_)
    go_simp
    refine hK _ _ (fun h => by simp at h) hS1 ?_
    clear hK K
    refine anyU_one (k := 18) (by kernel_rfl) rfl (fun K hK => ?_)
    go_simp
    refine hK _ _ (fun h => by simp at h) hS1 ?_
    clear hK K
    refine anyU_one (k := 19) (by kernel_rfl) rfl (fun K hK => ?_)
    go_simp
    refine hK _ _ (fun h => by simp at h) hS2 ?_
    clear hK K
    refine anyU_done (by kernel_rfl) ?_
    go_wp2_with fail
    have hi2 : Inp.Ints ((wd.setCell ⟨rb, 0, none⟩ (.int .i64 (max f f'))).setCell ⟨rb, 1, none⟩ (.int .i64 (min l l'))) (.slice a xs.length c) xs :=
      (HM.out.nums.same Hcd.out).kept (((Chg.refl [rb] _).setCell (p := ⟨rb, 0, none⟩) (Or.inl (by simp)) _).setCell (p := ⟨rb, 1, none⟩) (Or.inl (by simp)) _) (fun k hk => by
        obtain rfl : k = rb := by simpa using hk
        exact NotE.of_heap (HM.out.at_.newW Hcd.out).rba.res (by simp))
    have Hcl := Lib.hid (clone_any _ _ ⟨#[]⟩ xs hi2 HM.out.size)
    clear hi2
    refine Hcl.out.mono ?_
    rintro e w3 ⟨a3, c3, rfl, hi3, hn3, hc3⟩
    have hend := mid_end HM.out Hcd.out Hg.out.next.chg.size (GI.ro ⟨d, av, iv, Hg.out, HF.out⟩) HF.out.2 hc3 hi3
    have o0 := cell_of_heap hend.2.2.2 (i := 0) rfl
    have o1 := cell_of_heap hend.2.2.2 (i := 1) rfl
    have fo0 := frozen_of_heap hend.2.2.2 (i := 0)
    have fo1 := frozen_of_heap hend.2.2.2 (i := 1)
    have Hend := Lib.hid hend
    clear hend hi3 hn3 hc3 hSW hS0 hS1 hS2 r0d r1d g0d g1d v0d v1d
    go_wp2_with fail
    refine bodyPost_ret (v := .agg #[.slice a3 xs.length c3, .string ⟨#[]⟩]) (by simp [results, Try.results89, go_sem, o0, o1]) rfl ?_
    obtain ⟨z1, z2, z3, _⟩ := Hend.out
    unfold VPost
    rw [HM.out.get]
    exact ⟨⟨a3, c3, rfl, z2, HM.out.size⟩, z1, z3⟩
end
end Go.Proofs.Ytggiddhhbilcjaa.Sn
