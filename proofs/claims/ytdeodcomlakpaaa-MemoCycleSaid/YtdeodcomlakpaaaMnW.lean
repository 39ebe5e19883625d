/- MemoCycle: the update over the cycle's compute function; the law. -/
import Derived.Test.YtdeodcomlakpaaaMnV
namespace Go.Proofs.Ytdeodcomlakpaaa
open Go.RowKit Go.ChangeMaps Go.MapKept
set_option linter.unusedVariables false
set_option linter.unusedSimpArgs false
theorem cycOk {L : Int} {k : QK} (h : CycK L k) (hL : L ≤ 9) : Inp.QKok k := by
  rcases h with ⟨h1, h2, h3, h4⟩ | rfl
  · refine ⟨?_, ?_, ?_⟩ <;> (unfold Inp.In64; omega)
  · refine ⟨?_, ?_, ?_⟩ <;> (unfold Inp.In64; decide)
def KD (L : Int) (n : Nat) (s : PS) (k : QK) : Prop := (k.1 = 2 ∧ 0 ≤ k.2.1 ∧ k.2.1 < L ∧ k.2.2 = 0) ∧ InvC L s ∧ freeC L s < n
theorem free_mono {L : Int} {s s' : PS} (h : ∀ k, s.busy k ≠ 0 → s'.busy k ≠ 0) : freeC L s' ≤ freeC L s := by
  unfold freeC
  induction List.range L.toNat with
  | nil => simp
  | cons a l ih =>
    simp only [List.filter_cons]
    by_cases h1 : s.busy (2, (a : Int), 0) = 0
    · by_cases h2 : s'.busy (2, (a : Int), 0) = 0
      · simp [h1, h2]; exact ih
      · simp [h1, h2]; omega
    · have h2 := h _ h1
      simp [h1, h2]; exact ih
section
variable {w0 : World} {RO : Nat → Prop} {b bl : Nat} {L : Int}
theorem cyc_fam (hL : 1 ≤ L ∧ L ≤ 9) (hbl : w0.heap[bl]? = some (.cells #[.int .i64 L] 3 (0, 0))) (hro : RO bl) : CFam w0 RO 17 #[.pointer (some ⟨bl, 0, none⟩)] (cycC L) chI (CycK L) (fun key k => key.1 = 2 ∧ k = nextC L key) where
  enter := enterCyc
  call := by
    intro fn gcaps I RO' G F s w key fam hk hI hRO hsame
    exact cycle_any hL hk ((hsame bl hro).trans hbl) (hRO bl hro) fam hI
theorem fin1 {a : QK} {P : Prop} {l : List QK} (hl : l.Nodup) (h : ∀ k ∈ l, P ∧ k = a) : l.length ≤ 1000 := by
  rcases l with _ | ⟨x, _ | ⟨y, l⟩⟩
  · simp
  · simp
  · have h1 := (h x (by simp)).2
    have h2 := (h y (by simp)).2
    rw [h1, h2] at hl
    simp at hl
theorem cyc_upd (hL : 1 ≤ L ∧ L ≤ 9) (hbl : w0.heap[bl]? = some (.cells #[.int .i64 L] 3 (0, 0))) (hro : RO bl) {n : Nat}
    (fam : UFam w0 RO b (.func (.func 17) #[] #[.pointer (some ⟨bl, 0, none⟩)]) .nilFunc (KD L n) (UC L n) chI) (w : World) (d : Dm) (key : QK) (henv : Env w0 RO b w d) (hc : d.comp = .func (.func 17) #[] #[.pointer (some ⟨bl, 0, none⟩)]) (hs : d.stop = .nilFunc)
    (hk : CycK L key) (hi : InvC L d.pl) (hf : freeC L d.pl < n + 1) : Calls Try.prog 68 #[.pointer (some ⟨b, 0, none⟩), i3v key] w (UPost (UC L (n + 1)) chI b key w d) := by
  refine update_anyB (Kk := fun k => key.1 = 2 ∧ k = nextC L key) (K := KD L n) (U := UC L n) (C := cycC L) (stp := fun _ => false) fam key (cycOk hk hL.2) w d henv hc hs ?_ ?_ ?_ ?_ ?_
  · intro h0
    unfold PS.busy at h0
    cases ha : aget d.act key with
    | none => rfl
    | some v =>
      have := hi.act _ v ha
      rw [show aget d.pl.act key = some v from ha] at h0
      subst this
      simp at h0
  · intro _ w d v henv hc hs hact hks
    exact recompute_nil fam (cyc_fam hL hbl hro) key v hk (cycOk hk hL.2) (fun l hl h => fin1 hl h) w d henv hc hs hact hks
  · rintro h0 k ⟨h2, rfl⟩
    refine ⟨cycOk (nextC_in hL.1 key) hL.2, fun _ => ⟨?_, invC_beg hi key, ?_⟩⟩
    · have := modI_bd (key.2.1 + 1) L hL.1
      exact ⟨rfl, this.1, this.2, rfl⟩
    · have := free_beg (hk.resolve_right fun e => by rw [e] at h2; exact absurd h2 (by decide)) h0
      omega
  · intro r hr
    have h := hi.es key r.pl (by rw [Dm.aget_pl, hr]; rfl)
    have h1 : r.deps = [] := h.2.2
    refine ⟨⟨h.2.1.1, by have := h.2.1.2; unfold Rs.pl at this; simp only at this; omega⟩, fun k hk' => by rw [h1] at hk'; simp at hk'⟩
  · rintro r s2 hr hv k ⟨h2, _⟩
    have h := (hi.es key r.pl (by rw [Dm.aget_pl, hr]; rfl)).1
    rw [h] at h2
    exact absurd h2 (by decide)
theorem cyc_all (hL : 1 ≤ L ∧ L ≤ 9) (hbl : w0.heap[bl]? = some (.cells #[.int .i64 L] 3 (0, 0))) (hro : RO bl) : ∀ n, UFam w0 RO b (.func (.func 17) #[] #[.pointer (some ⟨bl, 0, none⟩)]) .nilFunc (KD L n) (UC L n) chI := by
  intro n
  induction n with
  | zero => exact ⟨fun w d k _ _ _ h => absurd h.2.2 (by omega), fun s k k' h => absurd h.2.2 (by omega), fun s k h => absurd h.2.2 (by omega)⟩
  | succ n ih =>
    refine ⟨fun w d k henv hc hs h => cyc_upd hL hbl hro ih w d k henv hc hs (Or.inl h.1) h.2.1 h.2.2, ?_, fun s k h => ⟨by rw [h.1.1]; decide, cycOk (Or.inl h.1) hL.2⟩⟩
    intro s k k' h h'
    obtain ⟨s', h1, h2, h3, h4, h5⟩ := cyc_err hL.1 (n + 1) s k h.2.1 h.1 h.2.2
    rw [h1]
    exact ⟨h'.1, h2, by have := free_mono (L := L) h5; have := h'.2.2; simp only; omega⟩
/-- the law's Get -/
theorem cyc_get (hL : 1 ≤ L ∧ L ≤ 9) (hbl : w0.heap[bl]? = some (.cells #[.int .i64 L] 3 (0, 0))) (hro : RO bl) (w : World) (d : Dm) (key : QK) (henv : Env w0 RO b w d) (hc : d.comp = .func (.func 17) #[] #[.pointer (some ⟨bl, 0, none⟩)])
    (hk : CycK L key) (hi : InvC L d.pl) : Calls Try.prog 19 #[.pointer (some ⟨b, 0, none⟩), i3v key] w (GPost (UC L 10) b key w d) :=
  get_any (U := UC L 10) key (by rcases hk with ⟨h, _⟩ | rfl; · rw [h]; decide
                                 · decide) w d henv fun w' d' he hc' hs hpl => cyc_upd hL hbl hro (cyc_all hL hbl hro 9) w' d' key he (hc'.trans hc) hs hk (by rw [hpl]; exact hi) (by rw [hpl]; exact free_le hL.2 _)
end
theorem invC_idle {L : Int} {s : PS} (h : InvC L s) : InvC L s.idle := ⟨h.es, fun k v hv => (by unfold PS.idle at hv; cases hv), h.rev, h.l0, h.l1, h.l2⟩
theorem invC_empty (L : Int) : InvC L PS.empty := ⟨fun k r h => (by unfold PS.empty at h; cases h), fun k v h => (by unfold PS.empty at h; cases h), rfl, rfl, rfl, rfl⟩
theorem idle_busy (s : PS) (k : QK) : s.idle.busy k = 0 := rfl
/-- the law's database -/
structure CyD (wb w0 : World) (bl b : Nat) (L : Int) (w : World) (d : Dm) : Prop where
  env : Env w0 (fun g => g = bl) b w d
  comp : d.comp = .func (.func 17) #[] #[.pointer (some ⟨bl, 0, none⟩)]
  inv : InvC L d.pl
  act : d.pl.act = []
  chg : Chg [] wb w
  fresh : ∀ g ∈ d.muts b, wb.heap.size ≤ g
section
variable {wb w0 : World} {bl b : Nat} {L : Int} {w w' : World} {d : Dm}
theorem CyD.new (h : CyD wb w0 bl b L w d) (hc : Chg [] w w') : CyD wb w0 bl b L w' d := ⟨h.env.new hc, h.comp, h.inv, h.act, h.chg.trans hc, h.fresh⟩
theorem CyD.err (hL : 1 ≤ L ∧ L ≤ 9) (hbl : w0.heap[bl]? = some (.cells #[.int .i64 L] 3 (0, 0))) (h : CyD wb w0 bl b L w d) (k : QK) (hk : k.1 = 2 ∧ 0 ≤ k.2.1 ∧ k.2.1 < L ∧ k.2.2 = 0) :
    Calls Try.prog 19 #[.pointer (some ⟨b, 0, none⟩), i3v k] w fun e w' => ∃ d', CyD wb w0 bl b L w' d' ∧ After b w w' d d' ∧ d'.pl.es = d.pl.es ∧ d'.pl.cnt = d.pl.cnt ∧ e = .returned (.tuple #[.agg #[.slice none 0 0, .string ⟨#[]⟩], .int .i64 8]) := by
  refine (cyc_get (RO := fun g => g = bl) hL hbl rfl w d k h.env h.comp (Or.inl hk) h.inv).mono ?_
  rintro e w' ⟨d', ha, hpl, hm⟩
  obtain ⟨s', h1, h2, h3, h4, h5⟩ := cyc_err hL.1 10 d.pl k h.inv hk (free_le hL.2 _)
  rw [h1] at hpl hm
  obtain ⟨g1, g2⟩ := grow h.chg h.fresh ha
  exact ⟨d', ⟨h.env.after ha, ha.comp.trans h.comp, by rw [hpl]; exact invC_idle h2, by rw [hpl]; rfl, g1, g2⟩, ha, by rw [hpl]; exact h3, by rw [hpl]; exact h4, hm⟩
theorem CyD.num (hL : 1 ≤ L ∧ L ≤ 9) (hbl : w0.heap[bl]? = some (.cells #[.int .i64 L] 3 (0, 0))) (h : CyD wb w0 bl b L w d) (hes : aget d.pl.es (3, 8, 0) = none) :
    Calls Try.prog 19 #[.pointer (some ⟨b, 0, none⟩), i3v (3, 8, 0)] w fun e w' => ∃ d', CyD wb w0 bl b L w' d' ∧ After b w w' d d' ∧ d'.pl.cnt = wrap64 (d.pl.cnt + 1) ∧ ∃ a c, e = .returned (.tuple #[.agg #[.slice a 1 c, .string ⟨#[]⟩], .int .i64 0]) ∧ Inp.Ints w' (.slice a 1 c) [8] := by
  refine (cyc_get (RO := fun g => g = bl) hL hbl rfl w d (3, 8, 0) h.env h.comp (Or.inr rfl) h.inv).mono ?_
  rintro e w' ⟨d', ha, hpl, hm⟩
  obtain ⟨s', h1, h2, h3, h4, h5⟩ := cyc_num (L := L) 9 d.pl h.inv (by unfold PS.busy; rw [h.act]; rfl) hes
  rw [h1] at hpl hm
  simp only [h3] at hm
  obtain ⟨g1, g2⟩ := grow h.chg h.fresh ha
  exact ⟨d', ⟨h.env.after ha, ha.comp.trans h.comp, by rw [hpl]; exact invC_idle h2, by rw [hpl]; rfl, g1, g2⟩, ha, by rw [hpl]; exact h4, hm⟩
end
/-! ### the law -/
set_option maxRecDepth 100000 in
set_option maxHeartbeats 8000000 in
theorem memoCycle_any (w : World) (n start : Int) : Calls Try.prog 3 #[.int .i64 n, .int .i64 start] w fun e w' => e = .returned (.bool true) ∧ Chg [] w w' := by
  obtain ⟨m, hmd⟩ : ∃ m, m = modI n 9 := ⟨_, rfl⟩
  obtain ⟨hm0, hm9⟩ : 0 ≤ m ∧ m < 9 := by rw [hmd]; exact modI_bd n 9 (by omega)
  have Hmd := Lib.hid hmd
  clear hmd
  obtain ⟨wa, hwa⟩ : ∃ x, x = w.alloc (.cells #[.int .i64 n] 3) := ⟨_, rfl⟩
  have hca : Chg [] w wa := by rw [hwa]; exact (Chg.refl [] w).alloc _
  have hbx : wa.heap[w.heap.size]? = some (.cells #[.int .i64 n] 3 (0, 0)) := by rw [hwa]; exact heap_at _ _ _ rfl
  have Hca := Lib.hid hca
  have Hbx := Lib.hid hbx
  clear hca hbx
  go_enter Try.func3, Try.ntmps3
  go_wp2_with fail
  rw [← hwa]
  clear hwa
  refine (memoExample_any _).mono ?_
  rintro e w1 ⟨rfl, hc1⟩
  have hb1 := (hc1.block _ (lt_of_obj Hbx.out) (by simp)).trans Hbx.out
  have Hc1 := Lib.hid (Hca.out.trans hc1)
  have q1 : w1.cell? ⟨w.heap.size, 0, none⟩ = some (.int .i64 n) := cell_of_heap hb1 rfl
  have f1 : w1.frozen? ⟨w.heap.size, 0, none⟩ = false := frozen_of_heap (i := 0) hb1
  have l1 : w.heap.size < w1.heap.size := lt_of_obj hb1
  have Hb1 := Lib.hid hb1
  clear hb1 hc1 Hca Hbx
  go_wp2_with fail
  refine (mod_any n 9 _ (by omega) (by omega)).mono ?_
  rintro e w' ⟨rfl, hw'⟩
  subst hw'
  rw [← Hmd.out]
  go_wp2_with fail
  obtain ⟨w2, hw2⟩ : ∃ x, x = w1.setCell ⟨w.heap.size, 0, none⟩ (.int .i64 (1 + m)) := ⟨_, rfl⟩
  rw [← hw2]
  have hb2 : w2.heap[w.heap.size]? = some (.cells #[.int .i64 (1 + m)] 3 (0, 0)) := by rw [hw2]; exact heap_setCell_same Hb1.out _
  have Hc2 := Lib.hid (show Chg [] w w2 by rw [hw2]; exact Hc1.out.setCell (Or.inr (Nat.le_refl _)) _)
  clear hw2 q1 f1 l1 Hb1 Hc1
  refine (memoNew_any _ _ w2).mono ?_
  rintro e w3 ⟨b, d, rfl, hd, hpl, hcomp, hstop, hc3, hn⟩
  have hlb := lt_of_obj hb2
  have hcy : CyD w w2 w.heap.size b (1 + m) w3 d := ⟨⟨hd, fun g hg => by
    subst hg
    exact ⟨Nat.lt_of_lt_of_le hlb hc3.size, hc3.block _ hlb (by simp), fun h => by have := hn _ (List.mem_append_left _ h); omega⟩⟩, hcomp, by rw [hpl]; exact invC_empty _, by rw [hpl]; rfl, Hc2.out.trans hc3, fun g hg => Nat.le_trans Hc2.out.size (hn g (List.mem_append_left _ hg))⟩
  have hL : 1 ≤ 1 + m ∧ 1 + m ≤ 9 := by omega
  have Hcy := Lib.hid hcy
  have Hpl := Lib.hid hpl
  have HL := Lib.hid hL
  have q3 : w3.cell? ⟨w.heap.size, 0, none⟩ = some (.int .i64 (1 + m)) := cell_of_heap ((hc3.block _ hlb (by simp)).trans hb2) rfl
  have l3 : w.heap.size < w3.heap.size := lt_of_cell q3
  have Hb2 := Lib.hid hb2
  clear hd hpl hcomp hstop hc3 hn hcy hL hb2 hlb
  go_wp2_with fail
  refine (mod_any start (1 + m) _ (by omega) (by omega)).mono ?_
  rintro e w' ⟨rfl, hw'⟩
  subst hw'
  have hms := modI_bd start (1 + m) (by omega)
  generalize modI start (1 + m) = st at hms
  have Hms := Lib.hid hms
  clear hms
  go_wp2_with fail
  refine (Hcy.out.err HL.out Hb2.out (2, st, 0) ⟨rfl, Hms.out.1, Hms.out.2, rfl⟩).mono ?_
  rintro e w4 ⟨d4, hcy4, ha4, hes4, hcnt4, rfl⟩
  have Hcy4 := Lib.hid hcy4
  have Hes4 := Lib.hid (show aget d4.pl.es (3, 8, 0) = none by rw [hes4, Hpl.out]; rfl)
  have Hcnt4 := Lib.hid (show d4.pl.cnt = 0 by rw [hcnt4, Hpl.out]; rfl)
  clear hcy4 ha4 hes4 hcnt4 Hcy Hpl q3 l3
  go_wp2_with fail
  refine ((Hcy4.out.new ((Chg.refl [] w4).alloc _)).num HL.out Hb2.out Hes4.out).mono ?_
  rintro e w6 ⟨d6, hcy6, ha6, hcnt6, a6, c6, rfl, hi6⟩
  have hcv : Chg [] w6 (w6.alloc (.cells #[.slice a6 1 c6, .string ⟨#[]⟩] 31)) := (Chg.refl [] w6).alloc _
  have Hbx := Lib.hid (Box.make hcy6.env.mem #[.slice a6 1 c6, .string ⟨#[]⟩] 31)
  have Hcy6 := Lib.hid (hcy6.new hcv)
  have Hi6 := Lib.hid (hi6.same hcv)
  have Hcnt6 := Lib.hid (show d6.pl.cnt = 1 by rw [hcnt6, Hcnt4.out]; decide +kernel)
  clear hcy6 ha6 hcnt6 hi6 hcv Hcy4 Hes4 Hcnt4
  go_wp2_with fail
  obtain ⟨w7, hw7⟩ : ∃ x, x = w6.alloc (.cells #[.slice a6 1 c6, .string ⟨#[]⟩] 31) := ⟨_, rfl⟩
  rw [← hw7] at Hcy6 Hi6 Hbx ⊢
  clear hw7
  refine (Hcy6.out.err HL.out Hb2.out (2, 0, 0) ⟨rfl, Int.le_refl _, by have := HL.out.1; simp only; omega, rfl⟩).mono ?_
  rintro e w8 ⟨d8, hcy8, ha8, hes8, hcnt8, rfl⟩
  have hcw : Chg [] w8 (w8.alloc (.cells #[.slice none 0 0, .string ⟨#[]⟩] 31)) := (Chg.refl [] w8).alloc _
  have Hbx8 := Lib.hid ((Hbx.out.after ha8).new hcw)
  have Hi8 := Lib.hid ((ha8.ints Hcy6.out.env.mem Hi6.out).same hcw)
  have Hcnt8 := Lib.hid (show d8.cnt = 1 from (hcnt8.trans Hcnt6.out : d8.pl.cnt = 1))
  have Hcy8 := Lib.hid (hcy8.new hcw)
  clear hcy8 ha8 hes8 hcnt8 hcw Hcy6 Hi6 Hbx Hcnt6
  go_wp2_with fail
  obtain ⟨w9, hw9⟩ : ∃ x, x = w8.alloc (.cells #[.slice none 0 0, .string ⟨#[]⟩] 31) := ⟨_, rfl⟩
  rw [← hw9] at Hcy8 Hi8 Hbx8 ⊢
  clear hw9
  refine wp_region_T (fun w' => w'.cell? ⟨w6.heap.size, 0, none⟩ = some (.slice a6 1 c6) ∧ w'.cell? ⟨w6.heap.size, 1, none⟩ = some (.string ⟨#[]⟩)) 16 (by kernel_rfl) ?_
  intro wd hwd
  have hcd : Chg [] w9 wd := by rw [hwd]; exact (Chg.refl _ _).drew
  have Hbxd := Lib.hid (Hbx8.out.new hcd)
  have Hid' := Lib.hid (Hi8.out.same hcd)
  have Hcyd := Lib.hid (Hcy8.out.new hcd)
  clear hwd hcd Hcy8 Hbx8 Hi8
  refine anyT_one (k := 0) (by kernel_rfl) rfl (fun K hK => ?_)
  go_simp
  refine (memoExample_any _).mono ?_
  rintro e w10 ⟨rfl, hc10⟩
  have hbx10 := Hbxd.out.new hc10
  have Hi10 := Lib.hid (Hid'.out.same hc10)
  have Hcy10 := Lib.hid (Hcyd.out.new hc10)
  have Hbx10 := Lib.hid hbx10
  have hS := And.intro (cell_of_heap hbx10.blk (i := 0) rfl) (cell_of_heap hbx10.blk (i := 1) rfl)
  clear hbx10 hc10 Hbxd Hid' Hcyd
  refine hK _ _ (fun _ => hS) ?_
  clear hK K
  refine anyT_one (k := 1) (by kernel_rfl) rfl (fun K hK => ?_)
  go_simp
  refine hK _ _ (fun _ => hS) ?_
  clear hK K
  refine anyT_one (k := 2) (by kernel_rfl) rfl (fun K hK => ?_)
  go_simp
  refine hK _ _ (fun _ => hS) ?_
  clear hK K
  refine anyT_one (k := 3) (by kernel_rfl) rfl (fun K hK => ?_)
  go_simp
  refine hK _ _ (fun _ => hS) ?_
  clear hK K
  refine anyT_one (k := 4) (by kernel_rfl) rfl (fun K hK => ?_)
  go_simp
  refine hK _ _ (fun _ => hS) ?_
  clear hK K
  refine anyT_one (k := 5) (by kernel_rfl) rfl (fun K hK => ?_)
  go_simp
  refine hK _ _ (fun _ => hS) ?_
  clear hK K
  refine anyT_one (k := 6) (by kernel_rfl) rfl (fun K hK => ?_)
  go_simp
  refine hK _ _ (fun _ => hS) ?_
  clear hK K
  refine anyT_one (k := 7) (by kernel_rfl) rfl (fun K hK => ?_)
  go_simp
  refine hK _ _ (fun _ => hS) ?_
  clear hK K
  refine anyT_one (k := 8) (by kernel_rfl) rfl (fun K hK => ?_)
  go_simp
  refine hK _ _ (fun _ => hS) ?_
  clear hK K
  refine anyT_one (k := 9) (by kernel_rfl) rfl (fun K hK => ?_)
  go_simp
  refine hK _ _ (fun _ => hS) ?_
  clear hK K
  refine anyT_one (k := 10) (by kernel_rfl) rfl (fun K hK => ?_)
  go_simp
  refine hK _ _ (fun _ => hS) ?_
  clear hK K
  refine anyT_one (k := 11) (by kernel_rfl) rfl (fun K hK => ?_)
  go_simp
  refine hK _ _ (fun _ => hS) ?_
  clear hK K
  refine anyT_one (k := 12) (by kernel_rfl) rfl (fun K hK => ?_)
  go_simp
  refine hK _ _ (fun _ => hS) ?_
  clear hK K
  refine anyT_one (k := 13) (by kernel_rfl) rfl (fun K hK => ?_)
  go_simp
  refine hK _ _ (fun _ => hS) ?_
  clear hK K
  refine anyT_take (i := 14) (v := .agg #[.slice a6 1 c6, .string ⟨#[]⟩]) rfl (by kernel_rfl) (fun _ _ _ h => h) (Or.inl ⟨by rfl, fun w' hS => by go_simp⟩) hS ?_
  simp only [Act.put, List.setIfInBounds_toArray, List.set_cons_zero, List.set_cons_succ]
  refine anyT_one (k := 15) (by kernel_rfl) rfl (fun K hK => ?_)
  go_simp
  refine (number_any 8 _).mono ?_
  rintro e w11 ⟨a11, c11, rfl, hi11, hc11⟩
  have hbx11 := Hbx10.out.new hc11
  have hS := And.intro (cell_of_heap hbx11.blk (i := 0) rfl) (cell_of_heap hbx11.blk (i := 1) rfl)
  have Hcy11 := Lib.hid (Hcy10.out.new hc11)
  have Hi11 := Lib.hid (Hi10.out.same hc11)
  have Hj11 := Lib.hid hi11
  clear hbx11 hc11 hi11 Hcy10 Hi10 Hbx10
  refine hK _ _ (fun _ => hS) ?_
  clear hK K hS
  refine anyT_one (k := 16) (by kernel_rfl) rfl (fun K hK => ?_)
  go_simp
  refine (equalValues_any _ _ _ [8] [8] Hi11.out Hj11.out).mono ?_
  rintro e w12 ⟨rfl, hc12⟩
  have Hcy12 := Lib.hid (Hcy11.out.new hc12)
  clear hc12 Hcy11 Hi11 Hj11
  refine hK _ _ (fun h => by simp at h) ?_
  clear hK K
  refine anyT_one (k := 17) (by kernel_rfl) rfl (fun K hK => ?_)
  go_simp
  refine hK _ _ (fun h => by simp at h) ?_
  clear hK K
  refine anyT_one (k := 18) (by kernel_rfl) rfl (fun K hK => ?_)
  go_simp
  refine hK _ _ (fun h => by simp at h) ?_
  clear hK K
  refine anyT_one (k := 19) (by kernel_rfl) rfl (fun K hK => ?_)
  go_simp
  refine hK _ _ (fun h => by simp at h) ?_
  clear hK K
  refine anyT_one (k := 20) (by kernel_rfl) rfl (fun K hK => ?_)
  go_simp
  refine (computations_any _ b d8 Hcy12.out.env.mem).mono ?_
  rintro e w13 ⟨rfl, rfl⟩
  have hcnt := Hcnt8.out
  refine hK _ _ (fun h => by simp at h) ?_
  clear hK K
  rw [hcnt]
  clear hcnt
  refine anyT_one (k := 21) (by kernel_rfl) rfl (fun K hK => ?_)
  go_simp
  refine hK _ _ (fun h => by simp at h) ?_
  clear hK K
  refine anyT_one (k := 22) (by kernel_rfl) rfl (fun K hK => ?_)
  go_simp
  refine hK _ _ (fun h => by simp at h) ?_
  clear hK K
  refine anyT_one (k := 23) (by kernel_rfl) rfl (fun K hK => ?_)
  go_simp
  refine hK _ _ (fun h => by simp at h) ?_
  clear hK K
  refine anyT_done (by kernel_rfl) ?_
  go_wp2_with fail
  go_ret
  exact ⟨rfl, Hcy12.out.chg⟩
end Go.Proofs.Ytdeodcomlakpaaa
