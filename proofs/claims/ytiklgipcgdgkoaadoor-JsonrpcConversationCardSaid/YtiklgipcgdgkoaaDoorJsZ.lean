/- JsonrpcConversation: the walk. -/
import Derived.Test.YtiklgipcgdgkoaaDoorJsY
import Derived.Test.YtiklgipcgdgkoaaDoorMod
import Derived.Deep.DeepCutAuto
import Derived.Deep.OwnRows
namespace Go.Proofs.YtiklgipcgdgkoaaDoor.Jv
open Go Go.BigFrame Go.RowKit Go.ChangeMaps Go.MapKept
set_option linter.unusedVariables false
set_option linter.unusedSimpArgs false
abbrev QM9 (k i c : Int) (t : ByteArray) : Obj := .cells #[.int .i64 k, .int .i64 i, .int .i64 c, .string t, .int .i64 0, .int .i64 0, .string ⟨#[]⟩, .slice none 0 0, .slice none 0 0] 27 (0, 0)
theorem ms_one {w : World} {g : Nat} {k i c : Int} {t : ByteArray} (h : w.heap[g]? = some (QM9 k i c t)) : MsP w (some ⟨g, 0, none⟩) 1 1 [⟨k, i, c, t⟩] :=
  ⟨rfl, by simp, by simp [maxLen], Or.inr ⟨g, 0, _, rfl, h, by simp, fun j u hj => by
    rw [Nat.zero_add]
    simpa [qc] using hj⟩⟩
set_option maxRecDepth 100000 in
set_option maxHeartbeats 16000000 in
theorem conv_any (w : World) (sv : Value) (S : List I3) (hS : I3s (fun k => k < w.heap.size) w sv S) (hA : ∀ x ∈ S, In64 x.2.1) (hT : TP w) :
    Calls Tryd.prog 6 #[sv] w fun e w' => e = .returned (.bool true) ∧ Chg [] w w' := by
  have HS := Lib.hid hS
  have HA := Lib.hid hA
  have HT := Lib.hid hT
  obtain ⟨sa, sc, rfl, hsl, hsc⟩ := hS.shape
  unfold maxLen at hsl
  obtain ⟨sn, hsn⟩ : ∃ sn : Nat, min (S.length : Int) 40 = sn := ⟨(min (S.length : Int) 40).toNat, by omega⟩
  have hs1 : sn ≤ S.length := by omega
  have hs2 : sn ≤ 40 := by omega
  have hs3 : (sn : Int) ≤ sc := by omega
  have Hsn := Lib.hid hsn
  clear hS hsn hT hA
  go_enter Tryd.func6, Tryd.ntmps6
  go_wp2_with fail
  refine (mex_any w HT.out).mono ?_
  rintro e w1 ⟨rfl, hc1⟩
  have Hc1 := Lib.hid hc1
  clear hc1
  go_wp2_with fail
  refine (newCli_any w1).mono ?_
  rintro e w2 ⟨cb, mb, rfl, hcl, hc2, hcb, hmb⟩
  have Hcl := Lib.hid (And.intro hcl (And.intro hc2 (And.intro hcb hmb)))
  clear hcl hc2 hcb hmb
  go_wp2_with fail
  refine (new_any w2).mono ?_
  rintro e w3 ⟨rfl, hw3⟩
  obtain ⟨sb, hsb⟩ : ∃ y, y = w2.heap.size := ⟨_, rfl⟩
  have H0 : Hid (Cv w w3 sb cb mb 0 [] [] [] none 0 0 [] none 0 0 []) := Lib.hid (by
    obtain ⟨h1, h2, h3, h4⟩ := Hcl.out
    have hc3 : Chg [] w2 w3 := by rw [hw3]; exact (Chg.refl _ _).alloc _
    have e1 := h1.map.lt
    have e2 := lt_of_obj h1.box
    have e3 := Hc1.out.size
    refine ⟨⟨none, 0, none, 0, ⟨by rw [hw3, hsb]; exact heap_at _ _ _ rfl, World.ownsRow_nil _ _ _ _, World.ownsRow_nil _ _ _ _, rfl, rfl, Nat.lt_succ_self _, by rw [hw3, hsb]; simp, xnone 0 0, xnone 0 0, fun g hg => hg.elim (fun h => absurd h MB.no) (fun h => absurd h MB.no)⟩⟩, h1.new hc3, MsP.nil _, MsP.nil _, fun g hg => absurd hg MB.no, fun g hg => absurd hg MB.no, fun g hg => absurd hg MB.no, ⟨by omega, by omega, by omega, by omega⟩, (Hc1.out.trans h2).trans hc3⟩)
  rw [← hsb]
  clear hw3 hsb Hcl
  have hsn := Hsn.out
  go_wp2_with fail
  go_loopw [5, 6, 39] (fun t5 t6 i wr => ∃ n : Nat, n ≤ sn ∧ i = .int .i64 (n : Nat) ∧ ∃ N es js qs ta tn tp ts ca cn cp tc, t5 = .slice ta tn tp ∧ t6 = .slice ca cn cp ∧ Hid (Cv w wr sb cb mb N es js qs ta tn tp ts ca cn cp tc ∧ CI n N es js qs ts tc)) (fun _ _ i _ => sn - (intOf i).toNat)
  case atStart => exact ⟨0, by omega, rfl, 0, [], [], [], none, 0, 0, [], none, 0, 0, [], rfl, rfl, Lib.hid ⟨H0.out, CI.start⟩⟩
  case round =>
    clear H0
    obtain ⟨n, hn, rfl, N, es, js, qs, ta, tn, tp, ts, ca, cn, cp, tc, rfl, rfl, Hs⟩ := hrel
    by_cases hlt : n < sn
    · obtain ⟨g, off, hsa, hg, r0, r1, r2⟩ := HS.out.at n (by omega) (0, 0, 0)
      have hxa := HA.out (S.getD n (0, 0, 0)) (by
        have hl : n < S.length := by omega
        rw [List.getD_eq_getElem?_getD, List.getElem?_eq_getElem hl]
        exact List.getElem_mem hl)
      obtain ⟨z, hz⟩ : ∃ z, S.getD n (0, 0, 0) = z := ⟨_, rfl⟩
      obtain ⟨xd, xa, xb⟩ := z
      rw [hz] at r0 r1 r2 hxa
      simp only at hg r0 r1 r2 hxa
      subst hsa
      have Hxa := Lib.hid hxa
      clear hz hxa
      have hfr := Hs.out.1.fr
      have y0 := (hfr.cell (p := ⟨g, off + n * 3, none⟩) hg (by simp)).trans r0
      have y1 := (hfr.cell (p := ⟨g, off + n * 3 + 1, none⟩) hg (by simp)).trans r1
      have y2 := (hfr.cell (p := ⟨g, off + n * 3 + 2, none⟩) hg (by simp)).trans r2
      have lg := lt_of_cell y0
      obtain ⟨w4, hw4⟩ : ∃ y, y = wr.alloc (.cells #[.int .i64 xd, .int .i64 xa, .int .i64 xb] 47) := ⟨_, rfl⟩
      obtain ⟨xk, hxk⟩ : ∃ y, y = wr.heap.size := ⟨_, rfl⟩
      have hc4 : Chg [] wr w4 := by rw [hw4]; exact (Chg.refl _ _).alloc _
      have hb4 : w4.heap[xk]? = some (.cells #[.int .i64 xd, .int .i64 xa, .int .i64 xb] 47 (0, 0)) := by rw [hw4, hxk]; exact heap_at _ _ _ rfl
      have H4 := Lib.hid (Hs.out.1.new hc4)
      have Hci := Lib.hid Hs.out.2
      have Hx4 := Lib.hid hb4
      have Hxk : Hid (xk ≠ sb ∧ xk ≠ cb ∧ xk ≠ mb) := Lib.hid (by
        obtain ⟨ja, jn, qa, qn, hs⟩ := Hs.out.1.srv
        have e1 := lt_of_obj hs.box
        have e2 := Hs.out.1.lo
        exact ⟨by omega, by omega, by omega⟩)
      have x0 : w4.cell? ⟨xk, 0, none⟩ = some (.int .i64 xd) := cell_of_heap hb4 rfl
      have x1 : w4.cell? ⟨xk, 1, none⟩ = some (.int .i64 xa) := cell_of_heap hb4 rfl
      have lx := lt_of_cell x0
      have hn1 : (n : Int) < sn := by omega
      have hn0 : (0 : Int) ≤ (n : Int) := by omega
      clear hfr r0 r1 r2 hc4 hb4 Hs
      go_upto_region 10 with fail
      rw [← hw4, ← hxk]
      clear hw4 hxk y0 y1 y2 lg
      obtain ⟨m, hm⟩ := Int.eq_ofNat_of_zero_le (modI_bd xd 6 (by omega)).1
      have hm6 := (modI_bd xd 6 (by omega)).2
      rw [hm] at hm6
      have Hm := Lib.hid hm
      have hm5 : m = 0 ∨ m = 1 ∨ m = 2 ∨ m = 3 ∨ m = 4 ∨ m = 5 := by omega
      clear hm hm6
      go_wp2_with fail
      refine (mod_any xd 6 _ (by omega) (by omega)).mono ?_
      rintro e w5 ⟨rfl, hw5⟩
      rw [← hw5, Hm.out]
      clear hw5 Hm x0
      rcases hm5 with rfl | rfl | rfl | rfl | rfl | rfl
      · have Hcall := Lib.hid (request_any w4 cb mb N es ⟨#[109]⟩ H4.out.cli (by have := Hci.out.n; omega) (by decide) (by decide) (HT.out.new H4.out.fr).1)
        clear x1 lx
        go_wp2_with fail
        refine Hcall.out.mono ?_
        rintro e w6 (⟨z, hz, rfl, hc⟩ | ⟨rfl, hC, hF⟩)
        · have hz2 : (z == 0) = false := by simpa using hz
          have Hst := Lib.hid (And.intro (H4.out.new hc) (Hci.out.mono (Nat.le_succ n)))
          clear hz hc
          unfold zM mV
          go_wp2_with fail
          exact ⟨⟨n + 1, by omega, by go_num, N, es, js, qs, ta, tn, tp, ts, ca, cn, cp, tc, rfl, rfl, Lib.hid ⟨Hst.out.1.new ((Chg.refl _ _).alloc _), Hst.out.2⟩⟩, by simp [intOf]; omega⟩
        · have Hst := Lib.hid (And.intro (H4.out.cl hC hF) (Hci.out.request (by omega) ⟨#[109]⟩ (by decide) (by decide) (.int .i64 0)))
          clear hC hF
          obtain ⟨w7, hw7⟩ : ∃ y, y = w6.alloc (.cells #[.int .i64 1, .int .i64 (N : Nat), .int .i64 0, .string ⟨#[109]⟩, .int .i64 0, .int .i64 0, .string ⟨#[]⟩, .slice none 0 0, .slice none 0 0] 27) := ⟨_, rfl⟩
          obtain ⟨bk, hbk⟩ : ∃ y, y = w6.heap.size := ⟨_, rfl⟩
          have hc7 : Chg [] w6 w7 := by rw [hw7]; exact (Chg.refl _ _).alloc _
          have hb7 : w7.heap[bk]? = some (QM9 1 (N : Nat) 0 ⟨#[109]⟩) := by rw [hw7, hbk]; exact heap_at _ _ _ rfl
          obtain ⟨⟨m0, m1, m2, m3, m4, m5, m6, m7, m8⟩, mf, ml⟩ := nine hb7
          obtain ⟨w8, hw8⟩ : ∃ y, y = w7.alloc (.cells #[.int .i64 1, .int .i64 (N : Nat), .int .i64 0, .string ⟨#[109]⟩, .int .i64 0, .int .i64 0, .string ⟨#[]⟩, .slice none 0 0, .slice none 0 0] 27) := ⟨_, rfl⟩
          have hc8 : Chg [] w7 w8 := by rw [hw8]; exact (Chg.refl _ _).alloc _
          have hb8 : w8.heap[w7.heap.size]? = some (QM9 1 (N : Nat) 0 ⟨#[109]⟩) := by rw [hw8]; exact heap_at _ _ _ rfl
          have H8 := Lib.hid ((Hst.out.1.new hc7).new hc8)
          obtain ⟨a', c', w9, hr, hP⟩ := H8.out.ts.app (ms_one hb8) (by have h1 := H8.out.ts.len; have h2 := Hci.out.lt; omega)
          have HP := Lib.hid (H8.out.setT hP)
          rw [hw8] at hr
          have Hr := Lib.hid hr
          clear hr hP hb7 hb8 hc7 hc8 hw8
          unfold mV
          go_upto_region 22 with fail
          rw [← hw7, ← hbk]
          clear hw7 hbk
          go_wp2_with (at_builtin; refine wpList_append_run rfl _ _ _ rfl _ _ _ _ rfl rfl Hr.out ?_)
          exact ⟨⟨n + 1, by omega, by go_num, _, _, js, qs, a', tn + 1, c', _, ca, cn, cp, tc, rfl, rfl, Lib.hid ⟨HP.out, Hst.out.2⟩⟩, by simp [intOf]; omega⟩
      · have Hcall := Lib.hid (request_any w4 cb mb N es ⟨#[109]⟩ H4.out.cli (by have := Hci.out.n; omega) (by decide) (by decide) (HT.out.new H4.out.fr).1)
        clear x1 lx
        go_wp2_with fail
        refine Hcall.out.mono ?_
        rintro e w6 (⟨z, hz, rfl, hc⟩ | ⟨rfl, hC, hF⟩)
        · have hz2 : (z == 0) = false := by simpa using hz
          have Hst := Lib.hid (And.intro (H4.out.new hc) (Hci.out.mono (Nat.le_succ n)))
          clear hz hc
          unfold zM mV
          go_wp2_with fail
          exact ⟨⟨n + 1, by omega, by go_num, N, es, js, qs, ta, tn, tp, ts, ca, cn, cp, tc, rfl, rfl, Lib.hid ⟨Hst.out.1.new ((Chg.refl _ _).alloc _), Hst.out.2⟩⟩, by simp [intOf]; omega⟩
        · have Hst := Lib.hid (And.intro (H4.out.cl hC hF) (Hci.out.request (by omega) ⟨#[109]⟩ (by decide) (by decide) (.int .i64 0)))
          clear hC hF
          obtain ⟨w7, hw7⟩ : ∃ y, y = w6.alloc (.cells #[.int .i64 1, .int .i64 (N : Nat), .int .i64 0, .string ⟨#[109]⟩, .int .i64 0, .int .i64 0, .string ⟨#[]⟩, .slice none 0 0, .slice none 0 0] 27) := ⟨_, rfl⟩
          obtain ⟨bk, hbk⟩ : ∃ y, y = w6.heap.size := ⟨_, rfl⟩
          have hc7 : Chg [] w6 w7 := by rw [hw7]; exact (Chg.refl _ _).alloc _
          have hb7 : w7.heap[bk]? = some (QM9 1 (N : Nat) 0 ⟨#[109]⟩) := by rw [hw7, hbk]; exact heap_at _ _ _ rfl
          obtain ⟨⟨m0, m1, m2, m3, m4, m5, m6, m7, m8⟩, mf, ml⟩ := nine hb7
          obtain ⟨w8, hw8⟩ : ∃ y, y = w7.alloc (.cells #[.int .i64 1, .int .i64 (N : Nat), .int .i64 0, .string ⟨#[109]⟩, .int .i64 0, .int .i64 0, .string ⟨#[]⟩, .slice none 0 0, .slice none 0 0] 27) := ⟨_, rfl⟩
          have hc8 : Chg [] w7 w8 := by rw [hw8]; exact (Chg.refl _ _).alloc _
          have hb8 : w8.heap[w7.heap.size]? = some (QM9 1 (N : Nat) 0 ⟨#[109]⟩) := by rw [hw8]; exact heap_at _ _ _ rfl
          have H8 := Lib.hid ((Hst.out.1.new hc7).new hc8)
          obtain ⟨a', c', w9, hr, hP⟩ := H8.out.ts.app (ms_one hb8) (by have h1 := H8.out.ts.len; have h2 := Hci.out.lt; omega)
          have HP := Lib.hid (H8.out.setT hP)
          rw [hw8] at hr
          have Hr := Lib.hid hr
          clear hr hP hb7 hb8 hc7 hc8 hw8
          unfold mV
          go_upto_region 22 with fail
          rw [← hw7, ← hbk]
          clear hw7 hbk
          go_wp2_with (at_builtin; refine wpList_append_run rfl _ _ _ rfl _ _ _ _ rfl rfl Hr.out ?_)
          exact ⟨⟨n + 1, by omega, by go_num, _, _, js, qs, a', tn + 1, c', _, ca, cn, cp, tc, rfl, rfl, Lib.hid ⟨HP.out, Hst.out.2⟩⟩, by simp [intOf]; omega⟩
      · have Hcall := Lib.hid (cliCancel_any w4 cb mb N es xa H4.out.cli Hxa.out)
        go_wp2_with fail
        refine Hcall.out.mono ?_
        rintro e w6 (⟨z, hz, rfl, hc⟩ | ⟨hx, rfl, hC, hF⟩)
        · have hz2 : (z == 0) = false := by simpa using hz
          have Hst := Lib.hid (And.intro (H4.out.new hc) (Hci.out.mono (Nat.le_succ n)))
          clear hz hc x1 lx
          unfold zM mV
          go_wp2_with fail
          exact ⟨⟨n + 1, by omega, by go_num, N, es, js, qs, ta, tn, tp, ts, ca, cn, cp, tc, rfl, rfl, Lib.hid ⟨Hst.out.1.new ((Chg.refl _ _).alloc _), Hst.out.2⟩⟩, by simp [intOf]; omega⟩
        · have Hst := Lib.hid (And.intro (H4.out.cl hC hF) (Hci.out.cancel (by omega) hx (.int .i64 1)))
          clear hC hF hx x1 lx
          obtain ⟨w7, hw7⟩ : ∃ y, y = w6.alloc (.cells #[.int .i64 5, .int .i64 xa, .int .i64 0, .string ⟨#[]⟩, .int .i64 0, .int .i64 0, .string ⟨#[]⟩, .slice none 0 0, .slice none 0 0] 27) := ⟨_, rfl⟩
          obtain ⟨bk, hbk⟩ : ∃ y, y = w6.heap.size := ⟨_, rfl⟩
          have hc7 : Chg [] w6 w7 := by rw [hw7]; exact (Chg.refl _ _).alloc _
          have hb7 : w7.heap[bk]? = some (QM9 5 xa 0 ⟨#[]⟩) := by rw [hw7, hbk]; exact heap_at _ _ _ rfl
          obtain ⟨⟨m0, m1, m2, m3, m4, m5, m6, m7, m8⟩, mf, ml⟩ := nine hb7
          obtain ⟨w8, hw8⟩ : ∃ y, y = w7.alloc (.cells #[.int .i64 5, .int .i64 xa, .int .i64 0, .string ⟨#[]⟩, .int .i64 0, .int .i64 0, .string ⟨#[]⟩, .slice none 0 0, .slice none 0 0] 27) := ⟨_, rfl⟩
          have hc8 : Chg [] w7 w8 := by rw [hw8]; exact (Chg.refl _ _).alloc _
          have hb8 : w8.heap[w7.heap.size]? = some (QM9 5 xa 0 ⟨#[]⟩) := by rw [hw8]; exact heap_at _ _ _ rfl
          have H8 := Lib.hid ((Hst.out.1.new hc7).new hc8)
          obtain ⟨a', c', w9, hr, hP⟩ := H8.out.ts.app (ms_one hb8) (by have h1 := H8.out.ts.len; have h2 := Hci.out.lt; omega)
          have HP := Lib.hid (H8.out.setT hP)
          rw [hw8] at hr
          have Hr := Lib.hid hr
          clear hr hP hb7 hb8 hc7 hc8 hw8
          unfold mV
          go_upto_region 26 with fail
          rw [← hw7, ← hbk]
          clear hw7 hbk
          go_wp2_with (at_builtin; refine wpList_append_run rfl _ _ _ rfl _ _ _ _ rfl rfl Hr.out ?_)
          exact ⟨⟨n + 1, by omega, by go_num, _, _, js, qs, a', tn + 1, c', _, ca, cn, cp, tc, rfl, rfl, Lib.hid ⟨HP.out, Hst.out.2⟩⟩, by simp [intOf]; omega⟩
      · clear x1 lx
        by_cases h0 : tn = 0
        · subst h0
          have Hst := Lib.hid (And.intro H4.out (Hci.out.mono (Nat.le_succ n)))
          go_wp2_with fail
          exact ⟨⟨n + 1, by omega, by go_num, N, es, js, qs, ta, 0, tp, ts, ca, cn, cp, tc, rfl, rfl, Hst⟩, by simp [intOf]; omega⟩
        · have h1 : (0 : Int) < tn := by omega
          have hle := H4.out.ts.le
          obtain ⟨m, ts', rfl⟩ : ∃ m ts', ts = m :: ts' := by
            cases ts with
            | nil => have := H4.out.ts.len; simp at this; omega
            | cons m ts' => exact ⟨m, ts', rfl⟩
          obtain ⟨g, off, hta, lg, hcell⟩ := H4.out.ts.at (i := 0) (by simp)
          subst hta
          have hQ := Hci.out.okT m List.mem_cons_self
          obtain ⟨mk, mi, mc, mt⟩ := m
          obtain ⟨hk, hmc, hG, hmi⟩ := hQ
          simp only at hk hmc hG hmi
          subst hmc
          have m0 : w4.cell? ⟨g, off, none⟩ = some (.int .i64 mk) := by have := hcell 0 (by decide); simpa [qc] using this
          have m1 : w4.cell? ⟨g, off + 1, none⟩ = some (.int .i64 mi) := by have := hcell 1 (by decide); simpa [qc] using this
          have m2 : w4.cell? ⟨g, off + 2, none⟩ = some (.int .i64 0) := by have := hcell 2 (by decide); simpa [qc] using this
          have m3 : w4.cell? ⟨g, off + 3, none⟩ = some (.string mt) := by have := hcell 3 (by decide); simpa [qc] using this
          have m4 : w4.cell? ⟨g, off + 4, none⟩ = some (.int .i64 0) := by have := hcell 4 (by decide); simpa [qc] using this
          have m5 : w4.cell? ⟨g, off + 5, none⟩ = some (.int .i64 0) := by have := hcell 5 (by decide); simpa [qc] using this
          have m6 : w4.cell? ⟨g, off + 6, none⟩ = some (.string ⟨#[]⟩) := by have := hcell 6 (by decide); simpa [qc] using this
          have m7 : w4.cell? ⟨g, off + 7, none⟩ = some (.slice none 0 0) := by have := hcell 7 (by decide); simpa [qc] using this
          have m8 : w4.cell? ⟨g, off + 8, none⟩ = some (.slice none 0 0) := by have := hcell 8 (by decide); simpa [qc] using this
          obtain ⟨ja, jn, qa, qn, hs⟩ := H4.out.srv
          have Hcall := Lib.hid (receive_any w4 _ sb _ jn _ qn ja qa js qs mk mi mt hs (by have := Hci.out.lj; omega) (by have := Hci.out.lq; omega) (HT.out.new H4.out.fr).1 hG hk)
          have ht1 : 1 ≤ tn := by omega
          unfold mV at Hcall
          clear hs hcell hk hG hmi h0
          go_wp2_with fail
          refine Hcall.out.mono ?_
          rintro e w6 ⟨⟨x9, y9, rfl⟩, js', qs', hN, hS⟩
          have Hst := Lib.hid (And.intro (H4.out.sv hS) (Hci.out.recv rfl hN))
          clear hN hS m0 m1 m2 m3 m4 m5 m6 m7 m8 lg
          go_wp2_with fail
          exact ⟨⟨n + 1, by omega, by go_num, N, es, js', qs', _, tn - 1, tp - 1, ts', ca, cn, cp, tc, rfl, rfl, Lib.hid ⟨(Hst.out.1.new ((Chg.refl _ _).alloc _)).tail ht1, Hst.out.2⟩⟩, by simp [intOf]; omega⟩
      · obtain ⟨ja, jn, qa, qn, hs⟩ := H4.out.srv
        have Hcall := Lib.hid (respond_any w4 _ sb _ jn _ qn ja qa js qs xa hs (by have := Hci.out.lj; omega) (by have := Hci.out.lq; omega) (fun j hj => by have h1 := Hci.out.ids j hj; have h2 := Hci.out.n; omega) (HT.out.new H4.out.fr).1)
        clear hs
        go_wp2_with fail
        refine Hcall.out.mono ?_
        rintro e w6 ⟨rfl, js', qs', hN, hS⟩
        have Hst := Lib.hid (And.intro (H4.out.sv hS) (Hci.out.ans hN))
        generalize ckE js xa = ck
        clear hN hS x1 lx
        go_wp2_with fail
        exact ⟨⟨n + 1, by omega, by go_num, N, es, js', qs', ta, tn, tp, ts, ca, cn, cp, tc, rfl, rfl, Hst⟩, by simp [intOf]; omega⟩
      · obtain ⟨ja, jn, qa, qn, hs⟩ := H4.out.srv
        have Hcall := Lib.hid (flush_any w4 _ sb _ jn _ qn ja qa js qs hs (by have := Hci.out.lq; omega))
        clear hs
        go_wp2_with fail
        refine Hcall.out.mono ?_
        rintro e w6 ⟨ja2, jn2, fa, fc, rfl, hF⟩
        have hx6 := sf_box hF.2.2.1 Hx4.out (by decide) Hxk.out.1
        obtain ⟨h6, hfl⟩ := H4.out.fl hF
        have hlq := Hci.out.lq
        have hcl := h6.tc.len
        obtain ⟨a7, c7, w7, hr, hP⟩ := h6.tc.app hfl (by omega)
        have Hr := Lib.hid hr
        have H7 := Lib.hid (h6.setC hP)
        have Hci7 := Lib.hid Hci.out.flush
        have Hlq : Hid (cn + qs.length ≤ n ∧ cn = tc.length) := Lib.hid ⟨by omega, hcl⟩
        have hx7 := (hP.2.1.block xk (lt_of_obj hx6) (fun hb => by
          obtain ⟨cs, fr, hq⟩ : ∃ cs fr, w6.heap[xk]? = some (.cells cs 27 fr) := by
            rcases h6.tc.row with ⟨rfl, _⟩ | ⟨g', off', cur', rfl, hb', _⟩
            · exact absurd hb MB.no
            · rw [hb.eq]; exact ⟨_, _, hb'⟩
          rw [hx6] at hq
          simp only [Option.some.injEq, Obj.cells.injEq] at hq
          exact absurd hq.2.1 (by decide))).trans hx6
        have Hx7 := Lib.hid hx7
        obtain ⟨q9, hq9⟩ : ∃ y, y = qs.length := ⟨_, rfl⟩
        rw [← hq9] at Hr H7 Hlq ⊢
        obtain ⟨tc7, htc7⟩ : ∃ y, y = tc ++ qs := ⟨_, rfl⟩
        rw [← htc7] at H7 Hci7
        clear hr hP h6 hfl hlq hcl hx6 hx7 hF x1 lx hq9 htc7
        obtain ⟨n7, hn7⟩ : ∃ y, y = cn + q9 := ⟨_, rfl⟩
        rw [← hn7] at Hr H7 Hlq
        have hn7' : n7 ≤ 40 := by have := Hlq.out; omega
        clear hn7
        go_upto_region 12 with (at_builtin; refine wpList_append_run rfl _ _ _ rfl _ _ _ _ rfl rfl Hr.out ?_)
        by_cases h0 : n7 = 0
        · subst h0
          go_wp2_with fail
          exact ⟨⟨n + 1, by omega, by go_num, N, es, js, [], ta, tn, tp, ts, a7, 0, c7, tc7, rfl, rfl, Lib.hid ⟨H7.out, Hci7.out.mono (Nat.le_succ n)⟩⟩, by simp [intOf]; omega⟩
        · have h1 : (0 : Int) < n7 := by omega
          have x1 : w7.cell? ⟨xk, 1, none⟩ = some (.int .i64 xa) := cell_of_heap Hx7.out rfl
          have lx := lt_of_cell x1
          obtain ⟨k, hk⟩ := Int.eq_ofNat_of_zero_le (modI_bd xa n7 (by omega)).1
          have hkn := (modI_bd xa n7 (by omega)).2
          rw [hk] at hkn
          have Hk := Lib.hid hk
          clear hk h0
          go_wp2_with fail
          refine (mod_any xa n7 _ (by omega) (by omega)).mono ?_
          rintro e w8 ⟨rfl, hw8⟩
          rw [← hw8, Hk.out]
          clear hw8 Hk x1 lx
          have hkn' : k < n7 := by omega
          have hkt : k < tc7.length := by have := H7.out.tc.len; omega
          obtain ⟨g, off, hta, lg, hcell⟩ := H7.out.tc.at (i := k) hkt
          subst hta
          have hQ := Hci7.out.okC _ (List.getElem_mem hkt)
          have Hwait := Lib.hid (Hci7.out.waits hkt)
          have Hgot := Lib.hid (Hci7.out.got hkt)
          generalize tc7[k] = m at hcell hQ Hwait Hgot
          obtain ⟨mk, mi, mc, mt⟩ := m
          have m0 : w7.cell? ⟨g, off + k * 9, none⟩ = some (.int .i64 mk) := hcell 0 (by decide)
          have m1 : w7.cell? ⟨g, off + k * 9 + 1, none⟩ = some (.int .i64 mi) := hcell 1 (by decide)
          have m2 : w7.cell? ⟨g, off + k * 9 + 2, none⟩ = some (.int .i64 mc) := hcell 2 (by decide)
          have m3 : w7.cell? ⟨g, off + k * 9 + 3, none⟩ = some (.string mt) := hcell 3 (by decide)
          have m4 : w7.cell? ⟨g, off + k * 9 + 4, none⟩ = some (.int .i64 0) := hcell 4 (by decide)
          have m5 : w7.cell? ⟨g, off + k * 9 + 5, none⟩ = some (.int .i64 0) := hcell 5 (by decide)
          have m6 : w7.cell? ⟨g, off + k * 9 + 6, none⟩ = some (.string ⟨#[]⟩) := hcell 6 (by decide)
          have m7 : w7.cell? ⟨g, off + k * 9 + 7, none⟩ = some (.slice none 0 0) := hcell 7 (by decide)
          have m8 : w7.cell? ⟨g, off + k * 9 + 8, none⟩ = some (.slice none 0 0) := hcell 8 (by decide)
          have Hcall := Lib.hid (cliReceive_any w7 cb mb N es mk mi mc mt H7.out.cli hQ.1 hQ.2 (HT.out.new H7.out.fr).1 Hwait.out)
          have hle := H7.out.tc.le
          have hcm := H7.out.tc.cap
          unfold maxLen at hcm
          have hk0 : (0 : Int) ≤ (k : Int) := by omega
          unfold mV at Hcall
          clear hcell hQ hkt Hwait Hci7
          go_wp2_with fail
          refine Hcall.out.mono ?_
          rintro e w8 ⟨rfl, hC, hF⟩
          have H8 := Lib.hid (H7.out.cl hC hF)
          clear hC hF m0 m1 m2 m3 m4 m5 m6 m7 m8 lg
          go_upto_region 17 with fail
          have htk := (H8.out.new ((Chg.refl [] w8).drew)).tc.take (k := k) (by omega)
          have Hcl := Lib.hid (cloneMs_any htk (by omega))
          clear htk
          have hk2 : IntKind.i64.wrap ((k : Int) + 1) = ((k + 1 : Nat) : Int) := by rw [IntWalk.i64_in _ (by omega)]; omega
          have hk3 : (k : Int) ≤ c7 := by omega
          have hk4 : (0 : Int) ≤ (k : Int) + 1 := by omega
          by_cases hcc : c7 = k + 1
          · obtain rfl : n7 = k + 1 := by omega
            subst hcc
            have hb1 : (k : Int) ≤ (k : Int) + 1 := by omega
            go_region_law (first
              | (rw [if_pos (by simp [Region.wanted])]; go_simp; go_at_call 28; refine Hcl.out.mono ?_; rintro e w9 ⟨a9, c9, rfl, hP9⟩; have hdr := ((H8.out.new ((Chg.refl [] w8).drew)).tc.kept hP9.2.1 (fun _ _ h => absurd h MB.no)).stay; have Hap := Lib.hid (hP9.1.app hdr (by omega)); have HP9 := Lib.hid hP9; clear hdr hP9; obtain ⟨a10, c10, w10, hr10, hP10⟩ := Hap.out; have Hr10 := Lib.hid hr10; have HP10 := Lib.hid hP10; clear hr10 hP10 Hap)
              | (refine step_append_run rfl _ _ _ rfl _ _ _ _ rfl rfl Hr10.out ?_))
            all_goals
              have H10 := Lib.hid ((H8.out.new ((Chg.refl [] w8).drew)).cut hkn' (by omega) (List.drop_eq_nil_of_le (by have := H8.out.tc.len; omega)).symm HP9.out HP10.out)
              go_wp2_with fail
              exact ⟨⟨n + 1, by omega, by go_num, N, _, js, [], ta, tn, tp, ts, a10, _, c10, _, rfl, rfl, Lib.hid ⟨H10.out, Hgot.out.mono (Nat.le_succ n)⟩⟩, by simp [intOf]; omega⟩
          · have hk5 : (k : Int) + 1 ≤ n7 := by omega
            have hk6 : k + 1 ≤ n7 := by omega
            go_region_law (first
              | (rw [if_pos (by simp [Region.wanted])]; go_simp; go_at_call 28; refine Hcl.out.mono ?_; rintro e w9 ⟨a9, c9, rfl, hP9⟩; have hdr := (((H8.out.new ((Chg.refl [] w8).drew)).tc.kept hP9.2.1 (fun _ _ h => absurd h MB.no)).drop (k := k + 1) (by omega)); have Hap := Lib.hid (hP9.1.app hdr (by omega)); have HP9 := Lib.hid hP9; clear hdr hP9; obtain ⟨a10, c10, w10, hr10, hP10⟩ := Hap.out; have Hr10 := Lib.hid hr10; have HP10 := Lib.hid hP10; clear hr10 hP10 Hap)
              | (refine step_append_run rfl _ _ _ rfl _ _ _ _ rfl rfl Hr10.out ?_))
            all_goals
              have H10 := Lib.hid ((H8.out.new ((Chg.refl [] w8).drew)).cut hkn' rfl rfl HP9.out HP10.out)
              go_wp2_with fail
              exact ⟨⟨n + 1, by omega, by go_num, N, _, js, [], ta, tn, tp, ts, a10, _, c10, _, rfl, rfl, Lib.hid ⟨H10.out, Hgot.out.mono (Nat.le_succ n)⟩⟩, by simp [intOf]; omega⟩
    · obtain rfl : n = sn := by omega
      have hn1 : ¬ ((n : Int) < n) := by omega
      have Hn := Lib.hid (show n ≤ 40 from hs2)
      have htl := Hs.out.1.ts.len
      have htl2 := Hs.out.2.lt
      have htn : tn ≤ 40 := by omega
      have Htl := Lib.hid htl
      have Hs0 := Hs
      clear htl htl2 Hsn hsn
      go_wp2_with fail
      go_loopw [131] (fun i wr => ∃ q : Nat, q ≤ tn ∧ i = .int .i64 (q : Nat) ∧ ∃ js' qs', Hid (Cv w wr sb cb mb N es js' qs' ta tn tp ts ca cn cp tc ∧ CI (n + q) N es js' qs' (ts.drop q) tc)) (fun i _ => tn - (intOf i).toNat)
      case atStart => exact ⟨0, by omega, rfl, js, qs, Lib.hid ⟨Hs0.out.1, by rw [List.drop_zero]; exact Hs0.out.2⟩⟩
      case round =>
        clear Hs0 Hs
        obtain ⟨q, hq, rfl, js, qs, Hs⟩ := hrel
        by_cases hlq : q < tn
        · have hqt : q < ts.length := by have := Htl.out; omega
          obtain ⟨g, off, hta, lg, hcell⟩ := Hs.out.1.ts.at (i := q) hqt
          subst hta
          have hdr := List.drop_eq_getElem_cons hqt
          have hQ := Hs.out.2.okT ts[q] (by rw [hdr]; exact List.mem_cons_self)
          generalize ts[q] = m at hcell hQ hdr
          obtain ⟨mk, mi, mc, mt⟩ := m
          obtain ⟨hk, hmc, hG, hmi⟩ := hQ
          simp only at hk hmc hG hmi
          subst hmc
          have m0 : wr.cell? ⟨g, off + q * 9, none⟩ = some (.int .i64 mk) := hcell 0 (by decide)
          have m1 : wr.cell? ⟨g, off + q * 9 + 1, none⟩ = some (.int .i64 mi) := hcell 1 (by decide)
          have m2 : wr.cell? ⟨g, off + q * 9 + 2, none⟩ = some (.int .i64 0) := hcell 2 (by decide)
          have m3 : wr.cell? ⟨g, off + q * 9 + 3, none⟩ = some (.string mt) := hcell 3 (by decide)
          have m4 : wr.cell? ⟨g, off + q * 9 + 4, none⟩ = some (.int .i64 0) := hcell 4 (by decide)
          have m5 : wr.cell? ⟨g, off + q * 9 + 5, none⟩ = some (.int .i64 0) := hcell 5 (by decide)
          have m6 : wr.cell? ⟨g, off + q * 9 + 6, none⟩ = some (.string ⟨#[]⟩) := hcell 6 (by decide)
          have m7 : wr.cell? ⟨g, off + q * 9 + 7, none⟩ = some (.slice none 0 0) := hcell 7 (by decide)
          have m8 : wr.cell? ⟨g, off + q * 9 + 8, none⟩ = some (.slice none 0 0) := hcell 8 (by decide)
          obtain ⟨ja, jn, qa, qn, hs⟩ := Hs.out.1.srv
          have Hcall := Lib.hid (receive_any wr _ sb _ jn _ qn ja qa js qs mk mi mt hs (by have := Hs.out.2.lj; have := Hn.out; omega) (by have := Hs.out.2.lq; have := Hn.out; omega) (HT.out.new Hs.out.1.fr).1 hG hk)
          have Hdr := Lib.hid hdr
          have hq1 : (q : Int) < tn := by omega
          have hq0 : (0 : Int) ≤ (q : Int) := by omega
          unfold mV at Hcall
          clear hs hcell hk hG hmi hdr hqt
          go_wp2_with fail
          refine Hcall.out.mono ?_
          rintro e w6 ⟨⟨x9, y9, rfl⟩, js', qs', hN, hS⟩
          have Hst := Lib.hid (And.intro (Hs.out.1.sv hS) (Hs.out.2.recv Hdr.out hN))
          clear hN hS m0 m1 m2 m3 m4 m5 m6 m7 m8 lg
          go_wp2_with fail
          exact ⟨⟨q + 1, by omega, by go_num, js', qs', Lib.hid ⟨Hst.out.1.new ((Chg.refl _ _).alloc _), Hst.out.2⟩⟩, by simp [intOf]; omega⟩
        · obtain rfl : q = tn := by omega
          have hq1 : ¬ ((q : Int) < q) := by omega
          have HC : Hid (CI (n + q) N es js qs [] tc) := Lib.hid (by
            have := Hs.out.2
            rwa [List.drop_of_length_le (by have := Htl.out; omega)] at this)
          obtain ⟨ja, jn, qa, qn, hs⟩ := Hs.out.1.srv
          have Hp := Lib.hid (pending_any wr _ sb _ jn _ qn ja qa js qs hs (by have := Hs.out.2.lj; have := Hn.out; omega))
          clear hs
          go_wp2_with fail
          refine Hp.out.mono ?_
          rintro e w2 ⟨⟨a, c, rfl, ho⟩, hc2⟩
          have H2 := Lib.hid (Hs.out.1.new hc2)
          obtain ⟨pn, hpn⟩ : ∃ y, y = (pendF 0 js).length := ⟨_, rfl⟩
          rw [← hpn] at ho ⊢
          have hpl : pn ≤ 80 := by
            have h1 := pendF_len js 0
            have h2 := Hs.out.2.lj
            have h3 := Hn.out
            omega
          have Hpn := Lib.hid hpn
          obtain ⟨sz, hsz⟩ : ∃ y, y = wr.heap.size := ⟨_, rfl⟩
          have HB : Hid (sb + 1 ≤ sz) := Lib.hid (by
            rw [hsz]
            obtain ⟨ja, jn, qa, qn, hs⟩ := Hs.out.1.srv
            exact hs.base)
          rw [← hsz] at ho
          have Ho := Lib.hid ho
          clear ho hpn hc2 Hp hsz
          go_wp2_with fail
          go_loopw [150] (fun i wr => ∃ p : Nat, p ≤ pn ∧ i = .int .i64 (p : Nat) ∧ ∃ js' qs', Hid (Cv w wr sb cb mb N es js' qs' ta q tp ts ca cn cp tc ∧ CI (n + q + p) N es js' qs' [] tc ∧ Opn js js' p ∧ wr.ownsRow sz 3 1 (.slice a pn c) pn ((pendF 0 js).map (Value.int .i64)))) (fun i _ => pn - (intOf i).toNat)
          case atStart => exact ⟨0, by omega, rfl, js, qs, Lib.hid ⟨H2.out, HC.out, Opn.first js, Ho.out⟩⟩
          case round =>
            clear H2 Ho HC
            obtain ⟨p, hp, rfl, js', qs', Hq⟩ := hrel
            by_cases hlp : p < pn
            · obtain ⟨k, hkx, hk, hck, hop⟩ := Hq.out.2.2.1.step (by have := Hpn.out; omega)
              obtain ⟨ja, jn, qa, qn, hs⟩ := Hq.out.1.srv
              have hown := Hq.out.2.2.2
              rcases hown.2 with ⟨hv, hx⟩ | ⟨gv, cap', cur, hv, hge, hh, hnc, hcm, hsz, ht⟩
              · omega
              cases hv
              have v0 : wr.cell? ⟨gv, p, none⟩ = some (.int .i64 (k : Nat)) := by
                have := World.ownsRow.cells hown (g := gv) rfl p (.int .i64 (k : Nat)) (by
                  rw [List.getElem?_map, List.getElem?_eq_getElem (by have := Hpn.out; omega), hkx]; rfl)
                rwa [Addr.add_lit, Nat.zero_add] at this
              have lv := lt_of_cell v0
              have hgv : gv ≠ sb := by have := HB.out; omega
              have Hcall := Lib.hid (fun W (hc : Chg [] wr W) => respond_any W _ sb _ jn _ qn ja qa js' qs' (k : Nat) (hs.new hc) (by have := Hq.out.2.1.lj; have := Hn.out; omega) (by have := Hq.out.2.1.lq; have := Hn.out; omega) (fun j hj => by have h1 := Hq.out.2.1.ids j hj; have h2 := Hq.out.2.1.n; have := Hn.out; omega) ((HT.out.new Hq.out.1.fr).new hc).1)
              have Hf : Hid (wr.heap[gv]? = some (.cells cur 3 (0, 0)) ∧ gv ≠ sb ∧ ckE js' (k : Nat) = 0 ∧ Opn js (ansJ js' k) (p + 1)) := Lib.hid ⟨hh, hgv, hck, hop⟩
              have hp1 : (p : Int) < pn := by omega
              have hp0 : (0 : Int) ≤ (p : Int) := by omega
              clear hs hown hge hh hcm hsz ht hkx hk hck hop hgv
              go_upto_region 47 with fail
              have hcall := Hcall.out wr (Chg.refl [] wr)
              have Hcall1 := Lib.hid hcall
              clear hcall
              go_wp2_with fail
              refine Hcall1.out.mono ?_
              rintro e w6 ⟨rfl, js2, qs2, hN, hS⟩
              rw [Hf.out.2.2.1]
              have Hnx : Hid (Cv w w6 sb cb mb N es js2 qs2 ta q tp ts ca cn cp tc ∧ CI (n + q + (p + 1)) N es js2 qs2 [] tc ∧ Opn js js2 (p + 1) ∧ w6.ownsRow sz 3 1 (.slice (some ⟨gv, 0, none⟩) pn c) pn ((pendF 0 js).map (Value.int .i64))) := Lib.hid (by
                obtain ⟨f1, f2, f3, f4⟩ := Hf.out
                refine ⟨Hq.out.1.sv hS, Hq.out.2.1.ans hN, ?_, ownsRow_kept Hq.out.2.2.2 fun g hg hl => ?_⟩
                · rcases hN with ⟨h0, _⟩ | ⟨k', m, hk', _, _, rfl, _⟩
                  · exact absurd f3 h0
                  · obtain rfl : k = k' := by omega
                    exact f4
                · simp only [Value.ownBlock, Option.some.injEq] at hg
                  subst hg
                  exact (sf_box hS.2 (show wr.heap[gv]? = _ from f1) (by decide) f2).trans f1.symm)
              clear hN hS v0 lv
              go_wp2_with fail
              exact ⟨⟨p + 1, by omega, by go_num, js2, qs2, Hnx⟩, by simp [intOf]; omega⟩
            · obtain rfl : p = pn := by omega
              have hp1 : ¬ ((p : Int) < p) := by omega
              have Hpend := Lib.hid (show pendF 0 js' = [] from (show Opn js js' (pendF 0 js).length by rw [← Hpn.out]; exact Hq.out.2.2.1).last)
              obtain ⟨ja, jn, qa, qn, hs⟩ := Hq.out.1.srv
              have Hcall := Lib.hid (flush_any wr _ sb _ jn _ qn ja qa js' qs' hs (by have := Hq.out.2.1.lq; have := Hn.out; omega))
              clear hs
              go_wp2_with fail
              refine Hcall.out.mono ?_
              rintro e w6 ⟨ja2, jn2, fa, fc, rfl, hF⟩
              obtain ⟨h6, hfl⟩ := Hq.out.1.fl hF
              have hlq := Hq.out.2.1.lq
              have hcl := h6.tc.len
              have hnn := Hn.out
              obtain ⟨a7, c7, w7, hr, hP⟩ := h6.tc.app hfl (by omega)
              have Hr := Lib.hid hr
              have H7 := Lib.hid (h6.setC hP)
              have Hci7 := Lib.hid Hq.out.2.1.flush
              obtain ⟨q9, hq9⟩ : ∃ y, y = qs'.length := ⟨_, rfl⟩
              rw [← hq9] at Hr H7 hlq ⊢
              obtain ⟨tc7, htc7⟩ : ∃ y, y = tc ++ qs' := ⟨_, rfl⟩
              rw [← htc7] at H7 Hci7
              obtain ⟨n7, hn7⟩ : ∃ y, y = cn + q9 := ⟨_, rfl⟩
              rw [← hn7] at Hr H7
              have hn7' : n7 ≤ 400 := by omega
              clear hr hP h6 hfl hlq hcl hF hq9 htc7 hnn hn7
              go_upto_region 50 with (at_builtin; refine wpList_append_run rfl _ _ _ rfl _ _ _ _ rfl rfl Hr.out ?_)
              go_wp2_with fail
              go_loopw [167] (fun i wr => ∃ r : Nat, r ≤ n7 ∧ i = .int .i64 (r : Nat) ∧ ∃ es', Hid (Cv w wr sb cb mb N es' js' [] ta q tp ts a7 n7 c7 tc7 ∧ CI (n + q + p) N es' js' [] [] (tc7.drop r))) (fun i _ => n7 - (intOf i).toNat)
              case atStart => exact ⟨0, by omega, rfl, es, Lib.hid ⟨H7.out, by rw [List.drop_zero]; exact Hci7.out⟩⟩
              case round =>
                clear H7 Hci7 Hr
                obtain ⟨r, hr, rfl, es, Hr⟩ := hrel
                by_cases hlr : r < n7
                · have hrt : r < tc7.length := by have := Hr.out.1.tc.len; omega
                  obtain ⟨g, off, hta, lg, hcell⟩ := Hr.out.1.tc.at (i := r) hrt
                  subst hta
                  have hdl : 0 < (tc7.drop r).length := by rw [List.length_drop]; omega
                  have hd0 : (tc7.drop r)[0] = tc7[r] := by rw [List.getElem_drop]; rfl
                  have hQ := Hr.out.2.okC _ (List.getElem_mem hdl)
                  have hwait := Hr.out.2.waits hdl
                  have hgot := Hr.out.2.got hdl
                  have hde : (tc7.drop r).eraseIdx 0 = tc7.drop (r + 1) := by rw [List.drop_eq_getElem_cons hrt]; rfl
                  rw [hde] at hgot
                  rw [hd0] at hQ hwait hgot
                  clear hd0 hde hdl
                  generalize tc7[r] = m at hcell hQ hwait hgot
                  have Hwait := Lib.hid hwait
                  have Hgot := Lib.hid hgot
                  clear hwait hgot
                  obtain ⟨mk, mi, mc, mt⟩ := m
                  have m0 : wr.cell? ⟨g, off + r * 9, none⟩ = some (.int .i64 mk) := hcell 0 (by decide)
                  have m1 : wr.cell? ⟨g, off + r * 9 + 1, none⟩ = some (.int .i64 mi) := hcell 1 (by decide)
                  have m2 : wr.cell? ⟨g, off + r * 9 + 2, none⟩ = some (.int .i64 mc) := hcell 2 (by decide)
                  have m3 : wr.cell? ⟨g, off + r * 9 + 3, none⟩ = some (.string mt) := hcell 3 (by decide)
                  have m4 : wr.cell? ⟨g, off + r * 9 + 4, none⟩ = some (.int .i64 0) := hcell 4 (by decide)
                  have m5 : wr.cell? ⟨g, off + r * 9 + 5, none⟩ = some (.int .i64 0) := hcell 5 (by decide)
                  have m6 : wr.cell? ⟨g, off + r * 9 + 6, none⟩ = some (.string ⟨#[]⟩) := hcell 6 (by decide)
                  have m7 : wr.cell? ⟨g, off + r * 9 + 7, none⟩ = some (.slice none 0 0) := hcell 7 (by decide)
                  have m8 : wr.cell? ⟨g, off + r * 9 + 8, none⟩ = some (.slice none 0 0) := hcell 8 (by decide)
                  have Hcall := Lib.hid (cliReceive_any wr cb mb N es mk mi mc mt Hr.out.1.cli hQ.1 hQ.2 (HT.out.new Hr.out.1.fr).1 Hwait.out)
                  have hr1 : (r : Int) < n7 := by omega
                  have hr0 : (0 : Int) ≤ (r : Int) := by omega
                  unfold mV at Hcall
                  clear hcell hQ hrt
                  go_wp2_with fail
                  refine Hcall.out.mono ?_
                  rintro e w8 ⟨rfl, hC, hF⟩
                  have H8 := Lib.hid (Hr.out.1.cl hC hF)
                  clear hC hF m0 m1 m2 m3 m4 m5 m6 m7 m8 lg
                  go_wp2_with fail
                  exact ⟨⟨r + 1, by omega, by go_num, _, Lib.hid ⟨H8.out, Hgot.out⟩⟩, by simp [intOf]; omega⟩
                · obtain rfl : r = n7 := by omega
                  have hr1 : ¬ ((r : Int) < r) := by omega
                  have hes : es = [] := CI.done (k := n + q + p) (N := N) (js := js') (by
                    have := Hr.out.2
                    rwa [List.drop_of_length_le (by have := Hr.out.1.tc.len; omega)] at this) Hpend.out
                  subst hes
                  go_wp2_with fail
                  refine (mex_any wr (HT.out.new Hr.out.1.fr)).mono ?_
                  rintro e w3 ⟨rfl, hc3⟩
                  have H3 := Lib.hid (Hr.out.1.new hc3)
                  clear hc3
                  go_wp2_with fail
                  refine (cliPending_any w3 cb mb N H3.out.cli).mono ?_
                  rintro e w4 ⟨⟨a4, c4, rfl⟩, hc4⟩
                  have H4 := Lib.hid (H3.out.new hc4)
                  obtain ⟨ja, jn, qa, qn, hs⟩ := H4.out.srv
                  have Hp := Lib.hid (pending_any w4 _ sb _ jn _ qn ja qa js' _ hs (by have := Hq.out.2.1.lj; have := Hn.out; omega))
                  clear hc4 hs
                  go_wp2_with fail
                  refine Hp.out.mono ?_
                  rintro e w6 ⟨⟨a6, c6, rfl, ho⟩, hc6⟩
                  rw [Hpend.out]
                  have H6 := Lib.hid (H4.out.new hc6).fr
                  clear ho hc6
                  go_wp2_with fail
                  go_ret
                  exact ⟨rfl, H6.out⟩
end Go.Proofs.YtiklgipcgdgkoaaDoor.Jv
