/- ProgressAnyOrder: the law's walk. -/
import Derived.Test.YtlhngcpodkiafaaPrgT
import Derived.Deep.RegionLaw
import Derived.Test.YtlhngcpodkiafaaMod
namespace Go.Proofs.Ytlhngcpodkiafaa
open Go.RowKit
set_option linter.unusedVariables false
set_option maxRecDepth 100000 in
set_option maxHeartbeats 4000000 in
theorem anyOrder_any (w : World) (tok0 s0 : Int) (v1 v2 : Value) (xs os : List Int) (h1 : IntsC w v1 xs) (h2 : IntsC w v2 os) (ht : In64 tok0) :
    Calls Try.prog 4 #[.int .i64 tok0, v1, .int .i64 s0, v2] w fun e w' => e = .returned (.bool true) ∧ Chg [] w w' := by
  obtain ⟨a1, cap1, rfl, hc1, hc2⟩ := h1.shape
  obtain ⟨a2, cap2, rfl, hc3, hc4⟩ := h2.shape
  unfold maxLen at hc2 hc4
  obtain ⟨T, hT⟩ : ∃ T : Int, T = max tok0 0 := ⟨_, rfl⟩
  have hT0 : 0 ≤ T := by omega
  have hT1 : T ≤ 9223372036854775807 := by have := ht.2; omega
  have HT := Lib.hid hT
  have H1 := Lib.hid h1
  have H2 := Lib.hid h2
  clear hT h1 h2 ht
  go_enter Try.func4, Try.ntmps4
  go_wp2_with fail
  refine (chunkExample_any _).mono ?_
  rintro e w1 ⟨rfl, c1⟩
  have C1 := Lib.hid c1
  clear c1
  go_upto_region 3 with (fail)
  go_cut [1, 2] (fun v u wx => (∃ (n : Nat) (ys : List Int) (m : Nat), v = .slice a1 n cap1 ∧ u = .int .i64 ((m + 1 : Nat) : Int) ∧ m < 20 ∧ Hid (ys.length = n) ∧ n ≤ 100 ∧ Hid (IntsC w (.slice a1 n cap1) ys)) ∧ Hid (Chg [] w wx))
  case first =>
    -- slow
    have hm := modI_bd s0 20 (by decide)
    obtain ⟨m, hmm⟩ : ∃ m : Nat, modI s0 20 = m := ⟨(modI s0 20).toNat, by omega⟩
    have hmb : m < 20 := by omega
    have Hmm := Lib.hid hmm
    have hcall : ∀ W : World, Calls Try.prog 6 #[.int .i64 s0, .int .i64 20] W fun e w' => e = .returned (.int .i64 (m : Int)) ∧ W = w' := fun W => by rw [← hmm]; exact mod_any s0 20 W (by decide) (by decide)
    clear hm hmm
    have hw : IntKind.i64.wrap (1 + (m : Int)) = ((m + 1 : Nat) : Int) := by rw [IntWalk.i64_in _ (by omega)]; omega
    have Hw := Lib.hid hw
    clear hw
    by_cases h : xs.length ≤ 100
    · go_region_with (go_at_call 6; refine (hcall _).mono ?_; rintro e w' ⟨rfl, rfl⟩)
      all_goals
        go_wp2
        go_meet
        exact ⟨⟨xs.length, xs, m, rfl, by first | go_num | rw [Hw.out], hmb, Lib.hid rfl, by omega, H1⟩, Lib.hid (by exact C1.out.drew)⟩
    · have h2 := Lib.hid (H1.out.take 100 (by omega))
      have h3 := Lib.hid (show (xs.take 100).length = 100 by rw [List.length_take]; omega)
      go_region_with (go_at_call 6; refine (hcall _).mono ?_; rintro e w' ⟨rfl, rfl⟩)
      all_goals
        go_wp2
        go_meet
        exact ⟨⟨100, _, m, rfl, by first | go_num | rw [Hw.out], hmb, h3, by decide, h2⟩, Lib.hid (by exact C1.out.drew)⟩
    -- end slow
  case rest =>
    obtain ⟨⟨n, ys, m, rfl, rfl, hm, Hn, hn, HI0⟩, HC⟩ := hcut
    have HI := Lib.hid (HI0.out.same HC.out)
    clear C1
    go_upto_region 4 with (fail)
    go_cut [9, 10] (fun v e wx => Hid ((∃ w0, Chg [] w w0 ∧ SplitAll T ys w0 (.returned (.tuple #[v, e])) wx) ∧ IntsC wx (.slice a1 n cap1) ys))
    case first =>
      -- slow
      have hs : ∀ t : Int, t = T → Calls Try.prog 8 #[.int .i64 t, .slice a1 n cap1, .int .i64 ((m : Int) + 1)] wc (SplitAll T ys wc) := fun t e => by
        rw [e]
        have := split_all T (m + 1) (.slice a1 n cap1) ys wc hT0 (by omega) (by omega) (by rw [Hn.out]; exact hn) HI.out
        rw [Int.natCast_add] at this
        exact this
      by_cases hz : 0 ≤ tok0
      · have e0 := Lib.hid (show tok0 = T by have := HT.out; omega)
        have Hs := Lib.hid (hs tok0 e0.out)
        clear hs
        go_wp2_with fail
        refine (Hs.out).mono ?_
        rintro e w2 ⟨N, gr, cap, us, X, rfl, h⟩
        have Hf := Lib.hid (And.intro (⟨wc, HC.out, N, gr, cap, us, X, rfl, h⟩ : ∃ w0, Chg [] w w0 ∧ SplitAll T ys w0 (.returned (.tuple #[.slice (some ⟨gr, 0, none⟩) N cap, .int .i64 0])) w2) (HI.out.same h.2.2.2.2.2))
        clear h
        go_wp2
        go_meet
        exact Hf
      · have e0 := Lib.hid (show (0 : Int) = T by have := HT.out; omega)
        have Hs := Lib.hid (hs 0 e0.out)
        clear hs
        go_wp2_with fail
        refine (Hs.out).mono ?_
        rintro e w2 ⟨N, gr, cap, us, X, rfl, h⟩
        have Hf := Lib.hid (And.intro (⟨wc, HC.out, N, gr, cap, us, X, rfl, h⟩ : ∃ w0, Chg [] w w0 ∧ SplitAll T ys w0 (.returned (.tuple #[.slice (some ⟨gr, 0, none⟩) N cap, .int .i64 0])) w2) (HI.out.same h.2.2.2.2.2))
        clear h
        go_wp2
        go_meet
        exact Hf
      -- end slow
    case rest =>
      clear HI HC
      rename_i wold _
      obtain ⟨⟨w0, hc0, N, gr, cap, us, X, he, hN1, hN2, hrow, hus, hcat, hc5⟩, hI5⟩ := hcut.out
      simp only [Ending.returned.injEq, Value.tuple.injEq, Array.mk.injEq, List.cons.injEq, and_true] at he
      obtain ⟨rfl, rfl⟩ := he
      obtain ⟨i0, hi, hz0, hz1, hz2⟩ := info_parts Try.infoChunk
      have Hi := Lib.hid hi
      have Hz0 := Lib.hid hz0
      have Hz1 := Lib.hid hz1
      have Hz2 := Lib.hid hz2
      have Hrow := Lib.hid (ownsRow_base hrow hc0.size)
      have Hus := Lib.hid hus
      have Hcat := Lib.hid hcat
      have HC5 := Lib.hid (hc0.trans hc5)
      have HI5 := Lib.hid hI5
      clear hcut hrow hus hcat hc5 hc0 hI5 hi hz0 hz1 hz2
      go_wp2_with fail
      refine (newAssembler_any T _).mono ?_
      rintro e w6 ⟨rfl, hA, hc6⟩
      obtain ⟨pa, hpa⟩ : ∃ x, x = wc.heap.size + 1 := ⟨_, rfl⟩
      obtain ⟨bo, hbo⟩ : ∃ x, x = wc.heap.size := ⟨_, rfl⟩
      rw [← hpa, ← hbo] at hA
      rw [← hpa]
      have HA := Lib.hid hA
      have HC6 := Lib.hid (HC5.out.trans hc6)
      have Hrow6 := Lib.hid (ownsRow_kept Hrow.out fun g hg hl => hc6.block g hl (by simp))
      have Hus6 := Lib.hid (fun q hq => (Hus.out q hq).same hc6)
      have hbow : w.heap.size ≤ bo := by rw [hbo]; exact HC5.out.size
      have hN0 : ((N : Int) == 0) = false := by simp; omega
      have HI6 := Lib.hid (HI5.out.same hc6)
      clear hA hc6 hpa hbo Hrow Hus HC5 HI5
      go_upto_region 8 with (fail)
      go_cut [0] (fun v wx => v = .int .i64 T ∧ wx = w6)
      case first =>
        by_cases hz : 0 ≤ tok0
        · have e0 := Lib.hid (show tok0 = T by have := HT.out; omega)
          go_wp2
          go_meet
          exact ⟨by rw [e0.out], rfl⟩
        · have e0 := Lib.hid (show (0 : Int) = T by have := HT.out; omega)
          go_wp2
          go_meet
          exact ⟨by rw [e0.out], rfl⟩
      case rest =>
        obtain ⟨rfl, rfl⟩ := hcut
        have hnews : ∀ j u, (flatP T N us (List.range N))[j]? = some u → wc.cell? ((⟨gr, 0, none⟩ : Addr).add j) = some u := fun j u hu => Hrow6.out.cells (g := gr) rfl j u hu
        have hone := flatP_one T N us (List.range N) (fun q hq => (Hus6.out q (List.mem_range.1 hq)).one)
        have hlen : (flatP T N us (List.range N)).length = N * 4 := by rw [flatP_len, List.length_range]
        have Hnews := Lib.hid hnews
        have Hone := Lib.hid hone
        have Hlen := Lib.hid hlen
        clear hnews hone hlen
        have hws := HC6.out.size
        go_wp2_with (at_builtin; refine wpList_append_own _ rfl _ _ 29 rfl w.heap.size 39 i0 (.agg #[.int .i64 0, .int .i64 0, .bool false, .slice none 0 0]) 4 48 Try.underlying29 Hi.out Hz0.out Hz1.out Hz2.out rfl (by decide) (.slice none 0 0) 0 [] rfl (World.ownsRow_nil _ _ _ _) ⟨gr, 0, none⟩ N cap (flatP T N us (List.range N)) rfl Hlen.out Hnews.out Hone.out (by unfold maxLen; omega) (by omega) hws ?_; intro v7 w7 hown7 hgr7 hnil7; have Hown7 := Lib.hid hown7; have Hgr7 := Lib.hid hgr7; clear hown7 hgr7 hnil7)
        have hc7 : Chg [] wc w7 := (Chg.refl [] wc).grown Hgr7.out (by simp [Value.ownBlock])
        have HC7 := Lib.hid (HC6.out.trans hc7)
        have HI7 := Lib.hid (HI6.out.same hc7)
        have hL : AL N X us T pa bo w (List.range N) none v7 w7 := ⟨AI.start N X, HA.out.same hc7, by have := Hown7.out; rw [Nat.zero_add, List.nil_append] at this; rw [List.length_range]; exact this, fun q hq => (Hus6.out q hq).same hc7, by simp, hbow, HC7.out⟩
        have HL := Lib.hid hL
        clear hL hc7 Hnews Hone Hlen Hown7 Hgr7 HI6 HC6 HA Hus6 Hrow6
        go_loopw [12, 13] (fun v i wr => ∃ (P : List Nat) (st : Option (Nat × List CE)) (iv : Nat), Hid (iv + P.length = N) ∧ i = .int .i64 (iv : Int) ∧ AL N X us T pa bo w P st v wr) (fun v _ _ => lenV v)
        case atStart => exact ⟨List.range N, none, 0, Lib.hid (by simp), rfl, HL.out⟩
        case round =>
          clear HL
          obtain ⟨P, st, iv, HPN, rfl, hL⟩ := hrel
          obtain ⟨av, cv, rfl⟩ := ownsRow_shape hL.row
          rcases Nat.eq_zero_or_pos P.length with hP | hP
          · obtain rfl : P = [] := List.eq_nil_of_length_eq_zero hP
            obtain ⟨cs, hcs, hcx, hes, hF⟩ := hL.inv.fin hN1
            cases st with
            | none => simp [ste] at hes; omega
            | some sv =>
              obtain ⟨bi, es⟩ := sv
              simp only [ste] at hes hF hcs
              have hbd := hL.inv.bd
              simp only [ste] at hbd
              have hcat : catTo cs N = ys := by rw [catTo_eq cs X N hcx N (Nat.le_refl _)]; exact Hcat.out
              have hle : ∀ k, k ≤ N → (catTo cs k).length ≤ 1000 := fun k hk => by
                have := len_catTo cs N k hk
                rw [hcat, Hn.out] at this
                omega
              have hT2 : In64 T := ⟨by omega, hT1⟩
              have Hres := Lib.hid (result_yes pa bo bi T es N cs wr hL.asm hT2 (fun p hp => by have := hbd p hp; omega) hes hN1 (by omega) hF hcs hle)
              have Hmis := Lib.hid (fun W (h : AsAt W pa bo T (some (bi, es))) => missing_none pa bo bi T es N cs W h hT2 hbd (by omega) hcs)
              have HA := Lib.hid hL.asm
              have HCr := Lib.hid hL.chg
              have Hct := Lib.hid hcat
              clear hcs hcx hes hF hle hbd hcat hL
              go_wp2_with fail
              refine Hres.out.mono ?_
              rintro e w8 ⟨v8, rfl, hI8, hc8⟩
              rw [Hct.out] at hI8
              obtain ⟨a8, c8, rfl⟩ := hI8.shape
              have HI8 := Lib.hid hI8
              have Hc8 := Lib.hid hc8
              clear hI8 hc8
              go_wp2_with fail
              refine (chunkExample_any _).mono ?_
              rintro e w9 ⟨rfl, c9⟩
              have Hc9 := Lib.hid (Hc8.out.trans c9)
              have Heq := Lib.hid (refEqual_any w9 _ _ ys ys (HI8.out.same c9).c (HI0.out.same (HCr.out.trans Hc9.out)))
              clear c9
              simp only [decide_true] at Heq
              go_wp2_with fail
              refine Heq.out.mono ?_
              rintro e w' ⟨rfl, rfl⟩
              go_wp2_with fail
              refine (Hmis.out _ (HA.out.same Hc9.out)).mono ?_
              rintro e w10 ⟨rfl, hc10⟩
              have Hc10 := Lib.hid (HCr.out.trans (Hc9.out.trans hc10))
              clear hc10
              go_wp2
              go_ret
              exact ⟨rfl, Hc10.out⟩
          · obtain ⟨p, hp⟩ : ∃ p, P.length = p + 1 := ⟨P.length - 1, by omega⟩
            have hrow := hL.row
            rw [hp] at hrow ⊢
            have hpN : p + 1 ≤ N := by have := HPN.out; omega
            have hivN : iv < N := by have := HPN.out; omega
            obtain ⟨g, cv', hav⟩ := ownsRow_succ hrow
            simp only [Value.slice.injEq, true_and] at hav
            obtain ⟨rfl, rfl⟩ := hav
            have HL := Lib.hid hL
            have Hp := Lib.hid hp
            have Hrow := Lib.hid hrow
            have hpc : p + 1 ≤ cv := by
              rcases hrow.2 with ⟨h, _⟩ | ⟨g', cap', cur', hv, _, _, h1, h2, _⟩
              · cases h
              · cases hv; exact h1
            clear hL hp hrow hP
            go_upto_if 66 with (fail)
            go_cut [14] (fun v wx => (∃ k : Nat, v = .int .i64 (k : Int) ∧ k < p + 1) ∧ wx = wr)
            case first =>
              by_cases hio : iv < os.length
              · obtain ⟨g2, off2, rfl, q0⟩ := (H2.out.same HL.out.chg).at iv hio
                obtain ⟨o, ho⟩ : ∃ o, os.getD iv 0 = o := ⟨_, rfl⟩
                rw [ho] at q0
                have hb := modI_bd o ((p : Int) + 1) (by omega)
                obtain ⟨k, hk⟩ : ∃ k : Nat, modI o ((p : Int) + 1) = k := ⟨(modI o ((p : Int) + 1)).toNat, by omega⟩
                have hkb : k < p + 1 := by omega
                have hcall : Calls Try.prog 6 #[.int .i64 o, .int .i64 ((p : Int) + 1)] wr fun e w' => e = .returned (.int .i64 (k : Int)) ∧ wr = w' := by rw [← hk]; exact mod_any o _ wr (by omega) (by omega)
                clear hk hb ho
                go_wp2_with fail
                refine hcall.mono ?_
                rintro e w' ⟨rfl, rfl⟩
                go_wp2
                go_meet
                exact ⟨⟨k, rfl, hkb⟩, rfl⟩
              · go_wp2
                go_meet
                exact ⟨⟨0, rfl, by omega⟩, rfl⟩
            case rest =>
              obtain ⟨⟨k, rfl, hk⟩, rfl⟩ := hcut
              have hno := HL.out.inv.no (by rw [Hp.out]; omega)
              go_wp2_with fail
              refine (result_no pa bo T st _ HL.out.asm ⟨by omega, hT1⟩ (fun p hp => by have := HL.out.inv.bd p hp; omega) hno).mono ?_
              rintro e w8 ⟨rfl, hc8⟩
              have hkP : k < P.length := by rw [Hp.out]; exact hk
              have hr8 := ownsRow_kept (w' := w8) Hrow.out fun g hg hl => hc8.block g hl (by simp)
              obtain ⟨f0, f1, f2, f3⟩ := flatP_get T N us P k hkP
              have q0 := hr8.cells (g := g) rfl _ _ f0
              have q1 := hr8.cells (g := g) rfl _ _ f1
              have q2 := hr8.cells (g := g) rfl _ _ f2
              have q3 := hr8.cells (g := g) rfl _ _ f3
              simp only [Addr.add_lit, Nat.zero_add] at q0 q1 q2 q3
              obtain ⟨q, hq⟩ : ∃ q, P[k] = q := ⟨_, rfl⟩
              have hqN : q < N := by rw [← hq]; exact HL.out.inv.lt _ (List.getElem_mem hkP)
              obtain ⟨ua, uc, hu⟩ := (HL.out.ints q hqN).shape
              rw [hq] at q1 q2 q3
              rw [hu] at q3
              have hXl : (X q).length ≤ 100 := by
                have := len_flatMap_le X (List.range N) q (List.mem_range.2 hqN)
                rw [Hcat.out, Hn.out] at this
                omega
              have hIq := (HL.out.ints q hqN).same hc8
              have hqm : q ∈ P := by rw [← hq]; exact List.getElem_mem hkP
              have Hadd := Lib.hid (add_new pa bo T q N X P st (us q) (X q) w8 (HL.out.asm.same hc8) HL.out.inv hqm (by omega) hT0 hT1 hIq (by omega))
              rw [hu] at Hadd
              have H8 := Lib.hid (And.intro hc8 (And.intro hq (And.intro hu (And.intro hr8 hIq))))
              have hk1 : (k : Int) < (p : Int) + 1 := by omega
              clear f0 f1 f2 f3 hno hc8 hr8 hu hIq hq
              go_wp2_with fail
              refine Hadd.out.mono ?_
              rintro e w9 ⟨bi, a', cap', blk, rfl, hA9, hmap, hblk, hbi, hc9⟩
              have hdone := HL.out.added hkP H8.out.1 (by rw [H8.out.2.1]; exact hA9) hmap hblk hbi hc9
              rw [H8.out.2.1] at hdone
              obtain ⟨hr9, hi9, hbi9, hcw9, hai⟩ := hdone
              rw [Hp.out] at hr9
              obtain ⟨f0, f1, f2, f3⟩ := flatP_get T N us P k hkP
              rw [H8.out.2.1] at f1 f2 f3
              rw [H8.out.2.2.1] at f3
              have q0 := hr9.cells (g := g) rfl _ _ f0
              have q1 := hr9.cells (g := g) rfl _ _ f1
              have q2 := hr9.cells (g := g) rfl _ _ f2
              have q3 := hr9.cells (g := g) rfl _ _ f3
              simp only [Addr.add_lit, Nat.zero_add] at q0 q1 q2 q3
              have hag := add_again pa bo bi T q _ ⟨decide (q + 1 = N), a', cap', X q⟩ (decide (q + 1 = N)) ua (X q).length uc (X q) w9 hA9 hT0 hT1 (by omega) (by omega) (by rw [aget_ups, if_pos rfl]) rfl rfl (by rw [← H8.out.2.2.1]; exact (hi9 q hqN).c) (by omega)
              have Hag := Lib.hid hag
              have H9 := Lib.hid (And.intro hr9 (And.intro hi9 (And.intro hbi9 (And.intro hcw9 (And.intro hai hA9)))))
              clear f0 f1 f2 f3 hag hr9 hi9 hbi9 hcw9 hai hA9 hmap hblk hbi hc9 Hadd
              go_wp2_with fail
              refine Hag.out.mono ?_
              rintro e w10 ⟨rfl, hc10⟩
              have hr10 := ownsRow_kept (w' := w10) H9.out.1 fun g hg hl => hc10.block g hl (by simp)
              have hnA : ∀ j u, (flatP T N us (P.take k))[j]? = some u → w10.cell? ((⟨g, 0, none⟩ : Addr).add j) = some u := fun j u hu => by
                have hj := (List.getElem?_eq_some_iff.1 hu).1
                rw [flatP_len, List.length_take] at hj
                refine hr10.cells (g := g) rfl j u ?_
                rw [← flatP_take, List.getElem?_take, if_pos (by omega)] at hu
                exact hu
              have hnB : k < p → ∀ j u, (flatP T N us (P.drop (k + 1)))[j]? = some u → w10.cell? ((⟨g, (k + 1) * 4, none⟩ : Addr).add j) = some u := fun _ j u hu => by
                have := hr10.cells (g := g) rfl ((k + 1) * 4 + j) u (by rw [← flatP_drop, List.getElem?_drop] at hu; exact hu)
                rw [Addr.add_lit, Nat.zero_add] at this
                rw [Addr.add_lit]
                exact this
              have honeP : ∀ q ∈ P, (us q).oneCell' = true := fun q hq => (HL.out.ints q (HL.out.inv.lt q hq)).one
              have hoA := flatP_one T N us (P.take k) (fun q hq => honeP q (List.mem_of_mem_take hq))
              have hoB := flatP_one T N us (P.drop (k + 1)) (fun q hq => honeP q (List.mem_of_mem_drop hq))
              have hlA : (flatP T N us (P.take k)).length = k * 4 := by rw [flatP_len, List.length_take, Hp.out]; omega
              have hlB : (flatP T N us (P.drop (k + 1))).length = (p - k) * 4 := by rw [flatP_len, List.length_drop, Hp.out]; omega
              have hw10 : w.heap.size ≤ w10.heap.size := Nat.le_trans H9.out.2.2.2.1.size hc10.size
              have H10 := Lib.hid (And.intro hc10 hr10)
              have HA := Lib.hid (And.intro hnA (And.intro hoA hlA))
              have HB := Lib.hid (And.intro hnB (And.intro hoB hlB))
              have hk0 : (0 : Int) ≤ (k : Int) := by omega
              have hk2 : IntKind.i64.wrap ((k : Int) + 1) = ((k + 1 : Nat) : Int) := by rw [IntWalk.i64_in _ (by omega)]; omega
              clear hc10 hr10 Hag hnA hnB honeP hoA hoB hlA hlB
              by_cases hcc : cv = k + 1
              · obtain rfl : p = k := by omega
                subst hcc
                have hdn : P.drop (p + 1) = [] := List.drop_eq_nil_of_le (by rw [Hp.out]; exact Nat.le_refl _)
                have Hdn := Lib.hid hdn
                have hb1 : (p : Int) ≤ (p : Int) + 1 := by omega
                have hb2 : (0 : Int) ≤ (p : Int) + 1 := by omega
                clear hdn hk
                go_wp2
                go_region_law (first
                  | (rw [if_pos (by simp [Region.wanted])]; go_simp; refine (refClone_any _ ⟨g, 0, none⟩ p _ (flatP T N us (P.take p)) (by omega) HA.out.2.2 (by exact HA.out.1) HA.out.2.1).mono ?_; rintro e w11 ⟨v11, rfl, hown11, hc11⟩; obtain ⟨a11, c11, rfl⟩ := ownsRow_shape hown11; have Hown11 := Lib.hid hown11; have Hc11 := Lib.hid hc11; clear hown11 hc11)
                  | (refine step_append_own rfl _ _ _ (by rfl) w10.heap.size 39 i0 (.agg #[.int .i64 0, .int .i64 0, .bool false, .slice none 0 0]) 4 48 Try.underlying29 Hi.out Hz0.out Hz1.out Hz2.out rfl (by decide) (.slice a11 p c11) p (flatP T N us (P.take p)) (by rfl) Hown11.out ⟨g, 0, none⟩ (0) (0) [] (by rfl) (by simp) (fun j u hu => by simp at hu) (by simp) (by unfold maxLen; omega) (by omega) Hc11.out.size ?_; intro v12 w12 hown12 hgr12; have Hown12 := Lib.hid hown12; have Hgr12 := Lib.hid hgr12; clear hown12 hgr12))
                have hal := AL.next (n := P.length - 1) H9.out.2.2.2.2.1 H9.out.2.2.2.2.2 H9.out.2.2.1 hbow H9.out.2.1 H9.out.2.2.2.1 H10.out.1 Hc11.out Hown11.out Hgr12.out (by have := Hown12.out; rw [show P.length - 1 = p + 0 by rw [Hp.out]; rfl]; exact this) (by rw [List.length_append, List.length_take, List.length_drop]; omega) (by rw [flatP_append, Hdn.out]; rfl)
                have Hal := Lib.hid hal
                clear hal
                go_wp2
                go_roundw
                case rel => exact ⟨_, _, iv + 1, Lib.hid (by have := HPN.out; rw [List.length_append, List.length_take, List.length_drop]; omega), by go_num, Hal.out⟩
                case measure => obtain ⟨a12, c12, rfl⟩ := ownsRow_shape Hown12.out; show p + 0 < p + 1; omega
              · have hkp : k ≤ p := by omega
                have hb1 : k ≤ cv := by omega
                have hb2 : (0 : Int) ≤ (k : Int) + 1 := by omega
                go_wp2
                go_region_law (first
                  | (rw [if_pos (by simp [Region.wanted])]; go_simp; refine (refClone_any _ ⟨g, 0, none⟩ k _ (flatP T N us (P.take k)) (by omega) HA.out.2.2 (by exact HA.out.1) HA.out.2.1).mono ?_; rintro e w11 ⟨v11, rfl, hown11, hc11⟩; obtain ⟨a11, c11, rfl⟩ := ownsRow_shape hown11; have Hown11 := Lib.hid hown11; have Hc11 := Lib.hid hc11; clear hown11 hc11)
                  | (refine step_append_own rfl _ _ _ (by rfl) w10.heap.size 39 i0 (.agg #[.int .i64 0, .int .i64 0, .bool false, .slice none 0 0]) 4 48 Try.underlying29 Hi.out Hz0.out Hz1.out Hz2.out rfl (by decide) (.slice a11 k c11) k (flatP T N us (P.take k)) (by rfl) Hown11.out ⟨g, (k + 1) * 4, none⟩ (p - k) (cv - (k + 1)) (flatP T N us (P.drop (k + 1))) (by rfl) HB.out.2.2 (fun j u hu => by have h1 := HB.out.1 (by have := (List.getElem?_eq_some_iff.1 hu).1; rw [HB.out.2.2] at this; omega) j u hu; exact (Hc11.out.cell (lt_of_cell h1) (by simp)).trans h1) HB.out.2.1 (by unfold maxLen; omega) (by omega) Hc11.out.size ?_; intro v12 w12 hown12 hgr12; have Hown12 := Lib.hid hown12; have Hgr12 := Lib.hid hgr12; clear hown12 hgr12))
                have hal := AL.next (n := P.length - 1) H9.out.2.2.2.2.1 H9.out.2.2.2.2.2 H9.out.2.2.1 hbow H9.out.2.1 H9.out.2.2.2.1 H10.out.1 Hc11.out Hown11.out Hgr12.out (by have := Hown12.out; rw [show P.length - 1 = k + (p - k) by rw [Hp.out]; omega]; exact this) (by rw [List.length_append, List.length_take, List.length_drop]; omega) (by rw [flatP_append])
                have Hal := Lib.hid hal
                clear hal
                go_wp2
                go_roundw
                case rel => exact ⟨_, _, iv + 1, Lib.hid (by have := HPN.out; rw [List.length_append, List.length_take, List.length_drop]; omega), by go_num, Hal.out⟩
                case measure => obtain ⟨a12, c12, rfl⟩ := ownsRow_shape Hown12.out; show k + (p - k) < p + 1; omega
end Go.Proofs.Ytlhngcpodkiafaa
