/- filewatch.Batches. -/
import Derived.Test.YtdekngkcojfhmaaFwQ
namespace Go.Proofs.Ytdekngkcojfhmaa
open Go.RowKit Go.ChangeMaps Go.MapKept Go.Shelf
set_option linter.unusedVariables false
set_option linter.unusedSimpArgs false
abbrev Bt := Int × List FEv
def batCells (us : List (Int × Value)) : List Value := us.flatMap fun u => [.int .i64 u.1, u.2]
theorem batCells_snoc (us : List (Int × Value)) (u : Int × Value) : batCells (us ++ [u]) = batCells us ++ [.int .i64 u.1, u.2] := by simp [batCells, List.flatMap_append]
theorem batCells_get (us : List (Int × Value)) (j : Nat) (h : j < us.length) : (batCells us)[j * 2]? = some (.int .i64 us[j].1) ∧ (batCells us)[j * 2 + 1]? = some us[j].2 := by
  induction us generalizing j with
  | nil => simp at h
  | cons x r ih =>
    cases j with
    | zero => simp [batCells, List.flatMap_cons]
    | succ j =>
      have := ih j (by simpa using h)
      simp only [batCells, List.flatMap_cons] at this ⊢
      rw [show (j + 1) * 2 = j * 2 + 2 by omega, show j * 2 + 2 + 1 = j * 2 + 1 + 2 by omega]
      simpa using this
/-- batches of the call's own -/
def BatO (w : World) (base : Nat) (v : Value) (bs : List Bt) : Prop :=
  ∃ us : List (Int × Value), us.length = bs.length ∧ w.ownsRow base 31 2 v us.length (batCells us) ∧ ∀ (i : Nat) (u : Int × Value) (b : Bt), us[i]? = some u → bs[i]? = some b → u.1 = b.1 ∧ OwnEv w base u.2 b.2
theorem BatO.nil (w : World) (base : Nat) : BatO w base (.slice none 0 0) [] := ⟨[], rfl, ⟨rfl, .inl ⟨rfl, rfl⟩⟩, by simp⟩
theorem own_at {w : World} {B sz : Nat} {e : TypeId} {v : Value} {n : Nat} {xs : List Value} (h : w.ownsRow B e sz v n xs) {g : Nat} (hg : v.ownBlock = some g) : ∃ cur, w.heap[g]? = some (.cells cur e (0, 0)) := by
  rcases h.2 with ⟨rfl, _⟩ | ⟨g', cap, cur, rfl, _, h2, _⟩
  · simp [Value.ownBlock] at hg
  · simp only [Value.ownBlock, Option.some.injEq] at hg
    subst hg
    exact ⟨cur, h2⟩
theorem own_ne2 {w : World} {B B' sz sz' : Nat} {e e' : TypeId} {v v' : Value} {n n' : Nat} {xs xs' : List Value} (h : w.ownsRow B e sz v n xs) (h' : w.ownsRow B' e' sz' v' n' xs') (hT : e ≠ e') (g : Nat) (hg : v.ownBlock = some g) : v'.ownBlock ≠ some g := fun hg' => by
  obtain ⟨c, h1⟩ := own_at h hg
  obtain ⟨c', h2⟩ := own_at h' hg'
  rw [h1] at h2
  simp only [Option.some.injEq, Obj.cells.injEq] at h2
  exact hT h2.2.1
theorem BatO.same {w w' : World} {base : Nat} {v : Value} {bs : List Bt} (h : BatO w base v bs) (hc : Chg [] w w') : BatO w' base v bs := by
  obtain ⟨us, h1, h2, h3⟩ := h
  exact ⟨us, h1, ownsRow_kept h2 fun g hg hl => hc.block g hl (by simp), fun i u b hu hb => ⟨(h3 i u b hu hb).1, (h3 i u b hu hb).2.same hc⟩⟩
theorem BatO.shape {w : World} {base : Nat} {v : Value} {bs : List Bt} (h : BatO w base v bs) : ∃ a cap, v = .slice a bs.length cap ∧ bs.length ≤ maxLen := by
  obtain ⟨us, h1, h2, h3⟩ := h
  obtain ⟨a, cap, rfl⟩ := ownsRow_shape h2
  refine ⟨a, cap, by rw [h1], ?_⟩
  rcases h2.2 with ⟨hv, hx⟩ | ⟨g, cap', cur', hv, hge, hh, h3, h4, h5, h6⟩
  · rw [← h1, hx]; simp
  · rw [← h1]; omega
/-- the i-th batch -/
theorem BatO.at {w : World} {base : Nat} {a : Option Addr} {n cap : Nat} {bs : List Bt} (h : BatO w base (.slice a n cap) bs) (i : Nat) (hi : i < bs.length) (d : Bt) :
    ∃ g u, a = some ⟨g, 0, none⟩ ∧ base ≤ g ∧ g < w.heap.size ∧ w.cell? ⟨g, i * 2, none⟩ = some (.int .i64 (bs.getD i d).1) ∧ w.cell? ⟨g, i * 2 + 1, none⟩ = some u ∧ OwnEv w base u (bs.getD i d).2 := by
  obtain ⟨us, h1, h2, h3⟩ := h
  rcases h2.2 with ⟨hv, hx⟩ | ⟨g, cap', cur', hv, hge, hh, _⟩
  · omega
  · simp only [Value.slice.injEq] at hv
    obtain ⟨rfl, rfl, rfl⟩ := hv
    have hiu : i < us.length := by omega
    obtain ⟨e0, e1⟩ := batCells_get us i hiu
    have hc : ∀ k u, (batCells us)[k]? = some u → w.cell? ⟨g, k, none⟩ = some u := by
      intro k u hk
      have := World.ownsRow.cells h2 (g := g) rfl k u hk
      rwa [Addr.add_lit, Nat.zero_add] at this
    obtain ⟨r1, r2⟩ := h3 i us[i] (bs.getD i d) (List.getElem?_eq_getElem hiu) (by rw [List.getD_eq_getElem?_getD, List.getElem?_eq_getElem hi]; rfl)
    exact ⟨g, _, rfl, hge, lt_of_obj hh, by rw [hc _ _ e0, r1], hc _ _ e1, r2⟩
theorem Try.infoBat : (Try.prog.info? 31).map (fun i => (i.zero, i.size, i.bytes)) = some (some (.agg #[.int .i64 0, .slice none 0 0]), 2, 32) := by kernel_rfl
/-- a batch has been appended -/
theorem BatO.snoc {w w' : World} {base : Nat} {v v' : Value} {bs : List Bt} {t : Int} {u : Value} {es : List FEv} {us : List (Int × Value)} (h1 : us.length = bs.length) (h2 : w.ownsRow base 31 2 v us.length (batCells us))
    (h3 : ∀ (i : Nat) (u : Int × Value) (b : Bt), us[i]? = some u → bs[i]? = some b → u.1 = b.1 ∧ OwnEv w base u.2 b.2) (hu : OwnEv w base u es) (hn : w'.ownsRow base 31 2 v' (us.length + 1) (batCells us ++ [.int .i64 t, u])) (hc : Chg v.ownBlock.toList w w') : BatO w' base v' (bs ++ [(t, es)]) := by
  refine ⟨us ++ [(t, u)], by simp [h1], by rw [batCells_snoc, List.length_append]; exact hn, fun i x b hx hb => ?_⟩
  have hk : ∀ y l, OwnEv w base y l → OwnEv w' base y l := fun y l hy => OwnEv.kept hy hc.toP fun g hg hm => own_ne2 hy h2 (by decide) g hg (by simpa using hm)
  by_cases hi : i < us.length
  · rw [List.getElem?_append_left hi] at hx
    rw [List.getElem?_append_left (by omega)] at hb
    exact ⟨(h3 i x b hx hb).1, hk _ _ (h3 i x b hx hb).2⟩
  · by_cases he : i = us.length
    · subst he
      rw [List.getElem?_append_right (by omega)] at hx
      rw [h1, List.getElem?_append_right (by omega)] at hb
      simp at hx hb
      subst hx hb
      exact ⟨rfl, hk _ _ hu⟩
    · rw [List.getElem?_eq_none (by simp; omega)] at hx
      cases hx
/-- a slice of a slice of events -/
theorem EvsP.sub {p : Nat → Prop} {w : World} {g off cap : Nat} {n : Nat} {E : List FEv} (h : EvsP p w (.slice (some ⟨g, off, none⟩) n cap) E) (st k : Nat) (h1 : st ≤ k) (h2 : k ≤ E.length) :
    EvsP p w (.slice (some ⟨g, off + st * 3, none⟩) (k - st) (cap - st)) ((E.take k).drop st) := by
  obtain ⟨a, c, hv, hl, hm, hc⟩ := h
  simp only [Value.slice.injEq] at hv
  obtain ⟨rfl, rfl, rfl⟩ := hv
  have hlen : ((E.take k).drop st).length = k - st := by simp; omega
  refine ⟨_, _, by rw [hlen], by omega, by omega, fun h0 => ?_⟩
  obtain ⟨g', off', he, hp, hr⟩ := hc (by omega)
  simp only [Option.some.injEq, Addr.mk.injEq, and_true] at he
  obtain ⟨rfl, rfl⟩ := he
  refine ⟨g, off + st * 3, rfl, hp, fun j hj => ?_⟩
  have := hr (st + j) (by omega)
  rw [show off + (st + j) * 3 = off + st * 3 + j * 3 by omega] at this
  rw [List.getElem_drop, List.getElem_take]
  exact this
theorem EvOk.sub {E : List FEv} (h : EvOk E) (st k : Nat) : EvOk ((E.take k).drop st) := by
  have hm : ∀ e ∈ (E.take k).drop st, e ∈ E := fun e he => List.mem_of_mem_take (List.mem_of_mem_drop he)
  exact ⟨by have := h.len; simp; omega, fun e he => h.kind e (hm e he), fun e he => h.time e (hm e he), (h.ord.sublist (List.take_sublist _ _)).sublist (List.drop_sublist _ _), fun e he => h.path e (hm e he)⟩
theorem bat_at (d : Int) (E : List FEv) (st k : Nat) (h1 : st ≤ k) (hk : k < E.length) :
    bat d ((E.take k).drop st) (E.drop k) = if k + 1 < E.length ∧ (E.getD (k + 1) ev0).1 - (E.getD k ev0).1 < d then bat d ((E.take (k + 1)).drop st) (E.drop (k + 1))
      else (if nbE ((E.take (k + 1)).drop st) = [] then [] else [((E.getD k ev0).1 + d, nbE ((E.take (k + 1)).drop st))]) ++ bat d [] (E.drop (k + 1)) := by
  have hs : (E.take (k + 1)).drop st = (E.take k).drop st ++ [E.getD k ev0] := by
    rw [fold_take_snoc E k hk ev0, List.drop_append_of_le_length (by simp; omega)]
  have hd : E.drop k = E.getD k ev0 :: E.drop (k + 1) := by
    rw [List.drop_eq_getElem_cons hk, List.getD_eq_getElem?_getD, List.getElem?_eq_getElem hk]; rfl
  rw [hd, bat, hs]
  have hl : (E.drop (k + 1)).length ≠ 0 ↔ k + 1 < E.length := by simp; omega
  have hh : k + 1 < E.length → (E.drop (k + 1)).headD (0, ByteArray.empty, 0) = E.getD (k + 1) ev0 := by
    intro h
    rw [List.drop_eq_getElem_cons h, List.getD_eq_getElem?_getD, List.getElem?_eq_getElem h]; rfl
  by_cases hc : k + 1 < E.length ∧ (E.getD (k + 1) ev0).1 - (E.getD k ev0).1 < d
  · rw [if_pos hc, if_pos ⟨hl.2 hc.1, by rw [hh hc.1]; exact hc.2⟩]
  · rw [if_neg hc, if_neg]
    rintro ⟨h2, h3⟩
    have h4 := hl.1 h2
    rw [hh h4] at h3
    exact hc ⟨h4, h3⟩
theorem last_sub (E : List FEv) (st k : Nat) (h1 : st ≤ k) (hk : k < E.length) : ((E.take (k + 1)).drop st).getLastD ev0 = E.getD k ev0 := by
  rw [fold_take_snoc E k hk ev0, List.drop_append_of_le_length (by simp; omega)]
  simp
def BatPost (E : List FEv) (d : Int) (w : World) (e : Ending) (w' : World) : Prop :=
  ∃ v, e = .returned (.tuple #[v, .int .i64 0]) ∧ BatO w' w.heap.size v (bat d [] E) ∧ Chg [] w w'
set_option maxRecDepth 100000 in
set_option maxHeartbeats 8000000 in
theorem batches_any (p : Nat → Prop) (w : World) (v : Value) (E : List FEv) (d : Int) (h : EvsP p w v E) (hE : EvOk E) (h0 : 0 ≤ d) (h1 : d ≤ 1000000) :
    Calls Try.prog 9 #[v, .int .i64 d] w (BatPost E d w) := by
  obtain ⟨a, cap, rfl, hml, hcp⟩ := h.shape
  have H := Lib.hid h
  have HE := Lib.hid hE
  have hl := hE.len
  have Hva := Lib.hid (validate_any p w _ E d h hE h0 h1)
  obtain ⟨i0, hi, hz0, hz1, hz2⟩ := info_parts Try.infoBat
  have Hi0 := Lib.hid hi
  have Hz0 := Lib.hid hz0
  have Hz1 := Lib.hid hz1
  have Hz2 := Lib.hid hz2
  unfold maxLen at hml
  clear h hE hi hz0 hz1 hz2
  go_enter Try.func9, Try.ntmps9
  go_wp2_with fail
  refine Hva.out.mono ?_
  rintro e w1 ⟨rfl, hc1⟩
  have Hc1 := Lib.hid hc1
  clear hc1 Hva
  go_wp2_with fail
  go_loopw [19, 7, 8] (fun jj bv sv wr => ∃ (k st : Nat) (acc : List Bt), k ≤ E.length ∧ st ≤ k ∧ jj = .int .i64 (k : Nat) ∧ sv = .int .i64 (st : Nat) ∧ acc.length ≤ k ∧ BatO wr w.heap.size bv acc ∧ Hid (bat d [] E = acc ++ bat d ((E.take k).drop st) (E.drop k)) ∧ Chg [] w wr) (fun jj _ _ _ => E.length - (intOf jj).toNat)
  case atStart => exact ⟨0, 0, [], by omega, by omega, rfl, rfl, by simp, BatO.nil _ _, Lib.hid (by simp), Hc1.out⟩
  case round =>
    obtain ⟨k, st, acc, hk, hst, rfl, rfl, hal, hB, hbat, hc⟩ := hrel
    by_cases hlt : k < E.length
    · have hk1 : (k : Int) < E.length := by omega
      obtain ⟨g, off, rfl, hp, c0, c1, c2⟩ := (H.out.same hc).cells k hlt
      have htm := HE.out.time _ (getD_memE hlt)
      have hba := bat_at d E st k hst hlt
      obtain ⟨t, ht⟩ : ∃ t, (E.getD k ev0).1 = t := ⟨_, rfl⟩
      have hls := last_sub E st k hst hlt
      rw [ht] at c0 htm hba
      by_cases hin : k + 1 < E.length
      · have hd1 : decide ((k : Int) + 1 < E.length) = true := decide_eq_true (by omega)
        obtain ⟨g', off', ha', hp', b0, b1, b2⟩ := (H.out.same hc).cells (k + 1) hin
        simp only [Option.some.injEq, Addr.mk.injEq, and_true] at ha'
        obtain ⟨rfl, rfl⟩ := ha'
        have htm2 := HE.out.time _ (getD_memE hin)
        obtain ⟨t2, ht2⟩ : ∃ t, (E.getD (k + 1) ev0).1 = t := ⟨_, rfl⟩
        rw [ht2] at b0 htm2 hba
        by_cases hd : t2 - t < d
        · have hd2 : decide (t2 - t < d) = true := decide_eq_true hd
          have hw1 : IntKind.i64.wrap (t2 - t) = t2 - t := IntWalk.i64_in _ (by omega)
          have hw2 : wrap64 (t2 - t) = t2 - t := by unfold wrap64; omega
          rw [if_pos ⟨hin, hd⟩] at hba
          have Hend := Lib.hid (And.intro hB (And.intro (hbat.out.trans (by rw [hba])) hc))
          clear hB hbat hba hc ht ht2 hls c1 c2 b1 b2
          go_wp2_with fail
          go_quiet (fail)
          go_wp2_with fail
          exact ⟨⟨k + 1, st, acc, by omega, by omega, by go_num, rfl, by omega, Hend.out.1.same ((Chg.refl [] wr).drewN _), Lib.hid Hend.out.2.1, Hend.out.2.2.drewN _⟩, by simp [intOf]; omega⟩
        · have hd2 : decide (t2 - t < d) = false := decide_eq_false hd
          have hw1 : IntKind.i64.wrap (t2 - t) = t2 - t := IntWalk.i64_in _ (by omega)
          have hw2 : wrap64 (t2 - t) = t2 - t := by unfold wrap64; omega
          rw [if_neg (fun hx => hd hx.2)] at hba
          have Hend := Lib.hid (And.intro hB (And.intro (hbat.out.trans (by rw [hba])) hc))
          have Hls := Lib.hid (And.intro hls ht)
          have hst1 : (st : Int) ≤ (k : Int) + 1 := by omega
          have hst2 : (k : Int) + 1 ≤ cap := by omega
          clear hB hbat hba hc ht ht2 b1 b2 hls c1 c2
          go_wp2_with fail
          go_quiet (fail)
          obtain ⟨wq, hwq⟩ : ∃ x, x = wr.drewN nq := ⟨_, rfl⟩
          have hcq : Chg [] wr wq := by rw [hwq]; exact (Chg.refl [] wr).drewN _
          rw [← hwq]
          have Hc := Lib.hid (Hend.out.2.2.trans hcq)
          have Hcq := Lib.hid hcq
          clear hwq hcq
          go_wp2_with fail
          refine (newBatch_any p wq _ ((E.take (k + 1)).drop st) d ((H.out.same Hc.out).sub st (k + 1) (by omega) (by omega)) (HE.out.sub _ _) (fun hx => by have := congrArg List.length hx; simp at this; omega) h0 h1).mono ?_
          rintro e w2 ⟨v', rfl, hv', hc2⟩
          rw [Hls.out.1, Hls.out.2]
          obtain ⟨N, hN⟩ : ∃ N, nbE ((E.take (k + 1)).drop st) = N := ⟨_, rfl⟩
          have hbt := Hend.out.2.1
          rw [hN] at hv' hbt
          obtain ⟨av, cv, rfl⟩ := ownsRow_shape hv'
          have hNl := hv'.evs.shape
          obtain ⟨_, _, _, hNm, _⟩ := hNl
          obtain ⟨w3, hw3⟩ : ∃ x, x = w2.alloc (.cells #[.int .i64 (t + d), .slice av N.length cv] 31) := ⟨_, rfl⟩
          have hc3 : Chg [] w2 w3 := by rw [hw3]; exact (Chg.refl [] w2).alloc _
          have hb3 : w3.heap[w2.heap.size]? = some (.cells #[.int .i64 (t + d), .slice av N.length cv] 31 (0, 0)) := by rw [hw3]; exact heap_at _ _ _ rfl
          have hvb : w.heap.size ≤ wq.heap.size := Hc.out.size
          have hv3 : OwnEv w3 w.heap.size (.slice av N.length cv) N := ownsRow_base (hv'.same hc3) hvb
          have hB3 := Hend.out.1.same (Hcq.out.trans (hc2.trans hc3))
          have hC3 := Hc.out.trans (hc2.trans hc3)
          by_cases hn : N = []
          · have hn0 : ¬ (0 : Int) < N.length := by rw [hn]; simp
            rw [if_pos hn, List.nil_append] at hbt
            have HN := Lib.hid (And.intro hB3 (And.intro hbt hC3))
            have Hw3 := Lib.hid hw3
            clear hv' hbt hN hNm hc2 hc3 hb3 hvb hv3 hB3 hC3 hw3 hn
            go_wp2_with fail
            rw [← Hw3.out]
            exact ⟨⟨k + 1, k + 1, acc, by omega, by omega, by go_num, by go_num, by omega, HN.out.1, Lib.hid (by rw [show List.drop (k + 1) (List.take (k + 1) E) = [] from List.drop_eq_nil_of_le (by simp; omega)]; exact HN.out.2.1), HN.out.2.2⟩, by simp [intOf]; omega⟩
          · have hn0 : (0 : Int) < N.length := by have := List.length_pos_iff.2 hn; omega
            rw [if_neg hn] at hbt
            obtain ⟨us, u1, u2, u3⟩ := hB3
            have Hu := Lib.hid (And.intro u1 (And.intro u2 u3))
            have Hw3 := Lib.hid hw3
            have HN := Lib.hid (And.intro hv3 (And.intro hbt (And.intro hC3 hb3)))
            have hul : us.length ≤ 1000 := by omega
            have hwb : w.heap.size ≤ w3.heap.size := hC3.size
            clear hv' hbt hN hNm hc2 hc3 hb3 hvb hv3 hC3 hw3 hn u1 u2 u3
            go_upto_region 12 with (fail)
            rw [← Hw3.out]
            have b0 : w3.cell? ⟨w2.heap.size, 0, none⟩ = some (.int .i64 (t + d)) := cell_of_heap HN.out.2.2.2 rfl
            have b1 : w3.cell? ⟨w2.heap.size, 1, none⟩ = some (.slice av N.length cv) := cell_of_heap HN.out.2.2.2 rfl
            go_wp2_with (at_builtin; refine wpList_append_own _ rfl _ _ 26 rfl w.heap.size 31 i0 (.agg #[.int .i64 0, .slice none 0 0]) 2 32 Try.underlying26 Hi0.out Hz0.out Hz1.out Hz2.out rfl (by decide) u7 us.length (batCells us) rfl (Hu.out.2.1.alloc _) ⟨w3.heap.size, 0, none⟩ 1 1 [.int .i64 (t + d), .slice av N.length cv] rfl rfl (news_of (heap_at _ _ _ (by simp))) (by simp [Value.oneCell']) (by unfold maxLen; omega) (by omega) (by simp; omega) ?_; intro v8 w8 hown8 hgr8 _)
            have hap := own_chg (World.ownsRow.alloc Hu.out.2.1 (.cells #[.int .i64 (t + d), .slice av N.length cv] 31)) hgr8
            have hcw : Chg [] w3 (w3.alloc (.cells #[.int .i64 (t + d), .slice av N.length cv] 31)) := (Chg.refl [] w3).alloc _
            have hBn := BatO.snoc (t := t + d) Hu.out.1 (World.ownsRow.alloc Hu.out.2.1 (.cells #[.int .i64 (t + d), .slice av N.length cv] 31)) (fun i u b hu hb => ⟨(Hu.out.2.2 i u b hu hb).1, (Hu.out.2.2 i u b hu hb).2.same hcw⟩) (HN.out.1.same hcw) hown8 hap.1
            have HB := Lib.hid (And.intro hBn ((HN.out.2.2.1.trans hcw).comp hap.1 fun x hx => Or.inr (hap.2 x hx)))
            clear hap hcw hBn hown8 hgr8 b0 b1
            go_wp2_with fail
            exact ⟨⟨k + 1, k + 1, acc ++ [(t + d, N)], by omega, by omega, by go_num, by go_num, by simp; omega, HB.out.1, Lib.hid (by rw [show List.drop (k + 1) (List.take (k + 1) E) = [] from List.drop_eq_nil_of_le (by simp; omega), List.append_assoc]; exact HN.out.2.1), HB.out.2⟩, by simp [intOf]; omega⟩
      · have hd1 : decide ((k : Int) + 1 < E.length) = false := decide_eq_false (by omega)
        rw [if_neg (fun hx => hin hx.1)] at hba
        have Hend := Lib.hid (And.intro hB (And.intro (hbat.out.trans (by rw [hba])) hc))
        have Hls := Lib.hid (And.intro hls ht)
        have hst1 : (st : Int) ≤ (k : Int) + 1 := by omega
        have hst2 : (k : Int) + 1 ≤ cap := by omega
        clear hB hbat hba hc ht hls c1 c2
        go_wp2_with fail
        go_quiet (fail)
        obtain ⟨wq, hwq⟩ : ∃ x, x = wr.drewN nq := ⟨_, rfl⟩
        have hcq : Chg [] wr wq := by rw [hwq]; exact (Chg.refl [] wr).drewN _
        rw [← hwq]
        have Hc := Lib.hid (Hend.out.2.2.trans hcq)
        have Hcq := Lib.hid hcq
        clear hwq hcq
        go_wp2_with fail
        refine (newBatch_any p wq _ ((E.take (k + 1)).drop st) d ((H.out.same Hc.out).sub st (k + 1) (by omega) (by omega)) (HE.out.sub _ _) (fun hx => by have := congrArg List.length hx; simp at this; omega) h0 h1).mono ?_
        rintro e w2 ⟨v', rfl, hv', hc2⟩
        rw [Hls.out.1, Hls.out.2]
        obtain ⟨N, hN⟩ : ∃ N, nbE ((E.take (k + 1)).drop st) = N := ⟨_, rfl⟩
        have hbt := Hend.out.2.1
        rw [hN] at hv' hbt
        obtain ⟨av, cv, rfl⟩ := ownsRow_shape hv'
        have hNl := hv'.evs.shape
        obtain ⟨_, _, _, hNm, _⟩ := hNl
        obtain ⟨w3, hw3⟩ : ∃ x, x = w2.alloc (.cells #[.int .i64 (t + d), .slice av N.length cv] 31) := ⟨_, rfl⟩
        have hc3 : Chg [] w2 w3 := by rw [hw3]; exact (Chg.refl [] w2).alloc _
        have hb3 : w3.heap[w2.heap.size]? = some (.cells #[.int .i64 (t + d), .slice av N.length cv] 31 (0, 0)) := by rw [hw3]; exact heap_at _ _ _ rfl
        have hvb : w.heap.size ≤ wq.heap.size := Hc.out.size
        have hv3 : OwnEv w3 w.heap.size (.slice av N.length cv) N := ownsRow_base (hv'.same hc3) hvb
        have hB3 := Hend.out.1.same (Hcq.out.trans (hc2.trans hc3))
        have hC3 := Hc.out.trans (hc2.trans hc3)
        by_cases hn : N = []
        · have hn0 : ¬ (0 : Int) < N.length := by rw [hn]; simp
          rw [if_pos hn, List.nil_append] at hbt
          have HN := Lib.hid (And.intro hB3 (And.intro hbt hC3))
          have Hw3 := Lib.hid hw3
          clear hv' hbt hN hNm hc2 hc3 hb3 hvb hv3 hB3 hC3 hw3 hn
          go_wp2_with fail
          rw [← Hw3.out]
          exact ⟨⟨k + 1, k + 1, acc, by omega, by omega, by go_num, by go_num, by omega, HN.out.1, Lib.hid (by rw [show List.drop (k + 1) (List.take (k + 1) E) = [] from List.drop_eq_nil_of_le (by simp; omega)]; exact HN.out.2.1), HN.out.2.2⟩, by simp [intOf]; omega⟩
        · have hn0 : (0 : Int) < N.length := by have := List.length_pos_iff.2 hn; omega
          rw [if_neg hn] at hbt
          obtain ⟨us, u1, u2, u3⟩ := hB3
          have Hu := Lib.hid (And.intro u1 (And.intro u2 u3))
          have Hw3 := Lib.hid hw3
          have HN := Lib.hid (And.intro hv3 (And.intro hbt (And.intro hC3 hb3)))
          have hul : us.length ≤ 1000 := by omega
          have hwb : w.heap.size ≤ w3.heap.size := hC3.size
          clear hv' hbt hN hNm hc2 hc3 hb3 hvb hv3 hC3 hw3 hn u1 u2 u3
          go_upto_region 12 with (fail)
          rw [← Hw3.out]
          have b0 : w3.cell? ⟨w2.heap.size, 0, none⟩ = some (.int .i64 (t + d)) := cell_of_heap HN.out.2.2.2 rfl
          have b1 : w3.cell? ⟨w2.heap.size, 1, none⟩ = some (.slice av N.length cv) := cell_of_heap HN.out.2.2.2 rfl
          go_wp2_with (at_builtin; refine wpList_append_own _ rfl _ _ 26 rfl w.heap.size 31 i0 (.agg #[.int .i64 0, .slice none 0 0]) 2 32 Try.underlying26 Hi0.out Hz0.out Hz1.out Hz2.out rfl (by decide) u7 us.length (batCells us) rfl (Hu.out.2.1.alloc _) ⟨w3.heap.size, 0, none⟩ 1 1 [.int .i64 (t + d), .slice av N.length cv] rfl rfl (news_of (heap_at _ _ _ (by simp))) (by simp [Value.oneCell']) (by unfold maxLen; omega) (by omega) (by simp; omega) ?_; intro v8 w8 hown8 hgr8 _)
          have hap := own_chg (World.ownsRow.alloc Hu.out.2.1 (.cells #[.int .i64 (t + d), .slice av N.length cv] 31)) hgr8
          have hcw : Chg [] w3 (w3.alloc (.cells #[.int .i64 (t + d), .slice av N.length cv] 31)) := (Chg.refl [] w3).alloc _
          have hBn := BatO.snoc (t := t + d) Hu.out.1 (World.ownsRow.alloc Hu.out.2.1 (.cells #[.int .i64 (t + d), .slice av N.length cv] 31)) (fun i u b hu hb => ⟨(Hu.out.2.2 i u b hu hb).1, (Hu.out.2.2 i u b hu hb).2.same hcw⟩) (HN.out.1.same hcw) hown8 hap.1
          have HB := Lib.hid (And.intro hBn ((HN.out.2.2.1.trans hcw).comp hap.1 fun x hx => Or.inr (hap.2 x hx)))
          clear hap hcw hBn hown8 hgr8 b0 b1
          go_wp2_with fail
          exact ⟨⟨k + 1, k + 1, acc ++ [(t + d, N)], by omega, by omega, by go_num, by go_num, by simp; omega, HB.out.1, Lib.hid (by rw [show List.drop (k + 1) (List.take (k + 1) E) = [] from List.drop_eq_nil_of_le (by simp; omega), List.append_assoc]; exact HN.out.2.1), HB.out.2⟩, by simp [intOf]; omega⟩
    · obtain rfl : k = E.length := by omega
      have hk1 : ¬ ((E.length : Int) < E.length) := by omega
      have hbt := hbat.out
      rw [List.drop_length, bat, List.append_nil] at hbt
      have HN := Lib.hid (And.intro hB (And.intro hbt hc))
      clear hB hbat hc hbt
      go_wp2_with fail
      go_ret2
      exact ⟨_, rfl, by rw [HN.out.2.1]; exact HN.out.1, HN.out.2.2⟩
end Go.Proofs.Ytdekngkcojfhmaa
