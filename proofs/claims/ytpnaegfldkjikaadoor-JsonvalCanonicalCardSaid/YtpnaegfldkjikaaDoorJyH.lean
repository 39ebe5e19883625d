/- JSON texts, any text: a value (printed by wip/gen_valuea.py). -/
import Derived.Test.YtpnaegfldkjikaaDoorJyG
namespace Go.Proofs.YtpnaegfldkjikaaDoor.Jv
open Go.RowKit Go.ChangeMaps Go.MapKept
set_option linter.unusedVariables false
set_option linter.unusedSimpArgs false
theorem accept_t (db : Nat) (s : ByteArray) (o : Nat) (tok : ByteArray) (w : World) (h : DS w db s o) (ho : o ≤ s.size) (hs : s.size ≤ 100000) (ht : tok.size ≤ 100) :
    Calls Tryd.prog 37 #[.pointer (some ⟨db, 0, none⟩), .string tok] w fun e w' => ∃ p : Bool, e = .returned (.bool p) ∧ (p = true → o + tok.size ≤ s.size) ∧ DS w' db s (if p = true then o + tok.size else o) ∧ Chg [db] w w' := by
  refine (accept_any db s tok o w h ho hs ht).mono ?_
  rintro e w' ⟨rfl, h1, h2⟩
  refine ⟨_, rfl, fun hp => ?_, h1, h2⟩
  have h3 := Lib.hasPrefix_le hp
  rw [List.length_drop] at h3
  have h4 : tok.data.toList.length = tok.size := rfl
  have h5 : s.data.toList.length = s.size := rfl
  by_cases h6 : tok.size = 0
  · omega
  · omega
set_option maxRecDepth 100000 in
set_option maxHeartbeats 16000000 in
theorem value_step (db f : Nat) (s : ByteArray) (hs : s.size ≤ 80000) (hV : VAny db s f) (w : World) (o : Nat) (h : DS w db s o) (ho : o ≤ s.size) (hf : s.size < o + (f + 1)) (hE : DE db w) :
    Calls Tryd.prog 25 #[.pointer (some ⟨db, 0, none⟩)] w (ValA db s o (f + 1) w) := by
  have hs1 : s.size ≤ 100000 := by omega
  obtain ⟨b, hb⟩ : ∃ b, b = w.heap.size := ⟨_, rfl⟩
  obtain ⟨w1, hw1⟩ : ∃ x, x = w.alloc (.cells #[.int .i64 0, .int .i64 0, .string ⟨#[]⟩, .slice none 0 0, .slice none 0 0] 25) := ⟨_, rfl⟩
  have hc1 : Chg [] w w1 := by rw [hw1]; exact (Chg.refl [] w).alloc _
  have hdb := lt_of_obj h
  have H1 : Hid (VS db b o s w w1) := Lib.hid ⟨h.new hc1, by rw [hw1, hb]; exact heap_at _ _ _ rfl, hc1.mono (by simp), hb, by omega⟩
  have HE0 := Lib.hid hE
  have Ho := Lib.hid ho
  have Hf0 := Lib.hid hf
  clear h hc1 hdb hE ho hf
  go_enter Tryd.func25, Tryd.ntmps25
  go_upto_region 1 with fail
  rw [← hw1, ← hb]
  clear hw1 hb
  go_wp2_with fail
  refine (skip_any db s o w1 H1.out.ds Ho.out hs1).mono ?_
  rintro e w2 ⟨rfl, o2, hx1, hx2, hd2, _, hc2⟩
  have H2 := Lib.hid (H1.out.db hc2 hd2)
  have Ho2 := Lib.hid (And.intro hx1 hx2)
  clear hd2 hc2 hx1 hx2
  go_wp2_with fail
  refine (accept_t db s o2 ⟨#[110, 117, 108, 108]⟩ w2 H2.out.ds Ho2.out.2 hs1 (by decide)).mono ?_
  rintro e v1 ⟨p, rfl, hpx, hdx, hcx⟩
  have V1 := Lib.hid (H2.out.db hcx hdx)
  have V1p := Lib.hid hpx
  clear hdx hcx hpx
  cases p with
  | true =>
    rw [if_pos rfl] at V1
    obtain ⟨r0, r1, r2, r3, r4⟩ := box_kept b V1.out.res (Chg.refl [] v1)
    have fr := fun i => frozen_of_heap (i := i) V1.out.res
    have lr := lt_of_cell r0
    go_wp2_with fail
    refine bodyPost_ret (v := Ev.val ⟨0, 0, ⟨#[]⟩, none, 0, 0, none, 0, 0⟩) (by unfold Ev.val; simp [results, Tryd.results25, go_sem, r0, r1, r2, r3, r4]) rfl ?_
    have hD := V1.out.done (f := f + 1) (e := ⟨0, 0, ⟨#[]⟩, none, 0, 0, none, 0, 0⟩) (JN.leaf (by decide))
    exact Or.inr ⟨_, J.zero, (o2 + 4), rfl, hD.1, (by have h1 := Ho2.out.1; have h2 : (J.zero : J).enc.length = 4 := rfl; omega), (V1p.out (by simp)), hD.2.1, hD.2.2⟩
  | false =>
    rw [if_neg (by decide)] at V1
    go_wp2_with fail
    refine (accept_t db s o2 ⟨#[116, 114, 117, 101]⟩ v1 V1.out.ds Ho2.out.2 hs1 (by decide)).mono ?_
    rintro e v2 ⟨p, rfl, hpx, hdx, hcx⟩
    have V2 := Lib.hid (V1.out.db hcx hdx)
    have V2p := Lib.hid hpx
    clear hdx hcx hpx
    cases p with
    | true =>
      rw [if_pos rfl] at V2
      obtain ⟨r0, r1, r2, r3, r4⟩ := box_kept b V2.out.res (Chg.refl [] v2)
      have fr := fun i => frozen_of_heap (i := i) V2.out.res
      have lr := lt_of_cell r0
      go_wp2_with fail
      refine bodyPost_ret (v := Ev.val ⟨1, 1, ⟨#[]⟩, none, 0, 0, none, 0, 0⟩) (by unfold Ev.val; simp [results, Tryd.results25, go_sem, r0, r1, r2, r3, r4]) rfl ?_
      have hD := V2.out.done (f := f + 1) (e := ⟨1, 1, ⟨#[]⟩, none, 0, 0, none, 0, 0⟩) (JN.leaf (by decide))
      exact Or.inr ⟨_, (.mk 1 1 ⟨#[]⟩ [] []), (o2 + 4), rfl, hD.1, (by have h1 := Ho2.out.1; have h2 : ((.mk 1 1 ⟨#[]⟩ [] []) : J).enc.length = 4 := rfl; omega), (V2p.out (by simp)), hD.2.1, hD.2.2⟩
    | false =>
      rw [if_neg (by decide)] at V2
      go_wp2_with fail
      refine (accept_t db s o2 ⟨#[102, 97, 108, 115, 101]⟩ v2 V2.out.ds Ho2.out.2 hs1 (by decide)).mono ?_
      rintro e v3 ⟨p, rfl, hpx, hdx, hcx⟩
      have V3 := Lib.hid (V2.out.db hcx hdx)
      have V3p := Lib.hid hpx
      clear hdx hcx hpx
      cases p with
      | true =>
        rw [if_pos rfl] at V3
        obtain ⟨r0, r1, r2, r3, r4⟩ := box_kept b V3.out.res (Chg.refl [] v3)
        have fr := fun i => frozen_of_heap (i := i) V3.out.res
        have lr := lt_of_cell r0
        go_wp2_with fail
        refine bodyPost_ret (v := Ev.val ⟨1, 0, ⟨#[]⟩, none, 0, 0, none, 0, 0⟩) (by unfold Ev.val; simp [results, Tryd.results25, go_sem, r0, r1, r2, r3, r4]) rfl ?_
        have hD := V3.out.done (f := f + 1) (e := ⟨1, 0, ⟨#[]⟩, none, 0, 0, none, 0, 0⟩) (JN.leaf (by decide))
        exact Or.inr ⟨_, (.mk 1 0 ⟨#[]⟩ [] []), (o2 + 5), rfl, hD.1, (by have h1 := Ho2.out.1; have h2 : ((.mk 1 0 ⟨#[]⟩ [] []) : J).enc.length = 5 := rfl; omega), (V3p.out (by simp)), hD.2.1, hD.2.2⟩
      | false =>
        rw [if_neg (by decide)] at V3
        go_wp2_with fail
        refine (peek_any db s o2 v3 V3.out.ds hs1).mono ?_
        rintro e vp ⟨rfl, hcp⟩
        have Vp := Lib.hid (V3.out.db (hcp.mono (by simp)) (V3.out.ds.new hcp))
        clear hcp
        generalize peekL (s.data.toList.drop o2) = x
        by_cases hx : x = 34
        · subst hx
          go_wp2_with fail
          refine (text_any db s o2 vp Vp.out.ds hs1 Ho2.out.2 (HE0.out.db Vp.out.chg)).mono ?_
          rintro e wy (⟨rfl, hcx⟩ | ⟨t, q, rfl, hu, hq, hqs, hdx, hcx⟩)
          · have Hc := Lib.hid (Vp.out.chg.trans hcx)
            clear hcx
            go_wp2_with fail
            exact ⟨rfl, Or.inl ⟨rfl, Hc.out⟩⟩
          have Hy := Lib.hid (Vp.out.db hcx hdx)
          have Hq := Lib.hid (And.intro hq hqs)
          have Hts : Hid (t.size ≤ maxLen) := Lib.hid (by have h1 := encS_len t; unfold maxLen; omega)
          clear hdx hcx hq hqs hu
          obtain ⟨r0, r1, r2, r3, r4⟩ := box_kept b Hy.out.res (Chg.refl [] wy)
          have fr := fun i => frozen_of_heap (i := i) Hy.out.res
          have lr := lt_of_cell r0
          go_wp2_with fail
          refine bodyPost_ret (v := Ev.val ⟨3, 0, t, none, 0, 0, none, 0, 0⟩) (by unfold Ev.val; simp [results, Tryd.results25, go_sem, r0, r1, r2, r3, r4]) rfl ?_
          have hD := Hy.out.done (f := f + 1) (e := ⟨3, 0, t, none, 0, 0, none, 0, 0⟩) (JN.leaf Hts.out)
          exact Or.inr ⟨_, (.mk 3 0 t [] []), q, rfl, hD.1, (by have h1 := Ho2.out.1; have h2 := Hq.out.1; have h3 : (J.mk 3 0 t [] []).enc = encS t := rfl; rw [h3]; omega), Hq.out.2, hD.2.1, hD.2.2⟩
        · have hx1 : ((x : Int) == 34) = false := by simp; omega
          have hx2 : (x == 34) = false := by simp; omega
          clear hx
          go_wp2_with fail
          refine (accept_t db s o2 ⟨#[91]⟩ vp Vp.out.ds Ho2.out.2 hs1 (by decide)).mono ?_
          rintro e va ⟨p, rfl, hpx, hdx, hcx⟩
          have Va := Lib.hid (Vp.out.db hcx hdx)
          have Vap := Lib.hid hpx
          clear hdx hcx hpx
          cases p with
          | true =>
            rw [if_pos rfl] at Va
            go_wp2_with fail
            refine (elements_any db f s hs 4 93 (by decide) hV va (o2 + 1) Va.out.ds (Vap.out (by simp)) (by have h1 := Hf0.out; have h2 := Ho2.out.1; omega) (HE0.out.db Va.out.chg)).mono ?_
            rintro e wy (⟨rfl, hcx⟩ | ⟨v', ns, es, q, rfl, hv, hq, hqs, hdx, hcx⟩)
            · have Hc := Lib.hid (Va.out.chg.trans hcx)
              clear hcx
              go_wp2_with fail
              exact ⟨rfl, Or.inl ⟨rfl, Hc.out⟩⟩
            obtain ⟨ev, rfl⟩ := hv.ev'
            have Hy := Lib.hid (Va.out.db hcx hdx)
            have Hv := Lib.hid (hv.base (B' := b + 1) (lt_of_obj Va.out.res))
            have Hq := Lib.hid (And.intro hq hqs)
            clear hv hdx hcx hq hqs
            unfold Ev.val
            obtain ⟨r0, r1, r2, r3, r4⟩ := box_kept b Hy.out.res (Chg.refl [] wy)
            have fr := fun i => frozen_of_heap (i := i) Hy.out.res
            have lr := lt_of_cell r0
            go_wp2_with fail
            refine bodyPost_ret (v := Ev.val ev) (by unfold Ev.val; simp [results, Tryd.results25, go_sem, r0, r1, r2, r3, r4]) rfl ?_
            have hD := Hy.out.done (f := f + 1) (e := ev) Hv.out
            exact Or.inr ⟨_, (.mk 4 0 ⟨#[]⟩ ns es), q, rfl, hD.1, (by have h1 := Ho2.out.1; have h2 := Hq.out.1; have h3 : (J.mk 4 0 ⟨#[]⟩ ns es).enc = 91 :: (encL 4 0 ns es ++ [93]) := rfl; rw [h3]; simp; omega), Hq.out.2, hD.2.1, hD.2.2⟩
          | false =>
            rw [if_neg (by decide)] at Va
            go_wp2_with fail
            refine (accept_t db s o2 ⟨#[123]⟩ va Va.out.ds Ho2.out.2 hs1 (by decide)).mono ?_
            rintro e vb ⟨p, rfl, hpx, hdx, hcx⟩
            have Vb := Lib.hid (Va.out.db hcx hdx)
            have Vbp := Lib.hid hpx
            clear hdx hcx hpx
            cases p with
            | true =>
              rw [if_pos rfl] at Vb
              go_wp2_with fail
              refine (elements_any db f s hs 5 125 (by decide) hV vb (o2 + 1) Vb.out.ds (Vbp.out (by simp)) (by have h1 := Hf0.out; have h2 := Ho2.out.1; omega) (HE0.out.db Vb.out.chg)).mono ?_
              rintro e wy (⟨rfl, hcx⟩ | ⟨v', ns, es, q, rfl, hv, hq, hqs, hdx, hcx⟩)
              · have Hc := Lib.hid (Vb.out.chg.trans hcx)
                clear hcx
                go_wp2_with fail
                exact ⟨rfl, Or.inl ⟨rfl, Hc.out⟩⟩
              obtain ⟨ev, rfl⟩ := hv.ev'
              have Hy := Lib.hid (Vb.out.db hcx hdx)
              have Hv := Lib.hid (hv.base (B' := b + 1) (lt_of_obj Vb.out.res))
              have Hq := Lib.hid (And.intro hq hqs)
              clear hv hdx hcx hq hqs
              unfold Ev.val
              obtain ⟨r0, r1, r2, r3, r4⟩ := box_kept b Hy.out.res (Chg.refl [] wy)
              have fr := fun i => frozen_of_heap (i := i) Hy.out.res
              have lr := lt_of_cell r0
              go_wp2_with fail
              refine bodyPost_ret (v := Ev.val ev) (by unfold Ev.val; simp [results, Tryd.results25, go_sem, r0, r1, r2, r3, r4]) rfl ?_
              have hD := Hy.out.done (f := f + 1) (e := ev) Hv.out
              exact Or.inr ⟨_, (.mk 5 0 ⟨#[]⟩ ns es), q, rfl, hD.1, (by have h1 := Ho2.out.1; have h2 := Hq.out.1; have h3 : (J.mk 5 0 ⟨#[]⟩ ns es).enc = 123 :: (encL 5 0 ns es ++ [125]) := rfl; rw [h3]; simp; omega), Hq.out.2, hD.2.1, hD.2.2⟩
            | false =>
              rw [if_neg (by decide)] at Vb
              go_wp2_with fail
              refine (number_any db s o2 vb Vb.out.ds hs1 Ho2.out.2 (HE0.out.db Vb.out.chg)).mono ?_
              rintro e wy (⟨rfl, hcx⟩ | ⟨n, q, rfl, hn0, hn1, hq, hqs, hdx, hcx⟩)
              · have Hc := Lib.hid (Vb.out.chg.trans hcx)
                clear hcx
                go_wp2_with fail
                exact ⟨rfl, Or.inl ⟨rfl, Hc.out⟩⟩
              have Hy := Lib.hid (Vb.out.db hcx hdx)
              have Hq := Lib.hid (And.intro hq hqs)
              clear hdx hcx hq hqs hn0 hn1
              obtain ⟨r0, r1, r2, r3, r4⟩ := box_kept b Hy.out.res (Chg.refl [] wy)
              have fr := fun i => frozen_of_heap (i := i) Hy.out.res
              have lr := lt_of_cell r0
              go_wp2_with fail
              refine bodyPost_ret (v := Ev.val ⟨2, n, ⟨#[]⟩, none, 0, 0, none, 0, 0⟩) (by unfold Ev.val; simp [results, Tryd.results25, go_sem, r0, r1, r2, r3, r4]) rfl ?_
              have hD := Hy.out.done (f := f + 1) (e := ⟨2, n, ⟨#[]⟩, none, 0, 0, none, 0, 0⟩) (JN.leaf (by decide))
              exact Or.inr ⟨_, (.mk 2 n ⟨#[]⟩ [] []), q, rfl, hD.1, (by have h1 := Ho2.out.1; have h2 := Hq.out.1; have h3 : (J.mk 2 n ⟨#[]⟩ [] []).enc = Lib.itoa n := rfl; rw [h3]; omega), Hq.out.2, hD.2.1, hD.2.2⟩
/-- value, on any text -/
theorem value_any (db : Nat) (s : ByteArray) (hs : s.size ≤ 80000) : ∀ f, VAny db s f
  | 0 => fun w o h ho hf hE => absurd hf (by omega)
  | f + 1 => fun w o h ho hf hE => value_step db f s hs (value_any db s hs f) w o h ho hf hE
#print axioms value_any
end Go.Proofs.YtpnaegfldkjikaaDoor.Jv
