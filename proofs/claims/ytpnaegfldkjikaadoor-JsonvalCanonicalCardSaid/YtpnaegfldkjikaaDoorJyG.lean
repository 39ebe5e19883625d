/- JSON texts, any text: elements (printed by wip/gen_elemsa.py). -/
import Derived.Test.YtpnaegfldkjikaaDoorJyF
import Derived.Test.YtpnaegfldkjikaaDoorJwC
namespace Go.Proofs.YtpnaegfldkjikaaDoor.Jv
open Go.RowKit Go.ChangeMaps Go.MapKept
set_option linter.unusedVariables false
set_option linter.unusedSimpArgs false
theorem accept_b (db : Nat) (s : ByteArray) (o : Nat) (t : UInt8) (w : World) (h : DS w db s o) (ho : o ≤ s.size) (hs : s.size ≤ 80000) :
    Calls Tryd.prog 37 #[.pointer (some ⟨db, 0, none⟩), .string ⟨#[t]⟩] w fun e w' => ∃ p : Bool, e = .returned (.bool p) ∧ (p = true → o + 1 ≤ s.size) ∧ DS w' db s (if p = true then o + 1 else o) ∧ Chg [db] w w' := by
  refine (accept_any db s ⟨#[t]⟩ o w h ho (by omega) (by show 1 ≤ 100; decide)).mono ?_
  rintro e w' ⟨rfl, h1, h2⟩
  refine ⟨_, rfl, fun hp => ?_, h1, h2⟩
  have h3 := Lib.hasPrefix_le hp
  rw [List.length_drop] at h3
  have h4 : (ByteArray.mk #[t]).data.toList.length = 1 := rfl
  have h5 : s.data.toList.length = s.size := rfl
  omega
theorem encL_len1 (kd : Int) (ns : List ByteArray) (e : J) : ∀ (xs : List J) (i : Nat), (encL kd i ns (xs ++ [e])).length = (encL kd i ns xs).length + (if 0 < i + xs.length then 1 else 0) + (nmL kd ns (i + xs.length)).length + e.enc.length
  | [], i => by
    rw [List.nil_append, encL, encL, encL]
    unfold nmL
    by_cases h : 0 < i
    · simp [h]
      omega
    · simp [h]
  | x :: xs, i => by
    rw [List.cons_append, encL, encL]
    simp only [List.length_append]
    rw [encL_len1 kd ns e xs (i + 1), List.length_cons, show i + 1 + xs.length = i + (xs.length + 1) by omega]
    omega
theorem encL_nms (kd : Int) (ns : List ByteArray) (t : ByteArray) : ∀ (xs : List J) (i : Nat), i + xs.length ≤ ns.length → encL kd i (ns ++ [t]) xs = encL kd i ns xs
  | [], i, _ => by rw [encL, encL]
  | x :: xs, i, h => by
    rw [List.length_cons] at h
    rw [encL, encL, encL_nms kd ns t xs (i + 1) (by omega)]
    rw [List.getD_eq_getElem?_getD, List.getD_eq_getElem?_getD, List.getElem?_append_left (by omega)]
/-- one name, one element more -/
theorem encL_more (ns : List ByteArray) (t : ByteArray) (xs : List J) (e : J) (h : ns.length = xs.length) : (encL 5 0 (ns ++ [t]) (xs ++ [e])).length = (encL 5 0 ns xs).length + (if 0 < xs.length then 1 else 0) + ((encS t).length + 1) + e.enc.length := by
  rw [encL_len1, encL_nms _ _ _ _ _ (by omega), Nat.zero_add]
  have : nmL 5 (ns ++ [t]) xs.length = encS t ++ [58] := by
    unfold nmL
    rw [if_pos rfl, List.getD_eq_getElem?_getD, List.getElem?_append_right (by omega), h]
    simp
  rw [this, List.length_append]
  rfl
theorem encL_more4 (xs : List J) (e : J) : (encL 4 0 [] (xs ++ [e])).length = (encL 4 0 [] xs).length + (if 0 < xs.length then 1 else 0) + e.enc.length := by
  rw [encL_len1, Nat.zero_add]
  rfl
/-- what value() does, on any text -/
def ValA (db : Nat) (s : ByteArray) (o f : Nat) (w : World) (e : Ending) (w' : World) : Prop :=
  (e = .panicked sx ∧ Chg [db] w w') ∨ ∃ v' j q, e = .returned v' ∧ JN w.heap.size f w' v' j ∧ o + j.enc.length ≤ q ∧ q ≤ s.size ∧ DS w' db s q ∧ Chg [db] w w'
def VAny (db : Nat) (s : ByteArray) (f : Nat) : Prop := ∀ (w : World) (o : Nat), DS w db s o → o ≤ s.size → s.size < o + f → DE db w → Calls Tryd.prog 25 #[.pointer (some ⟨db, 0, none⟩)] w (ValA db s o f w)
/-- what elements() does, on any text -/
def ElA (db : Nat) (s : ByteArray) (o f : Nat) (kd : Int) (w : World) (e : Ending) (w' : World) : Prop :=
  (e = .panicked sx ∧ Chg [db] w w') ∨ ∃ v' ns es q, e = .returned v' ∧ JN w.heap.size (f + 1) w' v' (.mk kd 0 ⟨#[]⟩ ns es) ∧ o + (encL kd 0 ns es).length + 1 ≤ q ∧ q ≤ s.size ∧ DS w' db s q ∧ Chg [db] w w'
set_option maxRecDepth 100000 in
set_option maxHeartbeats 16000000 in
theorem elements_any (db f : Nat) (s : ByteArray) (hs8 : s.size ≤ 80000) (kd : Int) (cl : UInt8) (hk : kd = 4 ∨ kd = 5) (hV : VAny db s f) (w : World) (o : Nat) (h : DS w db s o) (ho : o ≤ s.size) (hf : s.size < o + f) (hE : DE db w) :
    Calls Tryd.prog 40 #[.pointer (some ⟨db, 0, none⟩), .int .i64 kd, .string ⟨#[cl]⟩] w (ElA db s o f kd w) := by
  have hs : s.size ≤ 80000 := hs8
  have hs1 : s.size ≤ 100000 := by omega
  obtain ⟨b, hb⟩ : ∃ b, b = w.heap.size := ⟨_, rfl⟩
  obtain ⟨w2, hw2⟩ : ∃ x, x = (w.alloc (.cells #[.int .i64 0, .int .i64 0, .string ⟨#[]⟩, .slice none 0 0, .slice none 0 0] 25)).alloc (.cells #[.int .i64 kd, .int .i64 0, .string ⟨#[]⟩, .slice none 0 0, .slice none 0 0] 25) := ⟨_, rfl⟩
  have hc2 : Chg [] w w2 := by rw [hw2]; exact ((Chg.refl [] w).alloc _).alloc _
  have hdb := lt_of_obj h
  have H2 : Hid (EL db b f o s kd (.slice none 0 0) (.slice none 0 0) [] [] w w2) := Lib.hid ⟨h.new hc2, by
    rw [hw2, hb, heap_past _ _ _ (by simp)]
    exact heap_at _ _ _ rfl, by rw [hw2, hb]; exact heap_at _ _ _ (by simp), OwnN.nil _ _, JRowN.nil _ _ _ _, hc2.mono (by simp), hb, by rw [hb]; exact hdb⟩
  have HE0 := Lib.hid hE
  have Hk := Lib.hid hk
  have Ho := Lib.hid ho
  have Hf0 := Lib.hid hf
  have He := Lib.hid (fun W => expect_any db true W)
  have Hf := Lib.hid (fun W => expect_any db false W)
  clear h hc2 hE hk ho hdb hf
  go_enter Tryd.func40, Tryd.ntmps40
  go_upto_region 2 with fail
  rw [← hw2, ← hb]
  clear hw2 hb
  go_wp2_with fail
  refine (skip_any db s o w2 H2.out.ds Ho.out hs1).mono ?_
  rintro e w3 ⟨rfl, q3, hx1, hx2, hdx, _, hcx⟩
  have H3 := Lib.hid (H2.out.db hcx hdx)
  have H3q := Lib.hid (And.intro hx1 hx2)
  clear hdx hcx hx1 hx2
  go_wp2_with fail
  refine (accept_b db s q3 cl w3 H3.out.ds H3q.out.2 hs).mono ?_
  rintro e w4 ⟨p, rfl, hpx, hdx, hcx⟩
  have H4 := Lib.hid (H3.out.db hcx hdx)
  have H4p := Lib.hid hpx
  clear hdx hcx hpx
  cases p with
  | true =>
    rw [if_pos rfl] at H4
    obtain ⟨b0, b1, b2, b3, b4⟩ := box_kept (b + 1) H4.out.box (Chg.refl [] w4)
    obtain ⟨r0, r1, r2, r3, r4⟩ := box_kept b H4.out.res (Chg.refl [] w4)
    have fr := fun i => frozen_of_heap (i := i) H4.out.res
    have lr := lt_of_cell r0
    go_wp2_with fail
    refine bodyPost_ret (v := .agg #[.int .i64 kd, .int .i64 0, .string ⟨#[]⟩, .slice none 0 0, .slice none 0 0]) (by simp [results, Tryd.results40, go_sem, r0, r1, r2, r3, r4]) rfl ?_
    have hD := H4.out.done
    exact Or.inr ⟨_, [], [], q3 + 1, rfl, hD.1, by have := H3q.out.1; rw [encL]; simp; omega, H4p.out (by simp), hD.2.1, hD.2.2⟩
  | false =>
    rw [if_neg (by decide)] at H4
    go_wp2_with fail
    go_loopw [] (fun wr => ∃ (q : Nat) (na : Option Addr) (nl nc : Nat) (ia : Option Addr) (il ic : Nat) (ns : List ByteArray) (xs : List J), Hid (EL db b f q s kd (.slice na nl nc) (.slice ia il ic) ns xs w wr) ∧ Hid (q ≤ s.size ∧ xs.length ≤ q ∧ (kd = 5 → ns.length = xs.length) ∧ (kd = 4 → ns = []) ∧ o + (encL kd 0 ns xs).length + (if 0 < xs.length then 1 else 0) ≤ q)) (fun wr => s.size - offW wr db)
    case atStart => exact ⟨q3, none, 0, 0, none, 0, 0, [], [], H4, Lib.hid ⟨H3q.out.2, by simp, fun _ => rfl, fun _ => rfl, by rw [encL]; simp; exact H3q.out.1⟩⟩
    case round =>
      obtain ⟨q, na, nl, nc, ia, il, ic, ns, xs, HR, HQ⟩ := hrel
      go_wp2_with fail
      refine (skip_any db s q wr HR.out.ds HQ.out.1 hs1).mono ?_
      rintro e w5 ⟨rfl, q5, hx1, hx2, hdx, _, hcx⟩
      have H5 := Lib.hid (HR.out.db hcx hdx)
      have H5q := Lib.hid (And.intro hx1 hx2)
      clear hdx hcx hx1 hx2
      rcases Hk.out with rfl | rfl
      · have Hns : Hid (ns = []) := Lib.hid (HQ.out.2.2.2.1 rfl)
        have HQ2 : Hid (o ≤ q5 ∧ q5 ≤ s.size ∧ xs.length ≤ q5 ∧ ∀ j : J, o + (encL 4 0 ns (xs ++ [j])).length ≤ q5 + j.enc.length) := Lib.hid ⟨by have := HQ.out.2.2.2.2; have := H5q.out.1; omega, H5q.out.2, by have := HQ.out.2.1; have := H5q.out.1; omega, fun j => by
          have h1 := HQ.out.2.2.2.2
          have h2 := H5q.out.1
          rw [Hns.out] at h1 ⊢
          rw [encL_more4]
          omega⟩
        have HQQ : Hid (q ≤ q5) := Lib.hid H5q.out.1
        go_upto_region 10 with fail
        refine wp_region_U (fun w' => w'.cell? ⟨b + 1, 4, none⟩ = some (.slice ia il ic)) (fun _ => True) 7 (by kernel_rfl) ?_
        intro wd hwd
        have hcd : Chg [] w5 wd := by rw [hwd]; exact (Chg.refl _ _).drew
        have Hcd := Lib.hid hcd
        have Hd := Lib.hid (H5.out.db (hcd.mono (by simp)) (H5.out.ds.new hcd))
        have hSW := cell_of_heap Hd.out.box (i := 4) rfl
        clear hwd hcd
        refine anyU_pure (i := 0) (v := .pointer (some ⟨b + 1, 4, none⟩)) rfl (by kernel_rfl) (fun _ _ _ h => h) (Or.inl ⟨by rfl, fun w' hS => by go_simp⟩) (fun _ => hSW) trivial ?_
        simp only [Act.put, List.setIfInBounds_toArray, List.set_cons_zero, List.set_cons_succ]
        refine anyU_take (i := 1) (v := .slice ia il ic) rfl (by kernel_rfl) (fun _ _ _ h => h) (Or.inl ⟨by rfl, fun w' hS => by go_simp⟩) hSW trivial ?_
        simp only [Act.put, List.setIfInBounds_toArray, List.set_cons_zero, List.set_cons_succ]
        refine anyU_pure (i := 2) (v := .pointer (some ⟨db, 0, none⟩)) rfl (by kernel_rfl) (fun _ _ _ h => h) (Or.inl ⟨by rfl, fun w' hS => by go_simp⟩) (fun _ => hSW) trivial ?_
        simp only [Act.put, List.setIfInBounds_toArray, List.set_cons_zero, List.set_cons_succ]
        refine anyU_one (k := 3) (by kernel_rfl) rfl (fun K hK => ?_)
        go_simp
        refine (hV wd q5 Hd.out.ds (HQ2.out.2.1) (by have := Hf0.out; have := HQ2.out.1; omega) (HE0.out.db Hd.out.chg)).mono ?_
        rintro e w6 (⟨rfl, hc6⟩ | ⟨v6, j6, q6, rfl, hv6, hq6, hqs6, hd6, hc6⟩)
        · have Hc6 := Lib.hid (Hd.out.chg.trans hc6)
          clear hc6
          exact ⟨rfl, Or.inl ⟨rfl, Hc6.out⟩⟩
        obtain ⟨e6, rfl⟩ := hv6.ev'
        have H6 := Lib.hid (Hd.out.db hc6 hd6)
        have H6v := Lib.hid (And.intro hv6 (And.intro hd6 hc6))
        have H6q := Lib.hid (And.intro hq6 hqs6)
        clear hv6 hd6 hc6 hq6 hqs6
        have hS6 := cell_of_heap H6.out.box (i := 4) rfl
        clear hSW
        refine hK _ _ (fun _ => hS6) trivial ?_
        clear hK K
        unfold Ev.val
        refine anyU_one (k := 4) (by kernel_rfl) rfl (fun K hK => ?_)
        go_simp
        obtain ⟨a8, c8, w8, hr8, hbx8, h8⟩ := Hd.out.elem H6v.out.2.2 H6v.out.2.1 H6v.out.1 (by have := HQ2.out.2.2.1; have := HQ2.out.2.1; omega)
        have Hr8 := Lib.hid hr8
        have Hbx8 := Lib.hid hbx8
        have H8 := Lib.hid h8
        have H7 := Lib.hid ((heap_past w6 (.cells #[.int .i64 e6.k, .int .i64 e6.n, .string e6.t, .slice e6.na e6.nl e6.nc, .slice e6.ia e6.il e6.ic] 25) _ (lt_of_obj H6.out.box)).trans H6.out.box)
        clear hr8 hbx8 h8
        have hS7 := cell_of_heap H7.out (i := 4) rfl
        refine hK _ _ (fun _ => hS7) trivial ?_
        clear hK K
        refine anyU_one (k := 5) (by kernel_rfl) rfl (fun K hK => ?_)
        rw [if_pos (by rfl)]
        refine wp_append_run _ _ 23 rfl _ _ _ _ rfl rfl Hr8.out ?_
        have hS8 := cell_of_heap Hbx8.out (i := 4) rfl
        have f8 := frozen_of_heap (i := 4) Hbx8.out
        clear hS6 hS7
        refine hK _ _ (fun _ => hS8) trivial ?_
        clear hK K
        simp only [Act.put, List.setIfInBounds_toArray, List.set_cons_zero, List.set_cons_succ]
        refine anyU_one (k := 6) (by kernel_rfl) rfl (fun K hK => ?_)
        go_simp
        refine hK _ _ (fun _ => hS8) trivial ?_
        clear hK K
        refine anyU_one (k := 7) (by kernel_rfl) rfl (fun K hK => ?_)
        go_simp
        refine hK _ _ (fun h => by simp at h) trivial ?_
        clear hK K hS8 f8
        refine anyU_done (by kernel_rfl) ?_
        obtain ⟨w9, hw9⟩ : ∃ x, x = w8.setCell ⟨b + 1, 4, none⟩ (.slice a8 (xs.length + 1) c8) := ⟨_, rfl⟩
        rw [← hw9] at H8 ⊢
        have HQ9 : Hid (o + (encL 4 0 (ns) (xs ++ [j6])).length ≤ q6 ∧ q6 ≤ s.size ∧ xs.length + 1 ≤ q6 ∧ q5 < q6) := Lib.hid (by
          have h1 := H6q.out.1
          have h2 := H6q.out.2
          have h3 := HQ2.out.2.2.1
          have h4 := HQ2.out.2.2.2
          have h5 : 0 < j6.enc.length := by obtain ⟨x, y, hx, _⟩ := enc_head j6; rw [hx]; simp
          have h6 := h4 j6
          omega)
        clear hw9
        go_wp2_with fail
        refine (skip_any db s q6 w9 H8.out.ds HQ9.out.2.1 hs1).mono ?_
        rintro e w10 ⟨rfl, q10, hx1, hx2, hdx, _, hcx⟩
        have H10 := Lib.hid (H8.out.db hcx hdx)
        have H10q := Lib.hid (And.intro hx1 hx2)
        clear hdx hcx hx1 hx2
        go_wp2_with fail
        refine (accept_b db s q10 cl w10 H10.out.ds H10q.out.2 hs).mono ?_
        rintro e w11 ⟨p, rfl, hpx, hdx, hcx⟩
        have H11 := Lib.hid (H10.out.db hcx hdx)
        have H11p := Lib.hid hpx
        clear hdx hcx hpx
        cases p with
        | false =>
          rw [if_neg (by decide)] at H11
          have H11q : Hid (q6 ≤ q10 ∧ q10 ≤ s.size) := H10q
          go_wp2_with fail
          refine (accept_b db s q10 44 w11 H11.out.ds H11q.out.2 hs).mono ?_
          rintro e w12 ⟨p, rfl, hpx, hdx, hcx⟩
          have H12 := Lib.hid (H11.out.db hcx hdx)
          have H12p := Lib.hid hpx
          clear hdx hcx hpx
          cases p with
          | false =>
            go_wp2_with fail
            refine (Hf.out w12).mono ?_
            rintro e wz ⟨rfl, rfl⟩
            go_wp2_with fail
            exact ⟨rfl, Or.inl ⟨rfl, H12.out.chg⟩⟩
          | true =>
            rw [if_pos rfl] at H12
            go_wp2_with fail
            refine (He.out w12).mono ?_
            rintro e w13 ⟨rfl, rfl⟩
            go_wp2_with fail
            refine ⟨⟨q10 + 1, na, nl, nc, a8, xs.length + 1, c8, ns, xs ++ [j6], H12, Lib.hid ⟨H12p.out (by simp), ?_, ?_, ?_, ?_⟩⟩, ?_⟩
            · rw [List.length_append]
              have := HQ9.out.2.2.1
              have := H10q.out.1
              simp
              omega
            · exact fun h => absurd h (by decide)
            · exact fun _ => Hns.out
            · rw [if_pos (by simp)]
              have := HQ9.out.1
              have := H10q.out.1
              omega
            · rw [H12.out.ds.off, HR.out.ds.off]
              have h1 := H12p.out (by simp)
              have h2 := HQ9.out.2.2.2
              have h3 := H10q.out.1
              have h4 := HQ2.out.1
              have h5 := HQQ.out
              omega
        | true =>
          rw [if_pos rfl] at H11
          have k3 := cell_of_heap H11.out.box (i := 3) rfl
          go_wp2_with fail
          refine (dups_any (fun _ => True) w11 _ (ns) (H11.out.nms.read fun g hg => trivial)).mono ?_
          rintro e w12 ⟨rfl, hc12⟩
          have H12 := Lib.hid (H11.out.db (hc12.mono (by simp)) (H11.out.ds.new hc12))
          obtain ⟨p, hp⟩ : ∃ p, p = decide (¬ (ns).Nodup) := ⟨_, rfl⟩
          rw [← hp]
          clear hc12 k3 hp
          cases p with
          | true =>
            go_wp2_with fail
            refine (Hf.out w12).mono ?_
            rintro e wz ⟨rfl, rfl⟩
            go_wp2_with fail
            exact ⟨rfl, Or.inl ⟨rfl, H12.out.chg⟩⟩
          | false =>
            go_wp2_with fail
            refine (He.out w12).mono ?_
            rintro e w13 ⟨rfl, rfl⟩
            obtain ⟨b0, b1, b2, b3, b4⟩ := box_kept (b + 1) H12.out.box (Chg.refl [] w13)
            obtain ⟨r0, r1, r2, r3, r4⟩ := box_kept b H12.out.res (Chg.refl [] w13)
            have fr := fun i => frozen_of_heap (i := i) H12.out.res
            have lr := lt_of_cell r0
            go_wp2_with fail
            refine bodyPost_ret (v := .agg #[.int .i64 4, .int .i64 0, .string ⟨#[]⟩, .slice na nl nc, .slice a8 (xs.length + 1) c8]) (by simp [results, Tryd.results40, go_sem, r0, r1, r2, r3, r4]) rfl ?_
            have hD := H12.out.done
            exact Or.inr ⟨_, _, _, q10 + 1, rfl, hD.1, by have := HQ9.out.1; have := H10q.out.1; omega, H11p.out (by simp), hD.2.1, hD.2.2⟩
      · have Hnl : Hid (ns.length = xs.length) := Lib.hid (HQ.out.2.2.1 rfl)
        go_upto_region 7 with fail
        refine wp_region_U (fun w' => w'.cell? ⟨b + 1, 3, none⟩ = some (.slice na nl nc)) (fun _ => True) 7 (by kernel_rfl) ?_
        intro wd hwd
        have hcd : Chg [] w5 wd := by rw [hwd]; exact (Chg.refl _ _).drew
        have Hcd := Lib.hid hcd
        have Hd := Lib.hid (H5.out.db (hcd.mono (by simp)) (H5.out.ds.new hcd))
        have hSW := cell_of_heap Hd.out.box (i := 3) rfl
        clear hwd hcd
        refine anyU_pure (i := 0) (v := .pointer (some ⟨b + 1, 3, none⟩)) rfl (by kernel_rfl) (fun _ _ _ h => h) (Or.inl ⟨by rfl, fun w' hS => by go_simp⟩) (fun _ => hSW) trivial ?_
        simp only [Act.put, List.setIfInBounds_toArray, List.set_cons_zero, List.set_cons_succ]
        refine anyU_take (i := 1) (v := .slice na nl nc) rfl (by kernel_rfl) (fun _ _ _ h => h) (Or.inl ⟨by rfl, fun w' hS => by go_simp⟩) hSW trivial ?_
        simp only [Act.put, List.setIfInBounds_toArray, List.set_cons_zero, List.set_cons_succ]
        refine anyU_pure (i := 2) (v := .pointer (some ⟨db, 0, none⟩)) rfl (by kernel_rfl) (fun _ _ _ h => h) (Or.inl ⟨by rfl, fun w' hS => by go_simp⟩) (fun _ => hSW) trivial ?_
        simp only [Act.put, List.setIfInBounds_toArray, List.set_cons_zero, List.set_cons_succ]
        refine anyU_one (k := 3) (by kernel_rfl) rfl (fun K hK => ?_)
        go_simp
        refine (text_any db s q5 wd Hd.out.ds (by omega) H5q.out.2 (HE0.out.db Hd.out.chg)).mono ?_
        rintro e w6 (⟨rfl, hc6⟩ | ⟨t, q6, rfl, hu6, hq6, hqs6, hd6, hc6⟩)
        · have Hc6 := Lib.hid (Hd.out.chg.trans hc6)
          clear hc6
          exact ⟨rfl, Or.inl ⟨rfl, Hc6.out⟩⟩
        have H6 := Lib.hid (Hd.out.db hc6 hd6)
        have H6q : Hid (q5 + (encS t).length ≤ q6 ∧ q6 ≤ s.size) := Lib.hid ⟨hq6, hqs6⟩
        clear hd6 hc6 hu6 hq6 hqs6
        have hS6 := cell_of_heap H6.out.box (i := 3) rfl
        clear hSW
        refine hK _ _ (fun _ => hS6) trivial ?_
        clear hK K
        refine anyU_one (k := 4) (by kernel_rfl) rfl (fun K hK => ?_)
        go_simp
        obtain ⟨a7, c7, w8, hr8, hbx8, h8⟩ := H6.out.name (t := t) (by have h1 := encS_len t; have h2 := H6q.out.1; have h3 := H6q.out.2; unfold maxLen; omega) (by have := Hnl.out; have := HQ.out.2.1; have := HQ.out.1; omega)
        have Hr8 := Lib.hid hr8
        have Hbx8 := Lib.hid hbx8
        have H8 := Lib.hid h8
        have H7 := Lib.hid ((heap_past w6 (.cells #[.string t] 9) _ (lt_of_obj H6.out.box)).trans H6.out.box)
        clear hr8 hbx8 h8
        have hS7 := cell_of_heap H7.out (i := 3) rfl
        refine hK _ _ (fun _ => hS7) trivial ?_
        clear hK K
        refine anyU_one (k := 5) (by kernel_rfl) rfl (fun K hK => ?_)
        rw [if_pos (by rfl)]
        refine wp_append_run _ _ 22 rfl _ _ _ _ rfl rfl Hr8.out ?_
        have hS8 := cell_of_heap Hbx8.out (i := 3) rfl
        have f8 := frozen_of_heap (i := 3) Hbx8.out
        clear hS6 hS7
        refine hK _ _ (fun _ => hS8) trivial ?_
        clear hK K
        simp only [Act.put, List.setIfInBounds_toArray, List.set_cons_zero, List.set_cons_succ]
        refine anyU_one (k := 6) (by kernel_rfl) rfl (fun K hK => ?_)
        go_simp
        refine hK _ _ (fun _ => hS8) trivial ?_
        clear hK K
        refine anyU_one (k := 7) (by kernel_rfl) rfl (fun K hK => ?_)
        go_simp
        refine hK _ _ (fun h => by simp at h) trivial ?_
        clear hK K hS8 f8
        refine anyU_done (by kernel_rfl) ?_
        obtain ⟨w9, hw9⟩ : ∃ x, x = w8.setCell ⟨b + 1, 3, none⟩ (.slice a7 (ns.length + 1) c7) := ⟨_, rfl⟩
        rw [← hw9] at H8 ⊢
        clear hw9
        go_wp2_with fail
        refine (skip_any db s q6 w9 H8.out.ds H6q.out.2 hs1).mono ?_
        rintro e wa ⟨rfl, qa, hx1, hx2, hdx, _, hcx⟩
        have Ha := Lib.hid (H8.out.db hcx hdx)
        have Haq := Lib.hid (And.intro hx1 hx2)
        clear hdx hcx hx1 hx2
        go_wp2_with fail
        refine (accept_b db s qa 58 wa Ha.out.ds Haq.out.2 hs).mono ?_
        rintro e wb ⟨p, rfl, hpx, hdx, hcx⟩
        have Hb := Lib.hid (Ha.out.db hcx hdx)
        have Hbp := Lib.hid hpx
        clear hdx hcx hpx
        cases p with
        | false =>
          go_wp2_with fail
          refine (Hf.out wb).mono ?_
          rintro e wz ⟨rfl, rfl⟩
          go_wp2_with fail
          exact ⟨rfl, Or.inl ⟨rfl, Hb.out.chg⟩⟩
        | true =>
          rw [if_pos rfl] at Hb
          go_wp2_with fail
          refine (He.out wb).mono ?_
          rintro e wc ⟨rfl, rfl⟩
          have HQ2 : Hid (o ≤ qa + 1 ∧ qa + 1 ≤ s.size ∧ xs.length ≤ qa + 1 ∧ ∀ j : J, o + (encL 5 0 (ns ++ [t]) (xs ++ [j])).length ≤ qa + 1 + j.enc.length) := Lib.hid ⟨by have := HQ.out.2.2.2.2; have := H5q.out.1; have := H6q.out.1; have := Haq.out.1; omega, Hbp.out (by simp), by have := HQ.out.2.1; have := H5q.out.1; have := H6q.out.1; have := Haq.out.1; omega, fun j => by
            have h1 := HQ.out.2.2.2.2
            have h2 := H5q.out.1
            have h3 := H6q.out.1
            have h4 := Haq.out.1
            rw [encL_more ns t xs j Hnl.out]
            omega⟩
          have HQQ : Hid (q ≤ qa + 1) := Lib.hid (by have := H5q.out.1; have := H6q.out.1; have := Haq.out.1; omega)
          have Hns : Hid ((ns ++ [t]).length = xs.length + 1) := Lib.hid (by rw [List.length_append, Hnl.out]; rfl)
          go_upto_region 10 with fail
          refine wp_region_U (fun w' => w'.cell? ⟨b + 1, 4, none⟩ = some (.slice ia il ic)) (fun _ => True) 7 (by kernel_rfl) ?_
          intro wd hwd
          have hcd : Chg [] wc wd := by rw [hwd]; exact (Chg.refl _ _).drew
          have Hcd := Lib.hid hcd
          have Hd := Lib.hid (Hb.out.db (hcd.mono (by simp)) (Hb.out.ds.new hcd))
          have hSW := cell_of_heap Hd.out.box (i := 4) rfl
          clear hwd hcd
          refine anyU_pure (i := 0) (v := .pointer (some ⟨b + 1, 4, none⟩)) rfl (by kernel_rfl) (fun _ _ _ h => h) (Or.inl ⟨by rfl, fun w' hS => by go_simp⟩) (fun _ => hSW) trivial ?_
          simp only [Act.put, List.setIfInBounds_toArray, List.set_cons_zero, List.set_cons_succ]
          refine anyU_take (i := 1) (v := .slice ia il ic) rfl (by kernel_rfl) (fun _ _ _ h => h) (Or.inl ⟨by rfl, fun w' hS => by go_simp⟩) hSW trivial ?_
          simp only [Act.put, List.setIfInBounds_toArray, List.set_cons_zero, List.set_cons_succ]
          refine anyU_pure (i := 2) (v := .pointer (some ⟨db, 0, none⟩)) rfl (by kernel_rfl) (fun _ _ _ h => h) (Or.inl ⟨by rfl, fun w' hS => by go_simp⟩) (fun _ => hSW) trivial ?_
          simp only [Act.put, List.setIfInBounds_toArray, List.set_cons_zero, List.set_cons_succ]
          refine anyU_one (k := 3) (by kernel_rfl) rfl (fun K hK => ?_)
          go_simp
          refine (hV wd (qa + 1) Hd.out.ds (HQ2.out.2.1) (by have := Hf0.out; have := HQ2.out.1; omega) (HE0.out.db Hd.out.chg)).mono ?_
          rintro e w6 (⟨rfl, hc6⟩ | ⟨v6, j6, q6, rfl, hv6, hq6, hqs6, hd6, hc6⟩)
          · have Hc6 := Lib.hid (Hd.out.chg.trans hc6)
            clear hc6
            exact ⟨rfl, Or.inl ⟨rfl, Hc6.out⟩⟩
          obtain ⟨e6, rfl⟩ := hv6.ev'
          have H6 := Lib.hid (Hd.out.db hc6 hd6)
          have H6v := Lib.hid (And.intro hv6 (And.intro hd6 hc6))
          have H6q := Lib.hid (And.intro hq6 hqs6)
          clear hv6 hd6 hc6 hq6 hqs6
          have hS6 := cell_of_heap H6.out.box (i := 4) rfl
          clear hSW
          refine hK _ _ (fun _ => hS6) trivial ?_
          clear hK K
          unfold Ev.val
          refine anyU_one (k := 4) (by kernel_rfl) rfl (fun K hK => ?_)
          go_simp
          obtain ⟨a8, c8, w8, hr8, hbx8, h8⟩ := Hd.out.elem H6v.out.2.2 H6v.out.2.1 H6v.out.1 (by have := HQ2.out.2.2.1; have := HQ2.out.2.1; omega)
          have Hr8 := Lib.hid hr8
          have Hbx8 := Lib.hid hbx8
          have H8 := Lib.hid h8
          have H7 := Lib.hid ((heap_past w6 (.cells #[.int .i64 e6.k, .int .i64 e6.n, .string e6.t, .slice e6.na e6.nl e6.nc, .slice e6.ia e6.il e6.ic] 25) _ (lt_of_obj H6.out.box)).trans H6.out.box)
          clear hr8 hbx8 h8
          have hS7 := cell_of_heap H7.out (i := 4) rfl
          refine hK _ _ (fun _ => hS7) trivial ?_
          clear hK K
          refine anyU_one (k := 5) (by kernel_rfl) rfl (fun K hK => ?_)
          rw [if_pos (by rfl)]
          refine wp_append_run _ _ 23 rfl _ _ _ _ rfl rfl Hr8.out ?_
          have hS8 := cell_of_heap Hbx8.out (i := 4) rfl
          have f8 := frozen_of_heap (i := 4) Hbx8.out
          clear hS6 hS7
          refine hK _ _ (fun _ => hS8) trivial ?_
          clear hK K
          simp only [Act.put, List.setIfInBounds_toArray, List.set_cons_zero, List.set_cons_succ]
          refine anyU_one (k := 6) (by kernel_rfl) rfl (fun K hK => ?_)
          go_simp
          refine hK _ _ (fun _ => hS8) trivial ?_
          clear hK K
          refine anyU_one (k := 7) (by kernel_rfl) rfl (fun K hK => ?_)
          go_simp
          refine hK _ _ (fun h => by simp at h) trivial ?_
          clear hK K hS8 f8
          refine anyU_done (by kernel_rfl) ?_
          obtain ⟨w9, hw9⟩ : ∃ x, x = w8.setCell ⟨b + 1, 4, none⟩ (.slice a8 (xs.length + 1) c8) := ⟨_, rfl⟩
          rw [← hw9] at H8 ⊢
          have HQ9 : Hid (o + (encL 5 0 (ns ++ [t]) (xs ++ [j6])).length ≤ q6 ∧ q6 ≤ s.size ∧ xs.length + 1 ≤ q6 ∧ (qa + 1) < q6) := Lib.hid (by
            have h1 := H6q.out.1
            have h2 := H6q.out.2
            have h3 := HQ2.out.2.2.1
            have h4 := HQ2.out.2.2.2
            have h5 : 0 < j6.enc.length := by obtain ⟨x, y, hx, _⟩ := enc_head j6; rw [hx]; simp
            have h6 := h4 j6
            omega)
          clear hw9
          go_wp2_with fail
          refine (skip_any db s q6 w9 H8.out.ds HQ9.out.2.1 hs1).mono ?_
          rintro e w10 ⟨rfl, q10, hx1, hx2, hdx, _, hcx⟩
          have H10 := Lib.hid (H8.out.db hcx hdx)
          have H10q := Lib.hid (And.intro hx1 hx2)
          clear hdx hcx hx1 hx2
          go_wp2_with fail
          refine (accept_b db s q10 cl w10 H10.out.ds H10q.out.2 hs).mono ?_
          rintro e w11 ⟨p, rfl, hpx, hdx, hcx⟩
          have H11 := Lib.hid (H10.out.db hcx hdx)
          have H11p := Lib.hid hpx
          clear hdx hcx hpx
          cases p with
          | false =>
            rw [if_neg (by decide)] at H11
            have H11q : Hid (q6 ≤ q10 ∧ q10 ≤ s.size) := H10q
            go_wp2_with fail
            refine (accept_b db s q10 44 w11 H11.out.ds H11q.out.2 hs).mono ?_
            rintro e w12 ⟨p, rfl, hpx, hdx, hcx⟩
            have H12 := Lib.hid (H11.out.db hcx hdx)
            have H12p := Lib.hid hpx
            clear hdx hcx hpx
            cases p with
            | false =>
              go_wp2_with fail
              refine (Hf.out w12).mono ?_
              rintro e wz ⟨rfl, rfl⟩
              go_wp2_with fail
              exact ⟨rfl, Or.inl ⟨rfl, H12.out.chg⟩⟩
            | true =>
              rw [if_pos rfl] at H12
              go_wp2_with fail
              refine (He.out w12).mono ?_
              rintro e w13 ⟨rfl, rfl⟩
              go_wp2_with fail
              refine ⟨⟨q10 + 1, a7, (ns.length + 1), c7, a8, xs.length + 1, c8, ns ++ [t], xs ++ [j6], H12, Lib.hid ⟨H12p.out (by simp), ?_, ?_, ?_, ?_⟩⟩, ?_⟩
              · rw [List.length_append]
                have := HQ9.out.2.2.1
                have := H10q.out.1
                simp
                omega
              · exact fun _ => by rw [Hns.out]; simp
              · exact fun h => absurd h (by decide)
              · rw [if_pos (by simp)]
                have := HQ9.out.1
                have := H10q.out.1
                omega
              · rw [H12.out.ds.off, HR.out.ds.off]
                have h1 := H12p.out (by simp)
                have h2 := HQ9.out.2.2.2
                have h3 := H10q.out.1
                have h4 := HQ2.out.1
                have h5 := HQQ.out
                omega
          | true =>
            rw [if_pos rfl] at H11
            have k3 := cell_of_heap H11.out.box (i := 3) rfl
            go_wp2_with fail
            refine (dups_any (fun _ => True) w11 _ (ns ++ [t]) (H11.out.nms.read fun g hg => trivial)).mono ?_
            rintro e w12 ⟨rfl, hc12⟩
            have H12 := Lib.hid (H11.out.db (hc12.mono (by simp)) (H11.out.ds.new hc12))
            obtain ⟨p, hp⟩ : ∃ p, p = decide (¬ (ns ++ [t]).Nodup) := ⟨_, rfl⟩
            rw [← hp]
            clear hc12 k3 hp
            cases p with
            | true =>
              go_wp2_with fail
              refine (Hf.out w12).mono ?_
              rintro e wz ⟨rfl, rfl⟩
              go_wp2_with fail
              exact ⟨rfl, Or.inl ⟨rfl, H12.out.chg⟩⟩
            | false =>
              go_wp2_with fail
              refine (He.out w12).mono ?_
              rintro e w13 ⟨rfl, rfl⟩
              obtain ⟨b0, b1, b2, b3, b4⟩ := box_kept (b + 1) H12.out.box (Chg.refl [] w13)
              obtain ⟨r0, r1, r2, r3, r4⟩ := box_kept b H12.out.res (Chg.refl [] w13)
              have fr := fun i => frozen_of_heap (i := i) H12.out.res
              have lr := lt_of_cell r0
              go_wp2_with fail
              refine bodyPost_ret (v := .agg #[.int .i64 5, .int .i64 0, .string ⟨#[]⟩, .slice a7 (ns.length + 1) c7, .slice a8 (xs.length + 1) c8]) (by simp [results, Tryd.results40, go_sem, r0, r1, r2, r3, r4]) rfl ?_
              have hD := H12.out.done
              exact Or.inr ⟨_, _, _, q10 + 1, rfl, hD.1, by have := HQ9.out.1; have := H10q.out.1; omega, H11p.out (by simp), hD.2.1, hD.2.2⟩
end Go.Proofs.YtpnaegfldkjikaaDoor.Jv
