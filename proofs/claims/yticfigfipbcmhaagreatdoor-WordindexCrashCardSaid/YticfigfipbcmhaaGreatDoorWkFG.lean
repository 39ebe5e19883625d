/- WordindexCrash: the plain law. -/
import Derived.Test.YticfigfipbcmhaaGreatDoorWkE
import Derived.Test.YticfigfipbcmhaaGreatDoorWiMod
/- WordindexCrash: the plain law. -/
namespace Go.Proofs.YticfigfipbcmhaaGreatDoor
open Go.RowKit Go.ChangeMaps Go.MapKept Go.Shelf
set_option linter.unusedVariables false
set_option linter.unusedSimpArgs false
theorem same_of_name {D : List Dc} (hn : (D.map (·.1)).Nodup) {a b : Dc} (ha : a ∈ D) (hb : b ∈ D) (e : a.1 = b.1) : a = b := by rw [← dOf_eq hn ha, ← dOf_eq hn hb, e]
theorem take_nodup {D : List Dc} (hn : (D.map (·.1)).Nodup) (m : Nat) : ((D.take m).map (·.1)).Nodup := by
  rw [List.map_take]
  exact hn.sublist (List.take_sublist _ _)
theorem eff_same {D D1 : List Dc} (hn : (D.map (·.1)).Nodup) (h1 : ∀ x ∈ D1, x ∈ D) (hn1 : (D1.map (·.1)).Nodup) {d : Dc} (hd : d ∈ D) : eff D1 d = d ∧ (d ∈ D1 → fresh D1 d = true) := by
  by_cases hm : d ∈ D1
  · obtain ⟨e1, e2⟩ := eff_hit hn1 (d := d) hm rfl rfl
    exact ⟨e1, fun _ => e2⟩
  · refine ⟨(eff_miss fun d0 h0 e => ?_).1, fun h => absurd h hm⟩
    exact absurd (same_of_name hn (h1 d0 h0) hd e ▸ h0) hm
theorem eff_changed {D D1 : List Dc} (hn : (D.map (·.1)).Nodup) (h1 : ∀ x ∈ D1, x ∈ D) {d x : Dc} (hd : d ∈ D) (hx : x.1 = d.1) (hck : ck x.2.2.data.toList ≠ ck d.2.2.data.toList) : eff D1 x = x ∧ fresh D1 x = false := by
  refine eff_miss fun d0 h0 e => ?_
  have : d0 = d := same_of_name hn (h1 d0 h0) hd (e.trans hx)
  rw [this]
  exact fun e => hck e.symm
theorem set_split {α : Type} (l : List α) (j : Nat) (hj : j < l.length) (x : α) : l.set j x = l.take j ++ x :: l.drop (j + 1) := List.set_eq_take_append_cons_drop.trans (by rw [if_pos hj])
structure CrP (D : List Dc) (j m : Nat) (x : Dc) : Prop where
  eff : (D.set j x).map (eff (D.take m)) = D.set j x
  mem : x.1 ∈ scanN (D.take m) (D.set j x)
  one : m = D.length → (scanN (D.take m) (D.set j x)).length = 1
theorem crash_plain {D : List Dc} (hn : (D.map (·.1)).Nodup) {j m : Nat} (hj : j < D.length) {x : Dc} (hx : x.1 = D[j].1) (hck : ck x.2.2.data.toList ≠ ck D[j].2.2.data.toList) : CrP D j m x := by
  have hsub : ∀ y ∈ D.take m, y ∈ D := fun y hy => List.mem_of_mem_take hy
  have hch := eff_changed hn hsub (List.getElem_mem hj) hx hck
  have hxm : x ∈ D.set j x := by rw [set_split _ _ hj]; simp
  refine ⟨?_, ?_, fun hm => ?_⟩
  · conv => rhs; rw [← List.map_id (D.set j x)]
    refine List.map_congr_left fun d hd => ?_
    rcases List.mem_or_eq_of_mem_set hd with h | h
    · exact (eff_same hn hsub (take_nodup hn m) h).1
    · rw [h]; exact hch.1
  · unfold scanN
    exact List.mem_map.2 ⟨x, List.mem_filter.2 ⟨hxm, by rw [hch.2]; rfl⟩, rfl⟩
  · subst hm
    rw [List.take_length] at hch ⊢
    have hfr : ∀ d ∈ D, fresh D d = true := fun d hd => (eff_same hn (fun _ h => h) hn hd).2 hd
    have hno : ∀ l : List Dc, (∀ d ∈ l, d ∈ D) → l.filter (fun d => !fresh D d) = [] := fun l hl => by
      rw [List.filter_eq_nil_iff]
      intro d hd
      rw [hfr d (hl d hd)]
      simp
    unfold scanN
    rw [set_split _ _ hj, List.filter_append, List.filter_cons, hno _ (fun d hd => List.mem_of_mem_take hd), hno _ (fun d hd => List.mem_of_mem_drop hd), hch.2]
    simp
theorem frame_len (r : J.Rec) : r.frame.length = r.key.size + r.val.size + 8 := by
  have h1 : r.frame.length = r.pay.length + 6 := J.frameL_length _
  have h2 := r.pay_length
  omega
theorem log_len (rs : List J.Rec) (h : ∀ r ∈ rs, r.frame.length ≤ 2077) : (J.logOf rs).length ≤ 2077 * rs.length := by
  induction rs with
  | nil => simp [J.logOf]
  | cons r rs ih =>
    have h1 := h r (by simp)
    have h2 := ih fun x hx => h x (by simp [hx])
    have e : J.logOf (r :: rs) = r.frame ++ J.logOf rs := by simp [J.logOf]
    rw [e, List.length_append, List.length_cons]
    omega
theorem recD_ok {d : Dc} (h : 0 < d.1.size ∧ d.1.size ≤ 60 ∧ d.2.2.size ≤ 2000) : (recD d).ok := recI_ok h.1 h.2.1 (words_ok _ h.2.2)
theorem docs_log {D : List Dc} (h : DcOk D) (hl : D.length ≤ 19) : (J.logOf (D.map recD)).length ≤ 40000 := by
  have h1 := log_len (D.map recD) fun r hr => by
    obtain ⟨d, hd, rfl⟩ := List.mem_map.1 hr
    rw [frame_len]
    have h2 := h.ok d hd
    have h3 := (words_ok d.2.2 h2.2.2).sum
    have h4 : (recD d).val.size = 8 + wsum (words d.2.2) := by
      rw [recD_val, lb_size]
      unfold encL
      rw [List.length_append, hx8_len, tailW_len]
    have h5 : (recD d).key.size = d.1.size := rfl
    omega
  rw [List.length_map] at h1
  omega
/-- what a log cut off holds -/
theorem cut_log {D : List Dc} (h : DcOk D) (L : ByteArray) (hL : L = J.bs (J.logOf (D.map recD))) (c : Nat) (hc : c ≤ L.size) :
    ∃ m, m ≤ D.length ∧ (J.scanL (L.extract 0 c).data.toList).1 = (D.take m).map recD ∧ (c = L.size → m = D.length) := by
  have hs : L.size = (J.logOf (D.map recD)).length := by rw [hL, J.bs_size]
  obtain ⟨m, h1, h2, _, _, h5⟩ := J.torn (D.map recD) c (fun r hr => by
    obtain ⟨d, hd, rfl⟩ := List.mem_map.1 hr
    exact recD_ok (h.ok d hd)) (by omega)
  rw [List.length_map] at h1 h5
  refine ⟨m, h1, ?_, fun hcl => ?_⟩
  · rw [Lib.extract_from_zero, hL, J.bs_data, h2, List.map_take]
  · rcases Nat.lt_or_eq_of_le h1 with h6 | h6
    · have h7 := h5 h6
      have h8 := congrArg List.length (J.logOf_take (D.map recD) (m + 1))
      rw [List.length_append] at h8
      omega
    · exact h6
theorem nameD_idx (T : List ByteArray) (n : Nat) (hn : n ≤ 5) : IsIdx (namedD T n) ((namedD T n).map entO) := by
  refine ⟨List.Perm.refl _, ?_⟩
  have h5 : ((List.range 5).map fun i => ((⟨#[109]⟩ : ByteArray) ++ dec i)).Pairwise ltN := by
    have e : ((List.range 5).map fun i => ((⟨#[109]⟩ : ByteArray) ++ dec i)) = [⟨#[109, 48]⟩, ⟨#[109, 49]⟩, ⟨#[109, 50]⟩, ⟨#[109, 51]⟩, ⟨#[109, 52]⟩] := rfl
    rw [e]
    unfold ltN
    decide
  have hs : (List.range n).Sublist (List.range 5) := List.range_sublist.2 hn
  have h6 := h5.sublist (hs.map _)
  unfold namedD
  rw [List.map_map, List.pairwise_map]
  rw [List.pairwise_map] at h6
  exact h6
theorem map_recI (D : List Dc) : (D.map entO).map recI = D.map recD := by rw [List.map_map]; rfl
/-- one text stored -/
theorem OwnD.set1 {w : World} {base g n cap : Nat} {l : List Dc} (h : OwnD w base (.slice (some ⟨g, 0, none⟩) n cap) l) (hn : l.length = n) (k : Nat) (hk : k < l.length) (t : ByteArray) :
    OwnD (w.setCell ⟨g, k * 3 + 2, none⟩ (.string t)) base (.slice (some ⟨g, 0, none⟩) n cap) (l.set k (l[k].1, l[k].2.1, t)) := by
  subst hn
  have r3 := row_set (u := .string t) h (i := k * 3 + 2) (by omega)
  have g0 := dcCells_get l k hk 0 (by decide)
  have g1 := dcCells_get l k hk 1 (by decide)
  have e0 : (dcCells l).set (k * 3) (.string l[k].1) = dcCells l := by
    refine List.ext_getElem? fun i => ?_
    rw [List.getElem?_set]
    split
    · rename_i e; subst e; split
      · rw [Nat.add_zero] at g0; rw [g0]; rfl
      · rename_i h2; rw [List.getElem?_eq_none (by omega)]
    · rfl
  have e1 : (dcCells l).set (k * 3 + 1) (.int .i64 l[k].2.1) = dcCells l := by
    refine List.ext_getElem? fun i => ?_
    rw [List.getElem?_set]
    split
    · rename_i e; subst e; split
      · rw [g1]; rfl
      · rename_i h2; rw [List.getElem?_eq_none (by omega)]
    · rfl
  have e := dcCells_set3 l k hk (l[k].1, l[k].2.1, t)
  simp only at e
  rw [e0, e1] at e
  rw [e] at r3
  unfold OwnD
  rw [List.length_set]
  exact r3
end Go.Proofs.YticfigfipbcmhaaGreatDoor
/- The law WordindexCrash. -/
namespace Go.Proofs.YticfigfipbcmhaaGreatDoor
open Go.RowKit Go.ChangeMaps Go.MapKept Go.Shelf
set_option linter.unusedVariables false
set_option linter.unusedSimpArgs false
theorem checksum_same (s : ByteArray) (w : World) (hs : s.size ≤ 100000) : Calls Tryz.prog 10 #[.string s] w fun e w' => e = .returned (.int .u32 (ck s.data.toList : Nat)) ∧ w' = w :=
  (checksum_any s w (by omega)).mono fun e w' h => ⟨h.1, h.2.symm⟩
set_option maxRecDepth 100000 in
set_option maxHeartbeats 8000000 in
theorem crash_any (p : Nat → Prop) (w : World) (v : Value) (T : List ByteArray) (ch ct : Int) (h : StrsP p w v T) (hM : ML w) :
    Calls Tryz.prog 3 #[v, .int .i64 ch, .int .i64 ct] w fun e w' => e = .returned (.bool true) ∧ Chg [] w w' := by
  obtain ⟨a0, c0, rfl, hml, hcp⟩ := h.shape
  have H := Lib.hid h
  have HM := Lib.hid hM
  unfold maxLen at hml
  clear h hM
  go_enter Tryz.func3, Tryz.ntmps3
  go_wp2_with fail
  refine (example_any _).mono ?_
  rintro e w1 ⟨rfl, hc1⟩
  have H1 := Lib.hid hc1
  clear hc1
  go_wp2_with fail
  refine (named_any p w1 _ T (H.out.same H1.out)).mono ?_
  rintro e w2 ⟨a2, c2, D, hD, rfl, hO2, hc2⟩
  have hDl : D.length ≤ 5 := by rw [hD, namedD_len]; omega
  have HDok := Lib.hid (show DcOk D by rw [hD]; exact namedD_ok T _ (by omega))
  have HDi := Lib.hid (show IsIdx D (D.map entO) by rw [hD]; exact nameD_idx T _ (by omega))
  have HDz : Hid (∀ d ∈ D, d.2.2.size ≤ 120) := Lib.hid (by
    rw [hD]
    intro d hd
    obtain ⟨i, _, rfl⟩ := List.mem_map.1 hd
    show (cut 120 _).size ≤ 120
    unfold cut
    rw [ByteArray.size_extract]
    omega)
  have H2 := Lib.hid (And.intro hO2 (H1.out.trans hc2))
  clear hD hO2 hc2
  go_wp2_with fail
  refine (build_any _ w2 _ D H2.out.1.read HDok.out).mono ?_
  rintro e w3 ⟨u3, I, rfl, hI, hx3, hc3⟩
  have hIe := hI.unique HDi.out
  obtain ⟨a3, c3, rfl, _, _⟩ := hx3.shape
  have hIl : I.length = D.length := by rw [hIe, List.length_map]
  have HIe := Lib.hid (And.intro hIe (And.intro (hI.ok HDok.out) hIl))
  have H3 := Lib.hid (And.intro hx3 hc3)
  clear hI hx3 hc3 hIe hIl
  obtain ⟨L, hL⟩ : ∃ L, L = J.bs (J.logOf (D.map recD)) := ⟨_, rfl⟩
  have hLs : L.size ≤ 40000 := by rw [hL, J.bs_size]; exact docs_log HDok.out (by omega)
  have Hsv : Hid (Calls Tryz.prog 7 #[.slice a3 I.length c3] w3 fun e w' => e = .returned (.tuple #[.string L, .int .i64 0]) ∧ Chg [] w3 w') := Lib.hid (by
    have h1 := save_any _ _ w3 _ I H3.out.1 HIe.out.2.1 (fun x hx => by
      rw [HIe.out.1] at hx
      obtain ⟨d, _, rfl⟩ := List.mem_map.1 hx
      exact ⟨_, rfl, ck_lt _⟩) (by rw [HIe.out.1, map_recI]; exact docs_log HDok.out (by omega))
    rw [HIe.out.1, map_recI, ← hL, List.length_map] at h1
    rw [HIe.out.2.2]
    exact h1)
  have HL := Lib.hid hL
  clear hL
  go_wp2_with fail
  refine Hsv.out.mono ?_
  rintro e w4 ⟨rfl, hc4⟩
  have H4 := Lib.hid (H3.out.2.trans hc4)
  have H4c := Lib.hid hc4
  clear hc4
  by_cases hD0 : D.length = 0
  · have hd0 : ((D.length : Int) == 0) = true := by simpa using hD0
    have hd1 : decide ((D.length : Int) = 0) = true := decide_eq_true (by omega)
    have hLe : L = ⟨#[]⟩ := by
      rw [HL.out, List.length_eq_zero_iff.1 hD0]
      rfl
    subst hLe
    go_wp2_with fail
    refine (example_any _).mono ?_
    rintro e w5 ⟨rfl, hc5⟩
    have H5 := Lib.hid hc5
    clear hc5
    go_wp2_with fail
    go_ret
    exact ⟨by first | rfl | simp, (H2.out.2.trans H4.out).trans H5.out⟩
  · have hD1 : (1 : Int) ≤ D.length := by omega
    obtain ⟨_, hj0, hj1⟩ : True ∧ 0 ≤ modI ch D.length ∧ modI ch D.length < D.length := ⟨trivial, modI_bd ch D.length hD1⟩
    obtain ⟨j, hj⟩ : ∃ j : Nat, modI ch D.length = (j : Int) := ⟨(modI ch D.length).toNat, by omega⟩
    have hjl : j < D.length := by omega
    have Hmod := Lib.hid (fun W => mod_any ch D.length W hD1 (by omega))
    rw [hj] at Hmod
    clear hj hj0 hj1
    obtain ⟨_, hq0, hq1⟩ : True ∧ 0 ≤ modI ct ((L.size : Int) + 1) ∧ modI ct ((L.size : Int) + 1) < (L.size : Int) + 1 := ⟨trivial, modI_bd ct _ (by omega)⟩
    obtain ⟨c, hc⟩ : ∃ c : Nat, modI ct ((L.size : Int) + 1) = (c : Int) := ⟨(modI ct ((L.size : Int) + 1)).toNat, by omega⟩
    have hcl : c ≤ L.size := by omega
    have Hmod2 := Lib.hid (fun W => mod_any ct ((L.size : Int) + 1) W (by omega) (by omega))
    rw [hc] at Hmod2
    clear hc hq0 hq1
    have hd0 : ¬ ((D.length : Int) = 0) := by omega
    have hd1 : ((D.length : Int) == 0) = false := by simpa using hD0
    go_wp2_with fail
    refine (Hmod.out _).mono ?_
    rintro e wX ⟨rfl, hX⟩
    rw [← hX]
    clear hX
    go_wp2_with fail
    refine (Hmod2.out _).mono ?_
    rintro e wX ⟨rfl, hX⟩
    rw [← hX]
    clear hX
    obtain ⟨g2, cc, hv, hge2, hgl2⟩ := World.ownsRow.form H2.out.1 (by omega)
    simp only [Value.slice.injEq] at hv
    obtain ⟨rfl, hnn, rfl⟩ := hv
    clear hnn
    have hO4 := H2.out.1.same H4.out
    obtain ⟨g', off', he, _, x0, x1, x2⟩ := (hO4.read).cells j hjl
    cases he
    have hge : D.getD j dc0 = D[j] := by rw [List.getD_eq_getElem?_getD, List.getElem?_eq_getElem hjl]; rfl
    obtain ⟨x, hx⟩ : ∃ x, D[j] = x := ⟨_, rfl⟩
    rw [hge, hx] at x2
    have hxm : x ∈ D := by rw [← hx]; exact List.getElem_mem hjl
    have hxs := (HDok.out.ok _ hxm).2.2
    obtain ⟨nm, ver, tx⟩ := x
    simp only at x2 hxs
    rw [Nat.zero_add] at x2
    have l2 := lt_of_cell x2
    have hj1 : (j : Int) < D.length := by omega
    have hj0 : (0 : Int) ≤ (j : Int) := by omega
    have f2 : w4.frozen? ⟨g2, j * 3 + 2, none⟩ = false := by
      rcases hO4.2 with ⟨hv, _⟩ | ⟨g', cap', cur', hv, _, hh, _⟩
      · cases hv
      · cases hv
        exact frozen_of_heap hh
    obtain ⟨ty, hty⟩ : ∃ t : ByteArray, t = tx ++ ⟨#[32, 99, 104, 97, 110, 103, 101, 100]⟩ := ⟨_, rfl⟩
    have hty2 : ty.size = tx.size + 8 := by rw [hty, ByteArray.size_append]; rfl
    have htz : tx.size ≤ 120 := HDz.out _ hxm
    have hto : ¬ (9223372036854775807 : Int) < ((tx.size + (⟨#[32, 99, 104, 97, 110, 103, 101, 100]⟩ : ByteArray).size : Nat) : Int) := by have : (⟨#[32, 99, 104, 97, 110, 103, 101, 100]⟩ : ByteArray).size = 8 := rfl; omega
    obtain ⟨w5, hw5⟩ : ∃ q, q = w4.setCell ⟨g2, j * 3 + 2, none⟩ (.string ty) := ⟨_, rfl⟩
    obtain ⟨D', hD'⟩ : ∃ E, E = D.set j ((nm, ver, ty) : Dc) := ⟨_, rfl⟩
    have hO5 : OwnD w5 w1.heap.size (.slice (some ⟨g2, 0, none⟩) D.length c2) D' := by
      have := hO4.set1 rfl j hjl ty
      rw [hx] at this
      rw [hw5, hD']
      exact this
    have hc5 : Chg [g2] w4 w5 := by rw [hw5]; exact (Chg.refl [g2] w4).setCell (p := ⟨g2, j * 3 + 2, none⟩) (Or.inl (by simp)) _
    have hDok' : DcOk D' := by rw [hD']; exact HDok.out.set hjl _ (by rw [hx]) (by show ty.size ≤ 2000; omega)
    have hDl' : D'.length = D.length := by rw [hD']; simp
    obtain ⟨m, hm1, hm2, hm3⟩ := cut_log HDok.out L HL.out c hcl
    have Hp := Lib.hid (fun (hck : ck ty.data.toList ≠ ck tx.data.toList) => crash_plain (m := m) HDok.out.nd hjl (x := (nm, ver, ty)) (by rw [hx]) (by rw [hx]; exact hck))
    have Hm := Lib.hid (And.intro hm2 hm3)
    have HO5 := Lib.hid (And.intro hO5 (And.intro hc5 (And.intro hDok' hDl')))
    have HW5 := Lib.hid (And.intro hw5 hty)
    have Hx := Lib.hid (And.intro hx (And.intro hD' hty2))
    have Hex := Lib.hid (show (L.extract 0 c).size = min c L.size - 0 from ByteArray.size_extract)
    clear hO4 x0 x1 hge hx hxm hxs hty hw5 hD' hO5 hc5 hDok' hDl' hm1 hm2 hm3 hty2
    go_wp2_with fail
    rw [← HW5.out.2, ← HW5.out.1]
    clear x2 l2 f2 hto
    refine (build_any _ w5 _ D' HO5.out.1.read HO5.out.2.2.1).mono ?_
    rintro e w6 ⟨u6, J, rfl, hJ, hx6, hc6⟩
    have H6 := Lib.hid (And.intro hJ (And.intro hx6 hc6))
    clear hJ hx6 hc6
    have HM6 : Hid (ML w6) := Lib.hid (by
      have h4 := HM.out.new (H2.out.2.trans H4.out)
      obtain ⟨m0, hm0⟩ := HM.out
      have hg : g2 ≠ 0 := by have := lt_of_cell hm0; have := H1.out.size; simp only at *; omega
      obtain ⟨m4, hm4⟩ := h4
      exact ML.new ⟨m4, (HO5.out.2.1.cell (lt_of_cell hm4) (by simp; exact fun e => hg e.symm)).trans hm4⟩ H6.out.2.2)
    have hci : (c : Int) ≤ L.size := by omega
    have hc0 : (0 : Int) ≤ (c : Int) := by omega
    go_wp2_with fail
    refine (restore_any _ w6 _ D' (D.take m) (L.extract 0 c) ((HO5.out.1.read).same H6.out.2.2) HO5.out.2.2.1 (HM6.out) (by rw [Hex.out]; omega) Hm.out.1 (take_nodup HDok.out.nd m) (by rw [List.length_take]; omega) (fun d hd => (HDok.out.ok d (List.mem_of_mem_take hd)).2)).mono ?_
    rintro e w7 ⟨u7, sv, K, S, rfl, hK, hx7, hs7, hpS, hc7⟩
    obtain ⟨as7, cs7, rfl, _, _⟩ := hs7.shape
    have hg2 : ∀ g, w2.heap.size ≤ g ∧ g < w3.heap.size → ¬ g ∈ [g2] := fun g hg hm => by have := List.mem_singleton.1 hm; omega
    have hI7 := (((H3.out.1.same H4c.out).kept HO5.out.2.1.toP hg2 hg2).same H6.out.2.2).same hc7
    have hD7 := (HO5.out.1.read.same H6.out.2.2).same hc7
    have hu6 := H6.out.2.1.same hc7
    have hjI : j < I.length := by rw [HIe.out.2.2]; exact hjl
    have hjD : j < D'.length := by rw [HO5.out.2.2.2]; exact hjl
    have hIj : I.getD j ie0 = entO (nm, ver, tx) := by
      rw [getD_eqI hjI]
      have : I[j] = (D.map entO)[j]'(by simpa using hjl) := by
        have h1 := HIe.out.1
        subst h1
        rfl
      rw [this, List.getElem_map, Hx.out.1]
    have hDj : D'.getD j dc0 = (nm, ver, ty) := by
      rw [List.getD_eq_getElem?_getD, Hx.out.2.1, List.getElem?_set_self hjl]
      rfl
    obtain ⟨g7, o7, he7, _, _, k1, _⟩ := hI7.cells j hjI
    obtain ⟨g8, o8, he8, _, k2, _, k3⟩ := hD7.cells j hjD
    cases he7
    cases he8
    rw [hIj] at k1
    rw [hDj] at k2 k3
    rw [Nat.zero_add] at k2 k3
    have k1 : w7.cell? ⟨g7, o7 + j * 3 + 1, none⟩ = some (.int .u32 (ck tx.data.toList : Nat)) := k1
    have k2 : w7.cell? ⟨g2, j * 3, none⟩ = some (.string nm) := k2
    have k3 : w7.cell? ⟨g2, j * 3 + 2, none⟩ = some (.string ty) := k3
    have hjI1 : (j : Int) < I.length := by omega
    have Hck := Lib.hid (fun W => checksum_same ty W (by have := Hx.out.2.2; omega))
    have Hch7 := Lib.hid ((((H2.out.2.trans H4.out).comp HO5.out.2.1 fun g hg => Or.inr (by rw [List.mem_singleton.1 hg]; have := H1.out.size; omega)).trans H6.out.2.2).trans hc7)
    have H7 := Lib.hid (And.intro hK (And.intro hx7 (And.intro hs7 (And.intro hpS hu6))))
    obtain ⟨z1, hz1⟩ : ∃ z, z = ck ty.data.toList := ⟨_, rfl⟩
    obtain ⟨z2, hz2⟩ : ∃ z, z = ck tx.data.toList := ⟨_, rfl⟩
    rw [← hz1] at Hck
    rw [← hz2] at k1
    rw [← hz1, ← hz2] at Hp
    clear hg2 hI7 hD7 hu6 hjI hjD hIj hDj hK hx7 hs7 hpS hc7 hz1 hz2
    have lk1 := lt_of_cell k1
    have lk3 := lt_of_cell k3
    go_upto_region 16 with (fail)
    by_cases hck : z1 = z2
    · subst hck
      refine wp_region_readsQ 11 (by kernel_rfl) (by kernel_rfl) ?_
      intro wd hwd
      simp only [List.take_succ_cons, List.take_zero, List.drop_succ_cons, List.drop_zero]
      have hcd : Chg [] w7 wd := by rw [hwd]; exact (Chg.refl _ _).drew
      have r1 := (hcd.cell lk1 (by simp)).trans k1
      have r3 := (hcd.cell lk3 (by simp)).trans k3
      have Hcd := Lib.hid hcd
      clear hcd hwd k1 k2 k3 lk1 lk3
      iterate 5 go_big_quiet_step (fail)
      go_big_quiet_want
      go_big_quiet_op
      refine ⟨_, Hck.out _, ?_⟩
      go_big_quiet_on
      repeat go_big_quiet_step (fail)
      refine wpQuiet_nil ?_
      go_wp2_with fail
      refine (example_any _).mono ?_
      rintro e w8 ⟨rfl, hc8⟩
      have H8 := Lib.hid hc8
      clear hc8
      go_wp2_with fail
      go_ret
      exact ⟨rfl, (Hch7.out.trans Hcd.out).trans H8.out⟩
    · have Hpp := Lib.hid (Hp.out hck)
      have hz0 : ¬ ((z1 : Int) = (z2 : Int)) := by omega
      have hz3 : ((z1 : Int) == (z2 : Int)) = false := by simpa using hz0
      refine wp_region_readsQ 11 (by kernel_rfl) (by kernel_rfl) ?_
      intro wd hwd
      simp only [List.take_succ_cons, List.take_zero, List.drop_succ_cons, List.drop_zero]
      have hcd : Chg [] w7 wd := by rw [hwd]; exact (Chg.refl _ _).drew
      have lk2 := lt_of_cell k2
      have r1 := (hcd.cell lk1 (by simp)).trans k1
      have r2 := (hcd.cell lk2 (by simp)).trans k2
      have r3 := (hcd.cell lk3 (by simp)).trans k3
      have hmb : memb nm S = true := memb_true (H7.out.2.2.2.1.mem_iff.2 (by rw [Hx.out.2.1]; exact Hpp.out.mem))
      have hcont := refContainsS _ wd _ _ nm (H7.out.2.2.1.same hcd)
      rw [hmb] at hcont
      have Hcont := Lib.hid hcont
      have hKJ : K = J := H7.out.1.unique (by rw [Hx.out.2.1, Hpp.out.eff, ← Hx.out.2.1]; exact H6.out.1)
      have HKJ := Lib.hid hKJ
      have Hcd := Lib.hid hcd
      clear hcd hwd k1 k2 k3 lk1 lk2 lk3 hmb hcont hKJ hck
      iterate 5 go_big_quiet_step (fail)
      go_big_quiet_want
      go_big_quiet_op
      refine ⟨_, Hck.out _, ?_⟩
      go_big_quiet_on
      repeat go_big_quiet_step (fail)
      refine wpQuiet_nil ?_
      go_wp2_with fail
      refine Hcont.out.mono ?_
      rintro e wX ⟨rfl, hX⟩
      rw [hX]
      clear hX
      by_cases hcL : c = L.size
      · have hS1 : S.length = 1 := by
          rw [H7.out.2.2.2.1.length_eq, Hx.out.2.1]
          exact Hpp.out.one (Hm.out.2 hcL)
        have hcl1 : ((c : Int) == (L.size : Int)) = true := by simp; omega
        have hcl2 : decide ((c : Int) = (L.size : Int)) = true := decide_eq_true (by omega)
        have hcl3 : ((c : Int) = (L.size : Int)) := by omega
        have hsl : ((S.length : Int) != 1) = false := by rw [hS1]; rfl
        have hsl2 : ((S.length : Int) = 1) := by omega
        go_wp2_with fail
        refine (example_any _).mono ?_
        rintro e w8 ⟨rfl, hc8⟩
        have hu6 := H7.out.2.2.2.2.same (Hcd.out.trans hc8)
        rw [← HKJ.out] at hu6
        have Heq := Lib.hid (eqIx_any _ _ _ _ w8 _ _ K (H7.out.2.1.same (Hcd.out.trans hc8)) hu6)
        have H8 := Lib.hid (Hcd.out.trans hc8)
        clear hc8 hu6
        go_wp2_with fail
        refine Heq.out.mono ?_
        rintro e w9 ⟨rfl, hc9⟩
        have H9 := Lib.hid (H8.out.trans hc9)
        clear hc9
        go_wp2_with fail
        go_ret
        exact ⟨rfl, Hch7.out.trans H9.out⟩
      · have hcl1 : ((c : Int) == (L.size : Int)) = false := by simp; omega
        have hcl3 : ¬ ((c : Int) = (L.size : Int)) := by omega
        go_wp2_with fail
        refine (example_any _).mono ?_
        rintro e w8 ⟨rfl, hc8⟩
        have hu6 := H7.out.2.2.2.2.same (Hcd.out.trans hc8)
        rw [← HKJ.out] at hu6
        have Heq := Lib.hid (eqIx_any _ _ _ _ w8 _ _ K (H7.out.2.1.same (Hcd.out.trans hc8)) hu6)
        have H8 := Lib.hid (Hcd.out.trans hc8)
        clear hc8 hu6
        go_wp2_with fail
        refine Heq.out.mono ?_
        rintro e w9 ⟨rfl, hc9⟩
        have H9 := Lib.hid (H8.out.trans hc9)
        clear hc9
        go_wp2_with fail
        go_ret
        exact ⟨rfl, Hch7.out.trans H9.out⟩
end Go.Proofs.YticfigfipbcmhaaGreatDoor
