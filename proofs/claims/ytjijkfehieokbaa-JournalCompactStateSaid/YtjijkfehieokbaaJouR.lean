/- journal.Compact, and JournalCompactState's walk. -/
import Derived.Test.YtjijkfehieokbaaJouP
import Derived.Test.YtjijkfehieokbaaJouF
namespace Go.Proofs.Ytjijkfehieokbaa
open Go.RowKit Go.ChangeMaps Go.MapKept
set_option linter.unusedVariables false
set_option linter.unusedSimpArgs false
theorem sub_len : ∀ (st rs : List Rec), st.Nodup → (∀ r ∈ st, r ∈ rs) → (logOf st).length ≤ (logOf rs).length := by
  intro st
  induction st with
  | nil => intro rs _ _; simp [logOf]
  | cons x st ih =>
    intro rs hn hs
    obtain ⟨h1, h2⟩ := List.nodup_cons.1 hn
    obtain ⟨a, b, rfl⟩ := List.append_of_mem (hs x (by simp))
    have h3 := ih (a ++ b) h2 fun r hr => by
      have := hs r (by simp [hr])
      simp only [List.mem_append, List.mem_cons] at this ⊢
      rcases this with h | rfl | h
      · exact .inl h
      · exact absurd hr h1
      · exact .inr h
    simp only [logOf, List.map_cons, List.flatten_cons, List.map_append, List.flatten_append, List.length_append] at h3 ⊢
    omega
theorem logOf_take_le (st : List Rec) (k : Nat) : (logOf (st.take k)).length ≤ (logOf st).length := by
  have h : logOf st = logOf (st.take k) ++ logOf (st.drop k) := by
    conv => lhs; rw [← List.take_append_drop k st]
    unfold logOf
    rw [List.map_append, List.flatten_append]
  rw [h, List.length_append]
  omega
theorem logOf_step (st : List Rec) (k : Nat) (hk : k < st.length) : logOf (st.take (k + 1)) = logOf (st.take k) ++ (st.getD k Rec.zero).frame := by
  rw [List.take_succ_eq_append_getElem hk, logOf_snoc, List.getD_eq_getElem?_getD, List.getElem?_eq_getElem hk]
  rfl
theorem IsState.sub {rs st : List Rec} (h : IsState rs st) : ∀ r ∈ st, r ∈ rs := fun r hr => (lastRec_mem ((h.mem r).1 hr).1).1
/-- what Compact leaves -/
def CompactPost (rs : List Rec) (w : World) (e : Ending) (w' : World) : Prop :=
  ∃ st, e = .returned (.tuple #[.string (bs (logOf st)), .int .i64 0]) ∧ IsState rs st ∧ st.length ≤ rs.length ∧ Chg [] w w'
theorem ok_size {r : Rec} (h : r.ok) : (bs r.pay).size ≤ 4000 ∧ r.key.size ≤ maxLen := by
  obtain ⟨h1, h2⟩ := Rec.ok_key h
  have e1 : r.key.data.toList.length = r.key.size := Array.length_toList
  have e2 : r.val.data.toList.length = r.val.size := Array.length_toList
  constructor
  · rw [bs_size]; simp [Rec.pay]; omega
  · unfold maxLen; omega
set_option maxRecDepth 100000 in
set_option maxHeartbeats 4000000 in
theorem compact_any (w : World) (rs : List Rec) (hok : ∀ r ∈ rs, r.ok) (hl : (logOf rs).length ≤ 40000) (hn : rs.length ≤ 20000) :
    Calls Try.prog 18 #[.string (bs (logOf rs))] w (CompactPost rs w) := by
  have hsz : (bs (logOf rs)).size = (logOf rs).length := bs_size _
  have Hsz := Lib.hid hsz
  clear hsz
  go_enter Try.func18, Try.ntmps18
  go_wp2_with fail
  refine (read_any _ _ (by rw [Hsz.out]; exact hl)).mono ?_
  rintro e w3 ⟨c3, v3, rs3, n3, rfl, hown3, hrd⟩
  rw [bs_data, scan_whole rs hok] at hrd ⊢
  obtain ⟨e3, rfl⟩ := hrd rfl
  subst e3
  have Hok := Lib.hid hok
  have r3 := hown3.recs
  have C3 := Lib.hid c3
  clear hown3 hrd c3 hok
  simp only at r3 ⊢
  go_wp2_with fail
  refine (state_any _ _ rs3 r3 (by omega) (fun r hr => (ok_size (Hok.out r hr)).2)).mono ?_
  rintro e w4 ⟨vb, sb, rfl, hsb, hrb, hlb, c4⟩
  obtain ⟨ab, cb, rfl, hmb, hcb⟩ := hrb.shape
  have Hrb := Lib.hid hrb
  have Hsb := Lib.hid hsb
  have C4 := Lib.hid (C3.out.trans c4)
  have hsl := sub_len sb rs3 hsb.nodup hsb.sub
  unfold maxLen at hmb
  clear hcb hrb hsb r3 c4
  go_wp2_with fail
  go_loopw [7, 22] (fun cc jj wr => ∃ k : Nat, k ≤ sb.length ∧ jj = .int .i64 (k : Nat) ∧ cc = .string (bs (logOf (sb.take k))) ∧ Chg [] w4 wr) (fun _ jj _ => sb.length - (intOf jj).toNat)
  case atStart => exact ⟨0, by omega, rfl, by simp [logOf, bs], Chg.refl _ _⟩
  case round =>
    obtain ⟨k, hk, rfl, rfl, hc⟩ := hrel
    have Hc := Lib.hid hc
    by_cases hlt : k < sb.length
    · have hk1 : (k : Int) < sb.length := by omega
      obtain ⟨_, _, hv, _, hcells⟩ := Hrb.out.shape
      obtain ⟨g, off, hg, q0, q1, q2⟩ := hcells k hlt
      simp only [Value.slice.injEq] at hv
      obtain ⟨rfl, -, rfl⟩ := hv
      subst hg
      have hxm : sb.getD k Rec.zero ∈ sb := by rw [List.getD_eq_getElem?_getD, List.getElem?_eq_getElem hlt]; simp
      have hst := logOf_step sb k hlt
      have hle := logOf_take_le sb (k + 1)
      obtain ⟨x, hx⟩ : ∃ x, sb.getD k Rec.zero = x := ⟨_, rfl⟩
      rw [hx] at q0 q1 q2 hxm hst
      have lq := lt_of_cell q0
      have p0 := (hc.cell (p := ⟨g, off + k * 3, none⟩) lq (by simp)).trans q0
      have p1 := (hc.cell (p := ⟨g, off + k * 3 + 1, none⟩) lq (by simp)).trans q1
      have p2 := (hc.cell (p := ⟨g, off + k * 3 + 2, none⟩) lq (by simp)).trans q2
      have hxo := Hok.out x (Hsb.out.sub x hxm)
      have Hst := Lib.hid hst
      have hsz1 : (bs (logOf (sb.take k))).size = (logOf (sb.take k)).length := bs_size _
      have hsz2 : (bs x.frame).size = x.frame.length := bs_size _
      have hadd : (logOf (sb.take (k + 1))).length = (logOf (sb.take k)).length + x.frame.length := by rw [hst, List.length_append]
      have hb : (bs (logOf (sb.take k))).size + (bs x.frame).size ≤ 40000 := by omega
      have Hxo := Lib.hid hxo
      clear hc hcells q0 q1 q2 hx hst hsz1 hsz2 hxm hadd hxo hle
      go_wp2_with fail
      refine (payload_any x _ (Rec.ok_key Hxo.out).1 (Rec.ok_key Hxo.out).2).mono ?_
      rintro e w5 ⟨rfl, c5⟩
      have C5 := Lib.hid (((Chg.refl [] wr).alloc _).new c5)
      clear c5
      go_wp2_with fail
      refine (frame_any (bs x.pay) _ (by have := (ok_size Hxo.out).1; omega)).mono ?_
      rintro e w6 ⟨rfl, c6⟩
      rw [bs_data, show frameL x.pay = x.frame from rfl]
      have C6 := Lib.hid (C5.out.trans c6)
      clear c6
      go_wp2_with fail
      exact ⟨⟨k + 1, by omega, by go_num, by rw [Hst.out]; rfl, Hc.out.trans C6.out⟩, by simp [intOf]; omega⟩
    · obtain rfl : k = sb.length := by omega
      have hk1 : ¬ ((sb.length : Int) < sb.length) := by omega
      go_wp2_with fail
      go_ret2
      exact ⟨sb, rfl, Hsb.out, hlb, C4.out.trans Hc.out⟩
set_option maxRecDepth 100000 in
set_option maxHeartbeats 4000000 in
theorem compactState_any (w : World) (v : Value) (rl : List Rec) (h : RecsAt w v rl) :
    Calls Try.prog 7 #[v] w fun e w' => e = .returned (.bool true) ∧ Chg [] w w' := by
  go_enter Try.func7, Try.ntmps7
  go_wp2_with fail
  refine (journalExample_any _).mono ?_
  rintro e w1 ⟨rfl, c1⟩
  go_wp2_with fail
  refine (written_any _ v rl (h.same c1)).mono ?_
  rintro e w2 ⟨c2, rs, vv, rfl, hown, hl12, hlen, hok⟩
  have Hown := Lib.hid hown
  have Hok := Lib.hid hok
  have C2 := Lib.hid (c1.trans c2)
  clear hown hok c1 c2
  go_wp2_with fail
  refine (compact_any _ rs Hok.out hlen (by omega)).mono ?_
  rintro e w3 ⟨st, rfl, hst, hsl, c3⟩
  have Hst := Lib.hid hst
  have C3 := Lib.hid c3
  have hle := sub_len st rs hst.nodup hst.sub
  have Hks := Lib.hid (show ∀ r ∈ st, r.ok from fun r hr => Hok.out r (hst.sub r hr))
  have hsz1 : (bs (logOf st)).size = (logOf st).length := bs_size _
  have hsz2 : (bs (logOf rs)).size = (logOf rs).length := bs_size _
  have hbb : ((bs (logOf st)).size : Int) ≤ ((bs (logOf rs)).size : Int) := by omega
  have hrd1 : (bs (logOf st)).size ≤ 40000 := by omega
  have hsn : st.length ≤ 20000 := by omega
  have Hrd1 := Lib.hid hrd1
  have Hsn := Lib.hid hsn
  clear hst c3 hsz1 hsz2 hrd1 hsn
  go_wp2_with fail
  refine (read_any _ _ Hrd1.out).mono ?_
  rintro e w4 ⟨c4, v4, rs4, n4, rfl, hown4, hrd⟩
  rw [bs_data, scan_whole st Hks.out] at hrd ⊢
  obtain ⟨e4, rfl⟩ := hrd rfl
  subst e4
  have Hown4 := Lib.hid hown4
  have C4 := Lib.hid c4
  clear hown4 hrd c4
  simp only at Hown4 ⊢
  go_wp2_with fail
  refine (compact_any _ rs4 Hks.out (by omega) Hsn.out).mono ?_
  rintro e w5 ⟨st5, rfl, hst5, -, c5⟩
  obtain rfl : rs4 = st5 := Hst.out.again.unique hst5
  have C5 := Lib.hid c5
  clear hst5 c5
  have hself : ((bs (logOf rs4)).toList == (bs (logOf rs4)).toList) = true := by simp
  go_wp2_with fail
  refine (journalExample_any _).mono ?_
  rintro e w6 ⟨rfl, c6⟩
  have C6 := Lib.hid c6
  clear c6
  go_wp2_with fail
  refine (state_any _ _ rs (((Hown.out.same C3.out).same C4.out).same C5.out |>.same C6.out).recs (by omega) (fun r hr => (ok_size (Hok.out r hr)).2)).mono ?_
  rintro e w7 ⟨v7, s7, rfl, hs7, hr7, hl7, c7⟩
  obtain rfl : rs4 = s7 := Hst.out.unique hs7
  have Hr7 := Lib.hid hr7
  have C7 := Lib.hid c7
  clear hs7 hr7 c7
  have r4 := ((Hown4.out.same C5.out).same C6.out |>.same C7.out).recs
  have R4 := Lib.hid r4
  clear r4
  go_wp2_with fail
  refine (recsEqual_any _ _ _ rs4 R4.out Hr7.out).mono ?_
  rintro e w8 ⟨rfl, c8⟩
  have C8 := Lib.hid c8
  clear c8
  go_wp2_with fail
  refine (state_any _ _ rs4 (R4.out.same C8.out) Hsn.out (fun r hr => (ok_size (Hks.out r hr)).2)).mono ?_
  rintro e w9 ⟨v9, s9, rfl, hs9, hr9, hl9, c9⟩
  obtain rfl : rs4 = s9 := Hst.out.again.unique hs9
  have Hr9 := Lib.hid hr9
  have C9 := Lib.hid c9
  clear hs9 hr9 c9
  go_wp2_with fail
  refine (recsEqual_any _ _ _ rs4 Hr9.out ((R4.out.same C8.out).same C9.out)).mono ?_
  rintro e w10 ⟨rfl, c10⟩
  go_wp2_with fail
  go_ret
  exact ⟨rfl, C2.out.trans (C3.out.trans (C4.out.trans (C5.out.trans (C6.out.trans (C7.out.trans (C8.out.trans (C9.out.trans c10)))))))⟩
end Go.Proofs.Ytjijkfehieokbaa
