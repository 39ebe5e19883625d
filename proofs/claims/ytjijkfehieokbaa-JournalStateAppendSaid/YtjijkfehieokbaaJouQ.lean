/- JournalStateAppend: the law's walk. -/
import Derived.Test.YtjijkfehieokbaaJouP
import Derived.Test.YtjijkfehieokbaaJouF
import Derived.Test.YtjijkfehieokbaaStep
import Derived.Test.YtjijkfehieokbaaStill
import Derived.Deep.RegionLaw
import Derived.Deep.RegionHeld3
namespace Go.Proofs.Ytjijkfehieokbaa
open Go.RowKit Go.ChangeMaps Go.MapKept
set_option linter.unusedVariables false
set_option linter.unusedSimpArgs false
theorem own_le {w : World} {base base' : Nat} {v : Value} {rs : List Rec} (h : OwnRecs w base v rs) (hb : base' ≤ base) : OwnRecs w base' v rs :=
  ⟨h.1, h.2.imp id fun ⟨g, cap, cur, e, h1, r⟩ => ⟨g, cap, cur, e, Nat.le_trans hb h1, r⟩⟩
theorem own_shapeR {w : World} {base : Nat} {v : Value} {rs : List Rec} (h : OwnRecs w base v rs) : ∃ a cap, v = .slice a rs.length cap := by
  rcases h.2 with ⟨e, h0⟩ | ⟨g, cap, cur, e, _⟩
  · exact ⟨none, 0, by rw [e, h0]⟩
  · exact ⟨_, _, e⟩
/-- how many records have a key -/
def cntK (key : ByteArray) (l : List Rec) : Nat := l.countP fun r => decide (r.key = key)
theorem cntK_step (key : ByteArray) (l : List Rec) (k : Nat) (hk : k < l.length) : cntK key (l.take (k + 1)) = cntK key (l.take k) + if (l.getD k Rec.zero).key = key then 1 else 0 := by
  unfold cntK
  rw [List.take_succ_eq_append_getElem hk, List.countP_append, List.countP_singleton, List.getD_eq_getElem?_getD, List.getElem?_eq_getElem hk]
  simp
theorem cntK_le (key : ByteArray) (l : List Rec) : cntK key l ≤ l.length := List.countP_le_length
theorem cntK_state {rs st : List Rec} {r : Rec} (h : IsState (rs ++ [r]) st) : cntK r.key st = if r.del then 0 else 1 := by
  unfold cntK
  cases hd : r.del with
  | true =>
    rw [if_pos rfl, List.countP_eq_zero]
    intro x hx hk
    have := (h.own (of_decide_eq_true hk)).1 hx
    rw [hd] at this
    exact absurd this.2 (by simp)
  | false =>
    rw [if_neg (by simp), List.countP_eq_length_filter]
    have hm : ∀ x, x ∈ st.filter (fun x => decide (x.key = r.key)) → x = r := fun x hx => by
      obtain ⟨h1, h2⟩ := List.mem_filter.1 hx
      exact ((h.own (of_decide_eq_true h2)).1 h1).1
    have hr : r ∈ st.filter (fun x => decide (x.key = r.key)) := List.mem_filter.2 ⟨(h.own rfl).2 ⟨rfl, hd⟩, by simp⟩
    have hn := h.nodup.filter (fun x => decide (x.key = r.key))
    generalize st.filter (fun x => decide (x.key = r.key)) = l at hm hr hn
    match l, hm, hr, hn with
    | [], _, hr, _ => simp at hr
    | [x], _, _, _ => rfl
    | x :: y :: l, hm, _, hn =>
      have h1 := hm x (by simp)
      have h2 := hm y (by simp)
      subst h1 h2
      simp at hn
set_option maxRecDepth 100000 in
set_option maxHeartbeats 8000000 in
theorem stateAppend_any (w : World) (v : Value) (key val : ByteArray) (del : Bool) (rl : List Rec) (h : RecsAt w v rl) (hks : ∀ r ∈ rl, r.key.size ≤ maxLen) (hkey : key.size ≤ maxLen) :
    Calls Try.prog 6 #[v, .agg #[.string key, .string val, .bool del]] w fun e w' => e = .returned (.bool true) ∧ Chg [] w w' := by
  obtain ⟨i0, hi, hz0, hz1, hz2⟩ := info_parts Try.infoRec
  have Hi0 := Lib.hid hi
  have Hz0 := Lib.hid hz0
  have Hz1 := Lib.hid hz1
  have Hz2 := Lib.hid hz2
  clear hi hz0 hz1 hz2
  obtain ⟨kk, hkk⟩ : ∃ kk : Nat, min (rl.length : Int) 30 = kk := ⟨(min (rl.length : Int) 30).toNat, by omega⟩
  have hkl : kk ≤ rl.length := by omega
  have hk30 : kk ≤ 30 := by omega
  obtain ⟨rs, hrs⟩ : ∃ rs, rs = rl.take kk := ⟨_, rfl⟩
  have hrl : rs.length = kk := by rw [hrs, List.length_take]; omega
  have Hk := Lib.hid (show ∀ r ∈ rs, r.key.size ≤ maxLen from fun r hr => hks r (List.mem_of_mem_take (hrs ▸ hr)))
  have Hk2 := Lib.hid (show ∀ r ∈ rs ++ [⟨key, val, del⟩], r.key.size ≤ maxLen from fun r hr => by
    rcases List.mem_append.1 hr with hr | hr
    · exact Hk.out r hr
    · rw [List.mem_singleton.1 hr]; exact hkey)
  have Hrl := Lib.hid (show rs.length ≤ 30 by omega)
  obtain ⟨A, cap, hAv, HR⟩ : ∃ A cap, v = .slice A rl.length cap ∧ (kk : Int) ≤ cap ∧ Recs w (.slice A rs.length cap) rs := by
    rcases h with ⟨rfl, rfl⟩ | ⟨a, cap, rfl, rfl⟩ | ⟨g, off, cap, rfl, hc1, hc2, hc3⟩
    · have : kk = 0 := by simp at hkl; omega
      subst this
      rw [hrs]
      exact ⟨none, 0, rfl, by simp, .inl ⟨none, 0, rfl, rfl⟩⟩
    · have : kk = 0 := by simp at hkl; omega
      subst this
      rw [hrs]
      exact ⟨some a, cap, rfl, by omega, .inl ⟨some a, cap, rfl, rfl⟩⟩
    · unfold maxLen at hc2
      refine ⟨some ⟨g, off, none⟩, cap, rfl, by omega, .inr ⟨g, off, cap, rfl, by omega, by unfold maxLen; omega, fun i hi => ?_⟩⟩
      have e : rs.getD i Rec.zero = rl.getD i Rec.zero := by
        rw [hrs, List.getD_eq_getElem?_getD, List.getElem?_take_of_lt (by omega), ← List.getD_eq_getElem?_getD]
      rw [e]
      exact hc3 i (by omega)
  obtain ⟨hkc, hR0⟩ := HR
  subst hAv
  have HR := Lib.hid hR0
  have hrlm : rl.length ≤ 9223372036854775807 := by
    rcases h with ⟨_, rfl⟩ | ⟨_, _, _, rfl⟩ | ⟨_, _, _, _, h1, h2, _⟩
    · simp
    · simp
    · unfold maxLen at h2; omega
  have Hrk := Lib.hid hrl
  have Hrs := Lib.hid hrs
  clear h hks hkey hR0 hrs hrl
  go_enter Try.func6, Try.ntmps6
  go_wp2_with fail
  refine (journalExample_any _).mono ?_
  rintro e w1 ⟨rfl, c1⟩
  have hc1 : Chg [] w w1 := ((Chg.refl [] w).alloc _).new c1
  have hb1 : w1.heap[w.heap.size]? = some (.cells #[.string key, .string val, .bool del] 31 (0, 0)) := (c1.block _ (by simp) (by simp)).trans (heap_at _ _ _ rfl)
  have Hc1 := Lib.hid hc1
  have Hb1 := Lib.hid hb1
  clear c1 hc1 hb1
  go_wp2_with fail
  have hin : Recs w1 (.slice A kk cap) rs := by have := HR.out.same Hc1.out; rwa [Hrk.out] at this
  have Hin := Lib.hid hin
  refine (state_any _ _ rs hin (by have := Hrl.out; omega) Hk.out).mono ?_
  rintro e w2 ⟨vb, sb, rfl, hsb, hrb, hlb, c2⟩
  obtain ⟨ab, cb, rfl, hmb, hcb⟩ := hrb.shape
  have Hin2 := Lib.hid (Hin.out.same c2)
  have Hrb := Lib.hid hrb
  have Hsb := Lib.hid hsb
  have hb2 := (c2.block _ (lt_of_obj Hb1.out) (by simp)).trans Hb1.out
  have Hb2 := Lib.hid hb2
  have Hc2 := Lib.hid (Hc1.out.trans c2)
  have z0 : w2.cell? ⟨w.heap.size, 0, none⟩ = some (.string key) := cell_of_heap hb2 rfl
  have z1 : w2.cell? ⟨w.heap.size, 1, none⟩ = some (.string val) := cell_of_heap hb2 rfl
  have z2 : w2.cell? ⟨w.heap.size, 2, none⟩ = some (.bool del) := cell_of_heap hb2 rfl
  have lz := lt_of_cell z0
  have lz1 : w.heap.size < w2.heap.size + 1 := by have := lz; simp only at this; omega
  have hr30 : rs.length ≤ 30 := Hrl.out
  clear hin hrb hsb c2 hb2 hcb hlb
  go_wp2_with fail
  go_region_law (first
    | (rw [if_pos (by simp [Region.wanted])]; go_simp; refine (recClone_any _ _ rs (by first | exact Hin2.out.same ((Chg.refl [] w2).drew) | exact Hin2.out.same (((Chg.refl [] w2).drew).alloc _)) (by have := Hrl.out; omega)).mono ?_; rintro e w3 ⟨v3, rfl, hown3, hc3⟩; obtain ⟨a3, c3, rfl⟩ := own_shapeR hown3; have hcw : Chg [] w2 w3 := (by first | exact ((Chg.refl [] w2).drew).trans hc3 | exact (((Chg.refl [] w2).drew).alloc _).trans hc3); have x0 := (hcw.cell (p := ⟨w.heap.size, 0, none⟩) lz (by simp)).trans z0; have x1 := (hcw.cell (p := ⟨w.heap.size, 1, none⟩) lz (by simp)).trans z1; have x2 := (hcw.cell (p := ⟨w.heap.size, 2, none⟩) lz (by simp)).trans z2; have lz3 : w.heap.size < w3.heap.size := (Nat.lt_of_lt_of_le lz hcw.size); have hle3 := hcw.size; have Hown3 := Lib.hid (own_le hown3 (base' := w2.heap.size) (by first | exact Nat.le_refl _ | simp)); have Hcw := Lib.hid hcw; have Hc3 := Lib.hid hc3; clear hown3 hcw hc3)
    | (refine step_append_own rfl _ _ _ (by rfl) w2.heap.size 31 i0 (.agg #[.string ⟨#[]⟩, .string ⟨#[]⟩, .bool false]) 3 40 Try.underlying22 Hi0.out Hz0.out Hz1.out Hz2.out rfl (by decide) (.slice a3 rs.length c3) rs.length (recVals rs) (by rfl) (World.ownsRow.alloc Hown3.out _) ⟨w3.heap.size, 0, none⟩ 1 1 [.string key, .string val, .bool del] (by rfl) (by rfl) (news_of (heap_at _ _ _ rfl)) (by simp [Value.oneCell']) (by have := Hrl.out; unfold maxLen; omega) (by omega) (by first | omega | (simp; omega)) ?_; intro v4 w4 hown4 hgr4; have hap := own_chg (World.ownsRow.alloc Hown3.out (.cells #[.string key, .string val, .bool del] 31)) hgr4; have Hc4 := Lib.hid ((Hcw.out.alloc (.cells #[.string key, .string val, .bool del] 31)).comp hap.1 (fun g hg => Or.inr (hap.2 g hg))); have Hown4 := Lib.hid hown4; clear hown4 hgr4 hap)
    | (refine step_append_own rfl _ _ _ (by rfl) w2.heap.size 31 i0 (.agg #[.string ⟨#[]⟩, .string ⟨#[]⟩, .bool false]) 3 40 Try.underlying22 Hi0.out Hz0.out Hz1.out Hz2.out rfl (by decide) (.slice a3 rs.length c3) rs.length (recVals rs) (by rfl) Hown3.out ⟨w2.heap.size, 0, none⟩ 1 1 [.string key, .string val, .bool del] (by rfl) (by rfl) (fun j u hj => (Hc3.out.cell (lt_of_cell (news_of (heap_at _ _ _ rfl) j u hj)) (by simp)).trans (news_of (heap_at _ _ _ rfl) j u hj)) (by simp [Value.oneCell']) (by have := Hrl.out; unfold maxLen; omega) (by omega) (by first | omega | (simp; omega)) ?_; intro v4 w4 hown4 hgr4; have hap := own_chg Hown3.out hgr4; have Hc4 := Lib.hid (Hcw.out.comp hap.1 (fun g hg => Or.inr (hap.2 g hg))); have Hown4 := Lib.hid hown4; clear hown4 hgr4 hap)
    | (rw [if_pos (by simp [Region.wanted])]; go_simp; refine (state_any _ _ (rs ++ [⟨key, val, del⟩]) (OwnRecs.recs (base := w2.heap.size) (by unfold OwnRecs; rw [recVals_snoc, List.length_append]; exact Hown4.out)) (by have := Hrl.out; simp; omega) Hk2.out).mono ?_; rintro e w5 ⟨va, sa, rfl, hsa, hra, hla, c5⟩; obtain ⟨aa, ca, rfl, hma, _⟩ := hra.shape; have Hra := Lib.hid hra; have Hsa := Lib.hid hsa; have Hc5 := Lib.hid (Hc4.out.trans c5); clear hsa hra hla c5))
  all_goals
    clear x0 x1 x2 lz3 hle3
    unfold maxLen at hmb hma
    go_wp2_with fail
    go_loopw [27] (fun jj wr => ∃ k : Nat, k ≤ sb.length ∧ jj = .int .i64 (k : Nat) ∧ Chg [] w2 wr ∧ Chg [] w5 wr) (fun jj _ => sb.length - (intOf jj).toNat)
    case atStart => exact ⟨0, by omega, rfl, Hc5.out, Chg.refl _ _⟩
    case round =>
      obtain ⟨k, hk, rfl, hc, hc'⟩ := hrel
      have Hc := Lib.hid hc
      have Hc' := Lib.hid hc'
      by_cases hlt : k < sb.length
      · have hk1 : (k : Int) < sb.length := by omega
        obtain ⟨_, _, hv, _, hcells⟩ := Hrb.out.shape
        obtain ⟨g, off, hg, q0, q1, q2⟩ := hcells k hlt
        simp only [Value.slice.injEq] at hv
        obtain ⟨rfl, -, rfl⟩ := hv
        subst hg
        obtain ⟨x, hx⟩ : ∃ x, sb.getD k Rec.zero = x := ⟨_, rfl⟩
        rw [hx] at q0 q1 q2
        have lq := lt_of_cell q0
        have p0 := (hc.cell (p := ⟨g, off + k * 3, none⟩) lq (by simp)).trans q0
        have p1 := (hc.cell (p := ⟨g, off + k * 3 + 1, none⟩) lq (by simp)).trans q1
        have p2 := (hc.cell (p := ⟨g, off + k * 3 + 2, none⟩) lq (by simp)).trans q2
        have y0 := (hc.cell (p := ⟨w.heap.size, 0, none⟩) lz (by simp)).trans z0
        have lp := lt_of_cell p0
        have ly := lt_of_cell y0
        have hxm : x ∈ sb := by rw [← hx, List.getD_eq_getElem?_getD, List.getElem?_eq_getElem hlt]; simp
        have Hxm := Lib.hid hxm
        clear hc hc' hcells q0 q1 q2 lq hx hxm
        by_cases hkq : x.key = key
        · obtain ⟨xk, xv, xd⟩ := x
          simp only at hkq p0 p1 p2
          subst hkq
          have hb1 : (xk.toList == xk.toList) = true := by simp
          go_wp2_with fail
          go_quiet (fail)
          go_wp2_with fail
          go_roundw
          case rel => exact ⟨k + 1, by omega, by go_num, Hc.out.trans ((Chg.refl [] wr).drewN _), Hc'.out.trans ((Chg.refl [] wr).drewN _)⟩
          case measure => simp [intOf]; omega
        · have hb1 : (x.key.toList == key.toList) = false := by rw [beq_eq_false_iff_ne, ByteArray.toList_eq, ByteArray.toList_eq]; exact fun e => hkq (key_eq.2 e)
          have hb2 : (x.key.toList != key.toList) = true := by rw [bne, hb1]; rfl
          have hmem : decide (x ∈ sa) = true := decide_eq_true ((IsState.other Hsb.out Hsa.out (r := ⟨key, val, del⟩) hkq).1 Hxm.out)
          have Hmem := Lib.hid hmem
          clear hkq hmem
          go_wp2_with fail
          go_region_held3 (fun w' => w'.cell? ⟨g, off + k * 3, none⟩ = some (.string x.key) ∧ w'.cell? ⟨g, off + k * 3 + 1, none⟩ = some (.string x.val) ∧ w'.cell? ⟨g, off + k * 3 + 2, none⟩ = some (.bool x.del) ∧ w'.cell? ⟨w.heap.size, 0, none⟩ = some (.string key))
            (first | (go_keep; done) | (exact kS6))
            ((go_at_call 17; refine (recContains_any _ _ sa x (Hra.out.same (Hc'.out.trans ((Chg.refl [] wr).drew)))).mono ?_; rintro e w6 ⟨rfl, c6⟩; rw [Hmem.out]; have H6 := Lib.hid (((Chg.refl [] wr).drew).trans c6); have kS6 : w6.cell? ⟨g, off + k * 3, none⟩ = some (.string x.key) ∧ w6.cell? ⟨g, off + k * 3 + 1, none⟩ = some (.string x.val) ∧ w6.cell? ⟨g, off + k * 3 + 2, none⟩ = some (.bool x.del) ∧ w6.cell? ⟨w.heap.size, 0, none⟩ = some (.string key) := ⟨(H6.out.cell (p := ⟨g, off + k * 3, none⟩) lp (by simp)).trans p0, (H6.out.cell (p := ⟨g, off + k * 3 + 1, none⟩) lp (by simp)).trans p1, (H6.out.cell (p := ⟨g, off + k * 3 + 2, none⟩) lp (by simp)).trans p2, (H6.out.cell (p := ⟨w.heap.size, 0, none⟩) ly (by simp)).trans y0⟩; clear c6))
          all_goals
            go_wp2_with fail
            go_roundw
            case rel => exact ⟨k + 1, by omega, by go_num, Hc.out.trans H6.out, Hc'.out.trans H6.out⟩
            case measure => simp [intOf]; omega
      · obtain rfl : k = sb.length := by omega
        have hk1 : ¬ ((sb.length : Int) < sb.length) := by omega
        go_wp2_with fail
        go_loopw [8, 50] (fun cc jj wr => ∃ k : Nat, k ≤ sa.length ∧ jj = .int .i64 (k : Nat) ∧ cc = .int .i64 (cntK key (sa.take k) : Nat) ∧ Chg [] w2 wr ∧ Chg [] w5 wr) (fun _ jj _ => sa.length - (intOf jj).toNat)
        case atStart => exact ⟨0, by omega, rfl, by simp [cntK], Hc.out, Hc'.out⟩
        case round =>
          obtain ⟨k2, hk2, rfl, rfl, hd, hd'⟩ := hrel
          have Hd := Lib.hid hd
          have Hd' := Lib.hid hd'
          have y0 := (hd.cell (p := ⟨w.heap.size, 0, none⟩) lz (by simp)).trans z0
          have y1 := (hd.cell (p := ⟨w.heap.size, 1, none⟩) lz (by simp)).trans z1
          have y2 := (hd.cell (p := ⟨w.heap.size, 2, none⟩) lz (by simp)).trans z2
          have hcl : cntK key (sa.take k2) ≤ k2 := Nat.le_trans (cntK_le _ _) (by rw [List.length_take]; omega)
          by_cases hlt2 : k2 < sa.length
          · have hk3 : (k2 : Int) < sa.length := by omega
            obtain ⟨_, _, hv, _, hcells⟩ := Hra.out.shape
            obtain ⟨g, off, hg, q0, q1, q2⟩ := hcells k2 hlt2
            simp only [Value.slice.injEq] at hv
            obtain ⟨rfl, -, rfl⟩ := hv
            subst hg
            obtain ⟨x, hx⟩ : ∃ x, sa.getD k2 Rec.zero = x := ⟨_, rfl⟩
            have hcs : cntK key (sa.take (k2 + 1)) = cntK key (sa.take k2) + if x.key = key then 1 else 0 := by rw [cntK_step _ _ _ hlt2, hx]
            rw [hx] at q0 q1 q2
            have lq := lt_of_cell q0
            have p0 := (hd'.cell (p := ⟨g, off + k2 * 3, none⟩) lq (by simp)).trans q0
            have p1 := (hd'.cell (p := ⟨g, off + k2 * 3 + 1, none⟩) lq (by simp)).trans q1
            have p2 := (hd'.cell (p := ⟨g, off + k2 * 3 + 2, none⟩) lq (by simp)).trans q2
            have hxm : x ∈ sa := by rw [← hx, List.getD_eq_getElem?_getD, List.getElem?_eq_getElem hlt2]; simp
            have Hxm := Lib.hid hxm
            obtain ⟨cn, hcn⟩ : ∃ cn, cntK key (sa.take k2) = cn := ⟨_, rfl⟩
            rw [hcn] at hcs hcl ⊢
            clear hd hd' hcells q0 q1 q2 lq hx hxm hcn
            by_cases hkq : x.key = key
            · rw [if_pos hkq] at hcs
              have Hcs := Lib.hid hcs
              obtain ⟨xk, xv, xd⟩ := x
              simp only at hkq p0 p1 p2
              subst hkq
              have hb1 : (xk.toList == xk.toList) = true := by simp
              clear hcs
              go_wp2_with fail
              go_quiet (fail)
              go_wp2_with fail
              go_roundw
              case rel => exact ⟨k2 + 1, by omega, by go_num, by rw [Hcs.out]; go_num, Hd.out.trans ((Chg.refl [] wr).drewN _), Hd'.out.trans ((Chg.refl [] wr).drewN _)⟩
              case measure => simp [intOf]; omega
            · rw [if_neg hkq] at hcs
              have Hcs := Lib.hid hcs
              have hb1 : (x.key.toList == key.toList) = false := by rw [beq_eq_false_iff_ne, ByteArray.toList_eq, ByteArray.toList_eq]; exact fun e => hkq (key_eq.2 e)
              have hmem : decide (x ∈ sb) = true := decide_eq_true ((IsState.other Hsb.out Hsa.out (r := ⟨key, val, del⟩) hkq).2 Hxm.out)
              have Hmem := Lib.hid hmem
              clear hkq hmem hcs
              go_wp2_with fail
              go_quiet (fail)
              go_wp2_with fail
              refine (recContains_any _ _ sb x (Hrb.out.same (Hd.out.trans ((Chg.refl [] wr).drewN _)))).mono ?_
              rintro e w6 ⟨rfl, c6⟩
              rw [Hmem.out]
              have H6 := Lib.hid (((Chg.refl [] wr).drewN _).trans c6)
              clear c6
              go_wp2_with fail
              go_roundw
              case rel => exact ⟨k2 + 1, by omega, by go_num, by rw [Hcs.out]; go_num, Hd.out.trans H6.out, Hd'.out.trans H6.out⟩
              case measure => simp [intOf]; omega
          · obtain rfl : k2 = sa.length := by omega
            have hk3 : ¬ ((sa.length : Int) < sa.length) := by omega
            have hcf := cntK_state (r := ⟨key, val, del⟩) Hsa.out
            rw [List.take_length] at hcl ⊢
            cases del with
            | true =>
              rw [show cntK key sa = 0 from hcf]
              clear hcf hcl hd hd'
              go_wp2_with fail
              refine (journalExample_any _).mono ?_
              rintro e w8 ⟨rfl, c8⟩
              go_wp2_with fail
              go_ret
              exact ⟨rfl, Hc2.out.trans (Hd.out.trans c8)⟩
            | false =>
              rw [show cntK key sa = 1 from hcf]
              have hmem : decide ((⟨key, val, false⟩ : Rec) ∈ sa) = true := decide_eq_true ((Hsa.out.own (x := ⟨key, val, false⟩) rfl).2 ⟨rfl, rfl⟩)
              have Hmem := Lib.hid hmem
              clear hcf hcl hd hd' hmem
              go_wp2_with fail
              refine (journalExample_any _).mono ?_
              rintro e w8 ⟨rfl, c8⟩
              have Hc8 := Lib.hid c8
              have x0 := (c8.cell (p := ⟨w.heap.size, 0, none⟩) (lt_of_cell y0) (by simp)).trans y0
              have x1 := (c8.cell (p := ⟨w.heap.size, 1, none⟩) (lt_of_cell y1) (by simp)).trans y1
              have x2 := (c8.cell (p := ⟨w.heap.size, 2, none⟩) (lt_of_cell y2) (by simp)).trans y2
              clear c8
              go_wp2_with fail
              refine (recContains_any _ _ sa ⟨key, val, false⟩ (Hra.out.same (Hd'.out.trans Hc8.out))).mono ?_
              rintro e w9 ⟨rfl, c9⟩
              rw [Hmem.out]
              have Hc9 := Lib.hid c9
              clear c9
              go_wp2_with fail
              go_ret
              exact ⟨rfl, Hc2.out.trans (Hd.out.trans (Hc8.out.trans Hc9.out))⟩
end Go.Proofs.Ytjijkfehieokbaa
