/- The law InputsDurability: its walk. -/
import Derived.Test.YtcenokecielghaaInpD
namespace Go.Proofs.Ytcenokecielghaa
open Go.RowKit Go.ChangeMaps Go.MapKept

/-- a slice of steps, read -/
def StepsAt (w : World) (v : Value) (ss : List (Int × Int × Int)) : Prop :=
  (v = .slice none 0 0 ∧ ss = []) ∨ (∃ a cap, v = .slice (some a) 0 cap ∧ ss = []) ∨ ∃ g off cap, v = .slice (some ⟨g, off, none⟩) ss.length cap ∧ ss.length ≤ cap ∧ cap ≤ maxLen ∧
    ∀ i, i < ss.length → w.cell? ⟨g, off + i * 3, none⟩ = some (.int .i64 (ss.getD i (0, 0, 0)).1) ∧ w.cell? ⟨g, off + i * 3 + 1, none⟩ = some (.int .i64 (ss.getD i (0, 0, 0)).2.1) ∧ w.cell? ⟨g, off + i * 3 + 2, none⟩ = some (.int .i64 (ss.getD i (0, 0, 0)).2.2)

/-- what holds of a store that Set has made with durabilities 0 to 2 -/
structure Inv (S : St) : Prop where
  rev0 : 0 ≤ S.rev
  l0 : S.l0 = S.rev
  l10 : S.l1 ≤ S.l0
  l21 : S.l2 ≤ S.l1
  l2 : 0 ≤ S.l2
  es : ∀ p ∈ S.es, (0 ≤ p.2.du ∧ p.2.du < 3) ∧ p.2.ch ≤ S.last p.2.du
theorem Inv.new : Inv ⟨0, 0, 0, 0, []⟩ := ⟨by decide, rfl, by decide, by decide, by decide, by simp⟩
theorem Inv.at {S : St} (h : Inv S) (k : QK) : (0 ≤ (S.at k).du ∧ (S.at k).du < 3) ∧ (S.at k).ch ≤ S.last (S.at k).du := by
  unfold St.at
  cases hk : aget S.es k with
  | none =>
    have h1 := h.rev0
    have h2 := h.l0
    simp [CV.zero, St.last]
    omega
  | some c => exact h.es _ (aget_mem hk)
theorem Inv.step {S S' : St} {k : QK} {xs : List Int} {tx : ByteArray} {du : Int} {ch : Bool} (h : Inv S) (hr : SetRel S k xs tx du ch S') (hd : 0 ≤ du ∧ du < 3) : Inv S' ∧ S'.rev = S.rev + (if ch then 1 else 0) := by
  rcases hr with ⟨rfl, rfl, _⟩ | ⟨rfl, _, a, cap, rfl⟩
  · exact ⟨h, by simp⟩
  · have ho := (h.at k).1
    obtain ⟨h1, h2, h3, h4, h5, h6⟩ := h
    have hm : (max (S.at k).du du) < 3 := by omega
    have hm0 : du ≤ max (S.at k).du du := by omega
    generalize max (S.at k).du du = m at hm hm0
    refine ⟨⟨by simp only [St.set]; omega, rfl, ?_, ?_, ?_, ?_⟩, by simp [St.set]⟩
    · simp only [St.set]; split <;> omega
    · simp only [St.set]; split <;> split <;> omega
    · simp only [St.set]; split <;> omega
    · intro p hp
      have hl : ∀ d, 0 ≤ d → d < 3 → S.last d ≤ (S.set k ⟨a, cap, xs, tx, S.rev + 1, du⟩ m).last d := by
        intro d _ _
        simp only [St.last, St.set]
        rcases (by omega : d = 0 ∨ d = 1 ∨ d = 2) with rfl | rfl | rfl <;> simp <;> (try split) <;> omega
      rcases mem_ups hp with rfl | hp
      · refine ⟨hd, ?_⟩
        simp only [St.last, St.set]
        rcases (by omega : du = 0 ∨ du = 1 ∨ du = 2) with rfl | rfl | rfl
        · simp
        · simp [show 1 ≤ m from hm0]
        · simp [show 2 ≤ m from hm0]
      · have := h6 p hp
        exact ⟨this.1, Int.le_trans this.2 (hl _ this.1.1 this.1.2)⟩

theorem keyA_ok {n : Int} (h0 : 0 ≤ n) (h1 : n < 1000000) : QKok (0, n, 0) := ⟨⟨by show _ ≤ (0 : Int); omega, by show (0 : Int) ≤ _; omega⟩, ⟨by show _ ≤ n; omega, by show n ≤ _; omega⟩, ⟨by show _ ≤ (0 : Int); omega, by show (0 : Int) ≤ _; omega⟩⟩
def DurRel (w : World) (b bm m : Nat) (c i : Value) (wr : World) : Prop := ∃ (k : Nat) (S : St), k ≤ m ∧ i = .int .i64 (k : Nat) ∧ c = .int .i64 S.rev ∧ S.rev ≤ k ∧ Inv S ∧ StoreIs wr b bm S ∧ Chg [] w wr
def DurIn (w : World) (b bm : Nat) (S : St) (i : Value) (wr : World) : Prop := ∃ k : Nat, k ≤ 5 ∧ i = .int .i64 k ∧ StoreIs wr b bm S ∧ Chg [] w wr

set_option maxRecDepth 100000 in
set_option maxHeartbeats 4000000 in
theorem dur_walk_few (w : World) (g off cap n : Nat) (ss : List (Int × Int × Int)) (hn : n ≤ cap) (hle : n ≤ 40) (hml : n ≤ ss.length)
    (hc : ∀ i, i < ss.length → w.cell? ⟨g, off + i * 3, none⟩ = some (.int .i64 (ss.getD i (0, 0, 0)).1) ∧ w.cell? ⟨g, off + i * 3 + 1, none⟩ = some (.int .i64 (ss.getD i (0, 0, 0)).2.1) ∧ w.cell? ⟨g, off + i * 3 + 2, none⟩ = some (.int .i64 (ss.getD i (0, 0, 0)).2.2)) :
    Calls Try.prog 3 #[.slice (some ⟨g, off, none⟩) n cap] w fun e w' => e = .returned (.bool true) ∧ Chg [] w w' := by
  have Hc := Lib.hid hc
  clear hc
  go_enter Try.func3, Try.ntmps3
  go_wp2_with fail
  refine (storeExample_any _).mono ?_
  rintro e w1 ⟨rfl, c1⟩
  go_wp2_with fail
  refine (new_any _).mono ?_
  rintro e w2 ⟨rfl, h2, c2⟩
  go_wp2_with fail
  refine (storeExample_any _).mono ?_
  rintro e w3 ⟨rfl, c3⟩
  go_wp2_with fail
  have hb1 : w.heap.size ≤ w1.heap.size := c1.size
  have h3 := h2.same c3
  have cw : Chg [] w w3 := (c1.new c2).new c3
  have hbb : w.heap.size ≤ w1.heap.size + 1 := by omega
  generalize w1.heap.size + 1 = b at h3 hbb ⊢
  generalize w1.heap.size = bm at h3 hb1 ⊢
  clear h2 c1 c2 c3
  go_loopw [4, 28] (fun c i wr => DurRel w b bm n c i wr) (fun _ i _ => n - (intOf i).toNat)
  case atStart => exact ⟨0, _, Nat.zero_le _, rfl, rfl, by decide, Inv.new, h3, cw⟩
  case round =>
    obtain ⟨k, S, hk, rfl, rfl, hrk, hinv, hs, hcw⟩ := hrel
    clear h3 cw
    by_cases hlt : k < n
    · obtain ⟨q0, q1, q2⟩ := Hc.out k (by omega)
      have lg := lt_of_cell q0
      replace q0 := (hcw.cell lg (by simp)).trans q0
      replace q1 := (hcw.cell (p := ⟨g, off + k * 3 + 1, none⟩) lg (by simp)).trans q1
      replace q2 := (hcw.cell (p := ⟨g, off + k * 3 + 2, none⟩) lg (by simp)).trans q2
      generalize (ss.getD k (0, 0, 0)).1 = xd at q0
      generalize (ss.getD k (0, 0, 0)).2.1 = xa at q1
      generalize (ss.getD k (0, 0, 0)).2.2 = xb at q2
      have Hi := Lib.hid hinv
      have Hs := Lib.hid hs
      have hr0 := hinv.rev0
      have lb := lt_of_obj hs.blk
      have lbm := hs.map.lt
      clear hinv hs
      have ba := modI_bd xa 5 (by decide)
      have bb := modI_bd xb 3 (by decide)
      have bd := modI_bd xd 3 (by decide)
      go_wp2_with fail
      go_region_held3 (fun w' => w'.cell? ⟨wr.heap.size, 0, none⟩ = some (.int .i64 xd) ∧ w'.cell? ⟨wr.heap.size, 1, none⟩ = some (.int .i64 xa) ∧ w'.cell? ⟨wr.heap.size, 2, none⟩ = some (.int .i64 xb) ∧ wr.heap.size < w'.heap.size)
        (first | (go_keep; done) | (refine ⟨?_, ?_, ?_, ?_⟩ <;> (simp [go_sem]; done)) | (go_split_ands; refine ⟨?_, ?_, ?_, ?_⟩; (rw [hcc.cell (by assumption) (by simp; try omega)]; assumption); (rw [hcc.cell (by assumption) (by simp; try omega)]; assumption); (rw [hcc.cell (by assumption) (by simp; try omega)]; assumption); (have := hcc.size; omega)))
        (first
          | (go_at_call 9; refine (mod_any _ _ _ (by decide) (by decide)).mono ?_; rintro e w' ⟨rfl, rfl⟩)
          | (go_at_call 8; refine (inputKey_any _ _).mono ?_; rintro e w4 ⟨rfl, hcc⟩; have hk1 := hcc)
          | (go_at_call 10; refine (number_any _ _).mono ?_; rintro e w5 ⟨an, cn, rfl, hin, hcc⟩; have hk2 := hcc)
          | (go_at_call 7; refine (set_any b bm S (0, modI xa 5, 0) _ [modI xb 3] ⟨#[]⟩ (modI xd 3) _ (Hs.out.same (((((Chg.refl [] wr).alloc _).drew).new hk1).new hk2)) (keyA_ok ba.1 (by omega)) rfl hin (by simp) bd (Hi.out.at _).1 ⟨hr0, by omega⟩).mono ?_; rintro e w6 ⟨ch, S', rfl, hs', hcc, hrel⟩))
      obtain ⟨hinv', hrv⟩ := Hi.out.step hrel bd
      have hcw' : Chg [] w w6 := by
        refine (((((hcw.alloc _).drew).new hk1).new hk2)).comp hcc ?_
        intro x hx
        simp at hx
        omega
      have h10 := hinv'.l10
      have h21 := hinv'.l21
      have L0 : S'.last 0 = S'.rev := by rw [← hinv'.l0]; rfl
      have L1 : S'.last 1 = S'.l1 := rfl
      have L2 : S'.last 2 = S'.l2 := rfl
      rw [hinv'.l0] at h10
      have hr' := hinv'.rev0
      have Hi' := Lib.hid hinv'
      have HL0 := Lib.hid L0
      have HL1 := Lib.hid L1
      have HL2 := Lib.hid L2
      have Hs' := Lib.hid hs'
      have Hrv := Lib.hid hrv
      clear hinv' L0 L1 L2 hs' hrv hrel q0 q1 q2 hcc hk1 hk2 hin Hs Hi
      cases ch
      all_goals
        have hrv := Hrv.out
        simp at hrv
        have hrk : S'.rev ≤ (k + 1 : Nat) := by omega
        go_wp2_with fail
        rw [← hrv]
        clear hrv
        refine (revision_any _ _ S' _ Hs'.out).mono ?_
        rintro e w7 ⟨rfl, rfl⟩
        go_wp2_with fail
        refine (last_any _ _ S' 0 _ Hs'.out (by decide) (by decide)).mono ?_
        rintro e w7 ⟨rfl, rfl⟩
        rw [HL0.out]
        go_wp2_with fail
        refine (last_any _ _ S' 1 _ Hs'.out (by decide) (by decide)).mono ?_
        rintro e w7 ⟨rfl, rfl⟩
        rw [HL1.out]
        go_wp2_with fail
        refine (last_any _ _ S' 0 _ Hs'.out (by decide) (by decide)).mono ?_
        rintro e w7 ⟨rfl, rfl⟩
        rw [HL0.out]
        go_wp2_with fail
        refine (last_any _ _ S' 2 _ Hs'.out (by decide) (by decide)).mono ?_
        rintro e w7 ⟨rfl, rfl⟩
        rw [HL2.out]
        go_wp2_with fail
        refine (last_any _ _ S' 1 _ Hs'.out (by decide) (by decide)).mono ?_
        rintro e w7 ⟨rfl, rfl⟩
        rw [HL1.out]
        go_wp2_with fail
        go_loopw [79] (fun i wr2 => DurIn w b bm S' i wr2) (fun i _ => 5 - (intOf i).toNat)
        case atStart => exact ⟨0, by decide, rfl, Hs'.out, hcw'⟩
        case round =>
          obtain ⟨k2, hk2, rfl, hs2, hc2⟩ := hrel
          by_cases hlt2 : k2 < 5
          · have Hs2 := Lib.hid hs2
            clear hs2
            have hat := Hi'.out.at (0, (k2 : Int), 0)
            obtain ⟨⟨hd0, hd3⟩, hch⟩ := hat
            go_wp2_with fail
            refine (inputKey_any _ _).mono ?_
            rintro e w8 ⟨rfl, hk8⟩
            go_wp2_with fail
            refine (get_any b bm S' (0, (k2 : Int), 0) _ (Hs2.out.same hk8) (keyA_ok (by omega) (by omega))).mono ?_
            rintro e w9 ⟨a9, c9, rfl, hi9, hc9⟩
            have hs9 := (Hs2.out.same hk8).same hc9
            have cw9 := (hc2.new hk8).new hc9
            clear hi9 hk8 hc9 Hs2
            generalize S'.at (0, (k2 : Int), 0) = cc at hd0 hd3 hch
            go_wp2_with fail
            refine (last_any _ _ S' cc.du _ (hs9.same ((Chg.refl [] _).alloc _)) hd0 hd3).mono ?_
            rintro e w10 ⟨rfl, rfl⟩
            go_wp2
            exact ⟨⟨k2 + 1, by omega, by go_num, hs9.same ((Chg.refl [] _).alloc _), cw9.alloc _⟩, by simp [intOf]; omega⟩
          · go_wp2
            exact ⟨⟨k + 1, S', by omega, by go_num, rfl, hrk, Hi'.out, hs2, hc2⟩, by simp [intOf]; omega⟩
    · go_wp2
      go_ret
      exact ⟨rfl, hcw⟩
set_option maxRecDepth 100000 in
set_option maxHeartbeats 4000000 in
theorem dur_walk_many (w : World) (g off cap n : Nat) (ss : List (Int × Int × Int)) (hn : n ≤ cap) (hcap : cap ≤ maxLen) (hgt : 40 < n) (hml : 40 ≤ ss.length)
    (hc : ∀ i, i < ss.length → w.cell? ⟨g, off + i * 3, none⟩ = some (.int .i64 (ss.getD i (0, 0, 0)).1) ∧ w.cell? ⟨g, off + i * 3 + 1, none⟩ = some (.int .i64 (ss.getD i (0, 0, 0)).2.1) ∧ w.cell? ⟨g, off + i * 3 + 2, none⟩ = some (.int .i64 (ss.getD i (0, 0, 0)).2.2)) :
    Calls Try.prog 3 #[.slice (some ⟨g, off, none⟩) n cap] w fun e w' => e = .returned (.bool true) ∧ Chg [] w w' := by
  have Hc := Lib.hid hc
  clear hc
  unfold maxLen at hcap
  go_enter Try.func3, Try.ntmps3
  go_wp2_with fail
  refine (storeExample_any _).mono ?_
  rintro e w1 ⟨rfl, c1⟩
  go_wp2_with fail
  refine (new_any _).mono ?_
  rintro e w2 ⟨rfl, h2, c2⟩
  go_wp2_with fail
  refine (storeExample_any _).mono ?_
  rintro e w3 ⟨rfl, c3⟩
  have hmax : max (40 : Int) 0 = 40 := rfl
  go_wp2_with fail
  have hb1 : w.heap.size ≤ w1.heap.size := c1.size
  have h3 := h2.same c3
  have cw : Chg [] w w3 := (c1.new c2).new c3
  have hbb : w.heap.size ≤ w1.heap.size + 1 := by omega
  generalize w1.heap.size + 1 = b at h3 hbb ⊢
  generalize w1.heap.size = bm at h3 hb1 ⊢
  clear h2 c1 c2 c3
  go_loopw [4, 28] (fun c i wr => DurRel w b bm 40 c i wr) (fun _ i _ => 40 - (intOf i).toNat)
  case atStart => exact ⟨0, _, Nat.zero_le _, rfl, rfl, by decide, Inv.new, h3, cw⟩
  case round =>
    obtain ⟨k, S, hk, rfl, rfl, hrk, hinv, hs, hcw⟩ := hrel
    clear h3 cw
    by_cases hlt : k < 40
    · obtain ⟨q0, q1, q2⟩ := Hc.out k (by omega)
      have lg := lt_of_cell q0
      replace q0 := (hcw.cell lg (by simp)).trans q0
      replace q1 := (hcw.cell (p := ⟨g, off + k * 3 + 1, none⟩) lg (by simp)).trans q1
      replace q2 := (hcw.cell (p := ⟨g, off + k * 3 + 2, none⟩) lg (by simp)).trans q2
      generalize (ss.getD k (0, 0, 0)).1 = xd at q0
      generalize (ss.getD k (0, 0, 0)).2.1 = xa at q1
      generalize (ss.getD k (0, 0, 0)).2.2 = xb at q2
      have Hi := Lib.hid hinv
      have Hs := Lib.hid hs
      have hr0 := hinv.rev0
      have lb := lt_of_obj hs.blk
      have lbm := hs.map.lt
      clear hinv hs
      have ba := modI_bd xa 5 (by decide)
      have bb := modI_bd xb 3 (by decide)
      have bd := modI_bd xd 3 (by decide)
      go_wp2_with fail
      go_region_held3 (fun w' => w'.cell? ⟨wr.heap.size, 0, none⟩ = some (.int .i64 xd) ∧ w'.cell? ⟨wr.heap.size, 1, none⟩ = some (.int .i64 xa) ∧ w'.cell? ⟨wr.heap.size, 2, none⟩ = some (.int .i64 xb) ∧ wr.heap.size < w'.heap.size)
        (first | (go_keep; done) | (refine ⟨?_, ?_, ?_, ?_⟩ <;> (simp [go_sem]; done)) | (go_split_ands; refine ⟨?_, ?_, ?_, ?_⟩; (rw [hcc.cell (by assumption) (by simp; try omega)]; assumption); (rw [hcc.cell (by assumption) (by simp; try omega)]; assumption); (rw [hcc.cell (by assumption) (by simp; try omega)]; assumption); (have := hcc.size; omega)))
        (first
          | (go_at_call 9; refine (mod_any _ _ _ (by decide) (by decide)).mono ?_; rintro e w' ⟨rfl, rfl⟩)
          | (go_at_call 8; refine (inputKey_any _ _).mono ?_; rintro e w4 ⟨rfl, hcc⟩; have hk1 := hcc)
          | (go_at_call 10; refine (number_any _ _).mono ?_; rintro e w5 ⟨an, cn, rfl, hin, hcc⟩; have hk2 := hcc)
          | (go_at_call 7; refine (set_any b bm S (0, modI xa 5, 0) _ [modI xb 3] ⟨#[]⟩ (modI xd 3) _ (Hs.out.same (((((Chg.refl [] wr).alloc _).drew).new hk1).new hk2)) (keyA_ok ba.1 (by omega)) rfl hin (by simp) bd (Hi.out.at _).1 ⟨hr0, by omega⟩).mono ?_; rintro e w6 ⟨ch, S', rfl, hs', hcc, hrel⟩))
      obtain ⟨hinv', hrv⟩ := Hi.out.step hrel bd
      have hcw' : Chg [] w w6 := by
        refine (((((hcw.alloc _).drew).new hk1).new hk2)).comp hcc ?_
        intro x hx
        simp at hx
        omega
      have h10 := hinv'.l10
      have h21 := hinv'.l21
      have L0 : S'.last 0 = S'.rev := by rw [← hinv'.l0]; rfl
      have L1 : S'.last 1 = S'.l1 := rfl
      have L2 : S'.last 2 = S'.l2 := rfl
      rw [hinv'.l0] at h10
      have hr' := hinv'.rev0
      have Hi' := Lib.hid hinv'
      have HL0 := Lib.hid L0
      have HL1 := Lib.hid L1
      have HL2 := Lib.hid L2
      have Hs' := Lib.hid hs'
      have Hrv := Lib.hid hrv
      clear hinv' L0 L1 L2 hs' hrv hrel q0 q1 q2 hcc hk1 hk2 hin Hs Hi
      cases ch
      all_goals
        have hrv := Hrv.out
        simp at hrv
        have hrk : S'.rev ≤ (k + 1 : Nat) := by omega
        go_wp2_with fail
        rw [← hrv]
        clear hrv
        refine (revision_any _ _ S' _ Hs'.out).mono ?_
        rintro e w7 ⟨rfl, rfl⟩
        go_wp2_with fail
        refine (last_any _ _ S' 0 _ Hs'.out (by decide) (by decide)).mono ?_
        rintro e w7 ⟨rfl, rfl⟩
        rw [HL0.out]
        go_wp2_with fail
        refine (last_any _ _ S' 1 _ Hs'.out (by decide) (by decide)).mono ?_
        rintro e w7 ⟨rfl, rfl⟩
        rw [HL1.out]
        go_wp2_with fail
        refine (last_any _ _ S' 0 _ Hs'.out (by decide) (by decide)).mono ?_
        rintro e w7 ⟨rfl, rfl⟩
        rw [HL0.out]
        go_wp2_with fail
        refine (last_any _ _ S' 2 _ Hs'.out (by decide) (by decide)).mono ?_
        rintro e w7 ⟨rfl, rfl⟩
        rw [HL2.out]
        go_wp2_with fail
        refine (last_any _ _ S' 1 _ Hs'.out (by decide) (by decide)).mono ?_
        rintro e w7 ⟨rfl, rfl⟩
        rw [HL1.out]
        go_wp2_with fail
        go_loopw [79] (fun i wr2 => DurIn w b bm S' i wr2) (fun i _ => 5 - (intOf i).toNat)
        case atStart => exact ⟨0, by decide, rfl, Hs'.out, hcw'⟩
        case round =>
          obtain ⟨k2, hk2, rfl, hs2, hc2⟩ := hrel
          by_cases hlt2 : k2 < 5
          · have Hs2 := Lib.hid hs2
            clear hs2
            have hat := Hi'.out.at (0, (k2 : Int), 0)
            obtain ⟨⟨hd0, hd3⟩, hch⟩ := hat
            go_wp2_with fail
            refine (inputKey_any _ _).mono ?_
            rintro e w8 ⟨rfl, hk8⟩
            go_wp2_with fail
            refine (get_any b bm S' (0, (k2 : Int), 0) _ (Hs2.out.same hk8) (keyA_ok (by omega) (by omega))).mono ?_
            rintro e w9 ⟨a9, c9, rfl, hi9, hc9⟩
            have hs9 := (Hs2.out.same hk8).same hc9
            have cw9 := (hc2.new hk8).new hc9
            clear hi9 hk8 hc9 Hs2
            generalize S'.at (0, (k2 : Int), 0) = cc at hd0 hd3 hch
            go_wp2_with fail
            refine (last_any _ _ S' cc.du _ (hs9.same ((Chg.refl [] _).alloc _)) hd0 hd3).mono ?_
            rintro e w10 ⟨rfl, rfl⟩
            go_wp2
            exact ⟨⟨k2 + 1, by omega, by go_num, hs9.same ((Chg.refl [] _).alloc _), cw9.alloc _⟩, by simp [intOf]; omega⟩
          · go_wp2
            exact ⟨⟨k + 1, S', by omega, by go_num, rfl, hrk, Hi'.out, hs2, hc2⟩, by simp [intOf]; omega⟩
    · go_wp2
      go_ret
      exact ⟨rfl, hcw⟩
theorem dur_nil (w : World) : Calls Try.prog 3 #[.slice none 0 0] w fun e w' => e = .returned (.bool true) ∧ Chg [] w w' := by
  go_enter Try.func3, Try.ntmps3
  go_wp2_with fail
  refine (storeExample_any _).mono ?_
  rintro e w1 ⟨rfl, c1⟩
  go_wp2_with fail
  refine (new_any _).mono ?_
  rintro e w2 ⟨rfl, h2, c2⟩
  go_wp2_with fail
  refine (storeExample_any _).mono ?_
  rintro e w3 ⟨rfl, c3⟩
  go_wp2_with fail
  go_loop [28] (fun i => i = .int .i64 0) (fun i => 0)
  case atStart => rfl
  case round =>
    obtain rfl := hrel
    go_wp2
    go_ret
    exact ⟨rfl, (c1.new c2).new c3⟩
theorem dur_zero (w : World) (a : Addr) (cap : Nat) : Calls Try.prog 3 #[.slice (some a) 0 cap] w fun e w' => e = .returned (.bool true) ∧ Chg [] w w' := by
  go_enter Try.func3, Try.ntmps3
  go_wp2_with fail
  refine (storeExample_any _).mono ?_
  rintro e w1 ⟨rfl, c1⟩
  go_wp2_with fail
  refine (new_any _).mono ?_
  rintro e w2 ⟨rfl, h2, c2⟩
  go_wp2_with fail
  refine (storeExample_any _).mono ?_
  rintro e w3 ⟨rfl, c3⟩
  go_wp2_with fail
  go_loop [28] (fun i => i = .int .i64 0) (fun i => 0)
  case atStart => rfl
  case round =>
    obtain rfl := hrel
    go_wp2
    go_ret
    exact ⟨rfl, (c1.new c2).new c3⟩
theorem dur_any (w : World) (v : Value) (ss : List (Int × Int × Int)) (h : StepsAt w v ss) : Calls Try.prog 3 #[v] w fun e w' => e = .returned (.bool true) ∧ Chg [] w w' := by
  rcases h with ⟨rfl, rfl⟩ | ⟨a, cap, rfl, rfl⟩ | ⟨g, off, cap, rfl, h1, h2, h3⟩
  · exact dur_nil w
  · exact dur_zero w a cap
  · by_cases hle : ss.length ≤ 40
    · exact dur_walk_few w g off cap _ ss h1 hle (Nat.le_refl _) h3
    · exact dur_walk_many w g off cap _ ss h1 h2 (by omega) (by omega) h3
end Go.Proofs.Ytcenokecielghaa
