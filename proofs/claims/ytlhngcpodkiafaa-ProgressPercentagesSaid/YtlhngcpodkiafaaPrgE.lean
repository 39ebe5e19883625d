/- progress.Percentages. -/
import Derived.Test.YtlhngcpodkiafaaPrgD
import Derived.Test.YtlhngcpodkiafaaPrgP
import Derived.Deep.DeepCutAuto
namespace Go.Proofs.Ytlhngcpodkiafaa
open Go.RowKit
set_option linter.unusedVariables false
def PctPost (t s : Int) (xs : List Int) (w : World) (e : Ending) (w' : World) : Prop :=
  ∃ v rep l, e = .returned (.tuple #[v, .int .i64 0]) ∧ Rep t s xs rep l ∧ w'.ownsRow w.heap.size 3 1 v rep.length (rep.map (Value.int .i64)) ∧ Chg [] w w'
def PctRel (t s : Int) (xs : List Int) (w : World) (v : Value) (l : Int) (k : Nat) (wr : World) : Prop :=
  ∃ rep, Rep t s (xs.take k) rep l ∧ wr.ownsRow w.heap.size 3 1 v rep.length (rep.map (Value.int .i64)) ∧ Chg [] w wr
set_option maxRecDepth 100000 in
set_option maxHeartbeats 2000000 in
theorem percentages_any (t s : Int) (v : Value) (xs : List Int) (w : World) (hI : IntsC w v xs) (hx : xs.length ≤ 1000) (ht : 1 ≤ t) (ht2 : t ≤ 2147483647) (hs : 1 ≤ s) (hs2 : s ≤ 100) :
    Calls Try.prog 7 #[v, .int .i64 t, .int .i64 s] w (PctPost t s xs w) := by
  obtain ⟨i0, hi, hz0, hz1, hz2⟩ := info_parts Try.infoInt
  obtain ⟨a, cap, rfl, _, _⟩ := hI.shape
  have hcells := fun k hk => hI.at k hk
  have Hi := Lib.hid hi
  have Hz0 := Lib.hid hz0
  have Hz1 := Lib.hid hz1
  have Hz2 := Lib.hid hz2
  have HI := Lib.hid hI
  have Hc := Lib.hid hcells
  clear hi hz0 hz1 hz2 hI hcells
  go_enter Try.func7, Try.ntmps7
  go_wp2
  go_loopw [8, 9, 34] (fun v l i wr => ∃ (k : Nat) (lz : Int), k ≤ xs.length ∧ i = .int .i64 (k : Nat) ∧ l = .int .i64 lz ∧ 0 ≤ lz ∧ lz ≤ 100 ∧ PctRel t s xs w v lz k wr) (fun _ _ i _ => xs.length - (intOf i).toNat)
  case atStart => exact ⟨0, 0, by omega, rfl, rfl, by decide, by decide, [], Rep.nil _ _, World.ownsRow_nil _ _ _ _, Chg.refl _ _⟩
  case round =>
    obtain ⟨k, lz, hk, rfl, rfl, hl0, hl1, hrel⟩ := hrel
    by_cases hlt : k < xs.length
    · obtain ⟨rep, hrep, hrow, hch⟩ := hrel
      obtain ⟨g, off, rfl, q0w⟩ := Hc.out k hlt
      have q0 := (hch.cell (p := ⟨g, off + k, none⟩) (lt_of_cell q0w) (by simp)).trans q0w
      clear q0w
      obtain ⟨x, hxk⟩ : ∃ x, xs.getD k 0 = x := ⟨_, rfl⟩
      rw [hxk] at q0
      have Hxk := Lib.hid hxk
      clear hxk
      have Hrep := Lib.hid hrep
      have Hrow := Lib.hid hrow
      have Hch := Lib.hid hch
      clear hrep hrow hch
      have hk1 : (k : Int) < xs.length := by omega
      go_upto_region 10 with (fail)
      go_cut [12] (fun v wx => (∃ p : Int, Hid (p = pc t x) ∧ v = .int .i64 p) ∧ wx = wr)
      case first =>
        by_cases h1 : x < 0
        · have e0 : pc t x = 0 / t := by unfold pc; rw [show min (max x 0) t = 0 by omega]; rfl
          have E := Lib.hid e0
          clear e0
          go_wp2
          go_meet
          exact ⟨⟨_, Lib.hid (by rw [E.out]; first | rfl | simp), rfl⟩, rfl⟩
        · by_cases h2 : t < x
          · have e0 : pc t x = t * 100 / t := by unfold pc; rw [show min (max x 0) t = t by omega]
            have E := Lib.hid e0
            clear e0
            go_wp2
            go_meet
            exact ⟨⟨_, Lib.hid E.out.symm, rfl⟩, rfl⟩
          · have e0 : pc t x = x * 100 / t := by unfold pc; rw [show min (max x 0) t = x by omega]
            have E := Lib.hid e0
            clear e0
            go_wp2
            go_meet
            exact ⟨⟨_, Lib.hid E.out.symm, rfl⟩, rfl⟩
      case rest =>
        obtain ⟨⟨p, Hp, rfl⟩, rfl⟩ := hcut
        have hpb : 0 ≤ p ∧ p ≤ 100 := by rw [Hp.out]; exact pc_bd ht
        have hrl : rep.length ≤ 1000 := by have := Hrep.out.len; simp at this; omega
        have hws : w.heap.size ≤ wc.heap.size := Hch.out.size
        by_cases hp : p = 100
        · subst hp
          by_cases hl : lz < 100
          · skip
            have Hrep2 := Lib.hid (Hrep.out.yes ht hs (by rw [← Hp.out]; simp [pgo]; omega))
            go_wp2_with (at_builtin; refine wpList_append_own _ rfl _ _ 22 rfl w.heap.size 3 i0 (.int .i64 0) 1 8 Try.underlying22 Hi.out Hz0.out Hz1.out Hz2.out rfl (by decide) _ _ _ rfl (Hrow.out.alloc _) ⟨wc.heap.size, 0, none⟩ 1 1 [.int .i64 100] rfl rfl (cell_one_new _ _ _) (by simp [Value.oneCell']) (by unfold maxLen; omega) (by omega) (by simp; omega) ?_; intro v8 w8 hown8 hgr8 hnil8; have Hown8 := Lib.hid hown8; have Hgr8 := Lib.hid hgr8; clear hown8 hgr8 hnil8)
            go_roundw
            case rel => exact ⟨k + 1, 100, by omega, by go_num, rfl, by omega, by omega, _, by rw [fold_take_snoc xs k hlt 0, Hxk.out]; have := Hrep2.out; rw [← Hp.out] at this; exact this, by simpa using Hown8.out, (Hch.out.alloc _).grown Hgr8.out (fun g hg => Or.inr (Hrow.out.lt g hg).1)⟩
            case measure => simp [intOf]; omega
          · skip
            have Hrep2 := Lib.hid (Hrep.out.no ht (by rw [← Hp.out]; simp [pgo]; omega))
            go_wp2
            go_roundw
            case rel => exact ⟨k + 1, lz, by omega, by go_num, rfl, by omega, by omega, rep, by rw [fold_take_snoc xs k hlt 0, Hxk.out]; exact Hrep2.out, Hrow.out, Hch.out⟩
            case measure => simp [intOf]; omega
        · have hp1 : (p == 100) = false := by simpa using hp
          by_cases hl : lz + s ≤ p
          · skip
            have Hrep2 := Lib.hid (Hrep.out.yes ht hs (by rw [← Hp.out]; simp [pgo]; omega))
            go_wp2_with (at_builtin; refine wpList_append_own _ rfl _ _ 22 rfl w.heap.size 3 i0 (.int .i64 0) 1 8 Try.underlying22 Hi.out Hz0.out Hz1.out Hz2.out rfl (by decide) _ _ _ rfl (Hrow.out.alloc _) ⟨wc.heap.size, 0, none⟩ 1 1 [.int .i64 p] rfl rfl (cell_one_new _ _ _) (by simp [Value.oneCell']) (by unfold maxLen; omega) (by omega) (by simp; omega) ?_; intro v8 w8 hown8 hgr8 hnil8; have Hown8 := Lib.hid hown8; have Hgr8 := Lib.hid hgr8; clear hown8 hgr8 hnil8)
            go_roundw
            case rel => exact ⟨k + 1, p, by omega, by go_num, rfl, by omega, by omega, _, by rw [fold_take_snoc xs k hlt 0, Hxk.out]; have := Hrep2.out; rw [← Hp.out] at this; exact this, by simpa using Hown8.out, (Hch.out.alloc _).grown Hgr8.out (fun g hg => Or.inr (Hrow.out.lt g hg).1)⟩
            case measure => simp [intOf]; omega
          · skip
            have Hrep2 := Lib.hid (Hrep.out.no ht (by rw [← Hp.out]; simp [pgo]; omega))
            go_wp2
            go_roundw
            case rel => exact ⟨k + 1, lz, by omega, by go_num, rfl, by omega, by omega, rep, by rw [fold_take_snoc xs k hlt 0, Hxk.out]; exact Hrep2.out, Hrow.out, Hch.out⟩
            case measure => simp [intOf]; omega
    · obtain rfl : k = xs.length := by omega
      obtain ⟨rep, hrep, hrow, hch⟩ := hrel
      have hfin : PctPost t s xs w (.returned (.tuple #[u8, .int .i64 0])) wr := ⟨_, rep, lz, rfl, by rw [List.take_length] at hrep; exact hrep, hrow, hch⟩
      have Hfin := Lib.hid hfin
      clear hfin hrep hrow hch
      go_wp2
      go_ret2
      exact Hfin.out
end Go.Proofs.Ytlhngcpodkiafaa
