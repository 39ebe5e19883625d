/- Reads. -/
import Derived.Test.YtdeodcomlakpaaaMqM
namespace Go.Proofs.Ytdeodcomlakpaaa
open Go.RowKit Go.ChangeMaps Go.MapKept
set_option linter.unusedVariables false
theorem EvMem.more {p : Prg} {ins : List Int} {RO RO' : Nat → Prop} {be bm : Nat} {qv iv : Value} {w : World} (h : EvMem p ins RO be bm qv iv w) (hR : ∀ k, RO k → RO' k) (hs : ∀ k, RO' k → k < w.heap.size) : EvMem p ins RO' be bm qv iv w :=
  ⟨h.c1, h.c2, h.c3, SlR.imp h.rqs hR (fun ad x _ h => by
    obtain ⟨u, h1, h2⟩ := h
    exact ⟨u, h1, I3s.imp h2 hR⟩), IntsP.imp h.rins hR, hR _ h.robe, hs, h.map⟩
def ReadsPost (p : Prg) (ins : List Int) (q : Int) (w : World) (e : Ending) (w' : World) : Prop :=
  ((EvOk p ins q ∧ ∃ v, e = .returned (.tuple #[v, .int .i64 0]) ∧ I3s (fun g => w.heap.size ≤ g ∧ g < w'.heap.size) w' v (reads p ins q.toNat)) ∨ (¬ EvOk p ins q ∧ ∃ c : Int, c ≠ 0 ∧ e = .returned (.tuple #[.slice none 0 0, .int .i64 c]))) ∧ Chg [] w w'
set_option maxRecDepth 100000 in
set_option maxHeartbeats 2000000 in
theorem reads_any (p0 : Nat → Prop) (w : World) (p : Prg) (ins : List Int) (q : Int) (qv iv : Value) (hq : I3ss p0 w qv p.qs) (hi : IntsP p0 w iv ins) (hp0 : ∀ k, p0 k → k < w.heap.size) :
    Calls Try.prog 29 #[.agg #[.int .i64 p.inp, qv], iv, .int .i64 q] w (ReadsPost p ins q w) := by
  have hc0 : Chg [] w (w.alloc (.cells #[.int .i64 p.inp, qv] 42)) := (Chg.refl [] w).alloc _
  have Hc0 := Lib.hid hc0
  have Hq := Lib.hid hq
  have Hi := Lib.hid hi
  have Hp0 := Lib.hid hp0
  obtain ⟨av, capv, rfl, hlm, hlc⟩ := hq.shape
  clear hc0 hq hi hp0
  unfold maxLen at hlm
  go_enter Try.func29, Try.ntmps29
  go_wp2_with fail
  refine (newEv_any p0 _ p ins q _ iv (Hq.out.kept (Hc0.out.p (S := fun _ => False)) (fun _ _ h => h)) (Hi.out.kept (Hc0.out.p (S := fun _ => False)) (fun _ _ h => h)) (fun k hk => by have := Hp0.out k hk; simp; omega)).mono ?_
  rintro e w1 ⟨h | h, c1⟩
  · obtain ⟨hok, be, bm, rfl, hbe, hbm, hne, hm⟩ := h
    have hbe' : w.heap.size < be := by simp at hbe; omega
    have hbm' : w.heap.size < bm := by simp at hbm; omega
    have m0 : w1.cell? ⟨w.heap.size, 0, none⟩ = some (.int .i64 p.inp) := (c1.cell (p := ⟨w.heap.size, 0, none⟩) (by simp) (by simp)).trans (cell_of_heap (heap_at _ _ _ rfl) rfl)
    have m1 : w1.cell? ⟨w.heap.size, 1, none⟩ = some (.slice av p.qs.length capv) := (c1.cell (p := ⟨w.heap.size, 1, none⟩) (by simp) (by simp)).trans (cell_of_heap (heap_at _ _ _ rfl) rfl)
    have lm := lt_of_cell m0
    obtain ⟨qn, rfl⟩ := Int.eq_ofNat_of_zero_le hok.2.2.1
    have hqn : qn < p.qs.length := by have := hok.2.2.2; omega
    obtain ⟨es, hmap, _⟩ := hm.map
    have hbm1 := hmap.lt
    have hbe1 : be < w1.heap.size := lt_of_cell hm.c1
    have hc2 : Chg [] w1 ((w1.alloc (.cells #[.pointer (some ⟨be, 0, none⟩)] 100)).alloc (.cells #[.slice none 0 0] 53)) := ((Chg.refl [] w1).alloc _).alloc _
    have hall := (Hc0.out.trans c1).trans hc2
    obtain ⟨g, off, rfl, hg, u, q0, hu⟩ := SlR.at (Hq.out.kept ((Hc0.out.trans c1).p (S := fun _ => False)) (fun _ _ h => h)) qn hqn []
    rw [Nat.mul_one] at q0
    obtain ⟨au, capu, rfl, hum, huc⟩ := hu.shape
    have lg := lt_of_cell q0
    have hev := ((EvI.keep (F := fun _ => False) (s := ()) ⟨hm, fun h => h, fun h => by
      rcases h with h | h
      · have := Hp0.out _ h; omega
      · exact hne h.symm⟩ (hc2.p)).1).more (RO' := fun k => p0 k ∨ k = be ∨ k = w1.heap.size) (fun k hk => hk.elim Or.inl (fun h => Or.inr (Or.inl h))) (fun k hk => by
        rcases hk with h | h | h
        · have := Hp0.out _ h; simp; omega
        · simp; omega
        · simp; omega)
    have hops : I3s p0 ((w1.alloc (.cells #[.pointer (some ⟨be, 0, none⟩)] 100)).alloc (.cells #[.slice none 0 0] 53)) (.slice au (p.qs.getD qn []).length capu) (p.qs.getD qn []) := I3s.kept hu (hc2.p (S := fun _ => False)) (fun _ _ h => h)
    have hrd : RdI p ins (fun k => p0 k ∨ k = be ∨ k = w1.heap.size) be bm w1.heap.size (w1.heap.size + 1) (.slice (some ⟨g, off, none⟩) p.qs.length capv) iv qn (fun k => k < w.heap.size) [] ((w1.alloc (.cells #[.pointer (some ⟨be, 0, none⟩)] 100)).alloc (.cells #[.slice none 0 0] 53)) := by
      refine ⟨.slice none 0 0, ⟨hev, Or.inr (Or.inr rfl), cell_of_heap ((heap_past _ _ _ (by simp)).trans (heap_at _ _ _ rfl)) rfl, cell_of_heap (heap_at _ _ _ (by simp)) rfl, frozen_of_heap (heap_at _ _ _ (by simp)), World.ownsRow_nil _ _ _ _, by omega, fun g hg => by simp [Value.ownBlock] at hg, ?_, ?_, List.nodup_nil, by simp⟩, by omega, by omega, fun g hg => by simp [Value.ownBlock] at hg, fun k hk => by simp; omega⟩
      · rintro (h | h | h)
        · have := Hp0.out _ h; omega
        · omega
        · omega
      · rintro (h | h | h)
        · have := Hp0.out _ h; omega
        · exact hne h.symm
        · omega
    have hfam := reads_fam (bv := w1.heap.size) (bk := w1.heap.size + 1) hok.1 (L := qn) (by have := hok.1.size; omega) (get_below p ins hok.1 (fun k => p0 k ∨ k = be ∨ k = w1.heap.size) be bm (.slice (some ⟨g, off, none⟩) p.qs.length capv) iv hok.2.1 qn (by omega))
    have hrun := run_any 62 #[] #[.pointer (some ⟨w1.heap.size + 1, 0, none⟩), .pointer (some ⟨w1.heap.size, 0, none⟩)] _ _ _ (fun _ => []) p.inp (qn : Int) hfam (p.qs.getD qn []) (hok.1.qs qn hqn) p0 (fun k => k < w.heap.size) [] _ _ hrd hops (fun g h => Or.inr (Or.inl h)) (fun k hk => by
        rcases hk with h | h | h
        · have := Hp0.out _ h; simp; omega
        · simp; omega
        · simp; omega)
    have hval := runR_GR hok.1 ins qn hqn
    have Hrun := Lib.hid hrun
    have Hval := Lib.hid hval
    have Hok := Lib.hid hok
    have Hall := Lib.hid hall
    have hqn1 : (qn : Int) < p.qs.length := by omega
    clear hm hne hc2 hall hu hev hops hrd hfam hrun hval hok hmap c1
    generalize p.qs.getD qn [] = ops at q0 Hrun Hval hum huc
    go_wp2_with fail
    refine (Hrun.out).mono ?_
    rintro e w6 hpost
    obtain ⟨rfl, ⟨v, hm6, _, _, ho6, _⟩, hc6⟩ := hpost.val Hval.out
    have k6 := hm6.cell
    have l6 := lt_of_cell k6
    have Hr6 := Lib.hid ((i3s_of_own hm6.row).imp (q := fun g => w.heap.size ≤ g ∧ g < w6.heap.size) (fun g hg => ⟨Nat.le_of_not_lt (ho6 g hg), (hm6.row.lt g hg).2⟩))
    have Hc6 := Lib.hid hc6
    clear hpost hm6 hc6 ho6
    go_wp2
    go_ret2
    refine ⟨Or.inl ⟨Hok.out, v, rfl, Hr6.out.imp fun g hg => hg⟩, ?_⟩
    exact ((((Hall.out.p (S := fun _ => False)).comp Hc6.out (fun k hk => by
      by_cases h : k < w.heap.size
      · exact absurd h hk.1
      · exact Or.inr (by omega)))).mono (T := fun k => k ∈ []) (fun _ h => h.elim)).toL
  · obtain ⟨hno, c, hc, rfl⟩ := h
    have hcb : (c != 0) = true := by rw [bne_iff_ne]; exact hc
    have Hno := Lib.hid hno
    have Hc := Lib.hid hc
    clear hno hc
    go_wp2
    go_ret2
    exact ⟨Or.inr ⟨Hno.out, c, Hc.out, rfl⟩, (Hc0.out.trans c1).alloc _⟩
theorem reads_yes (p0 : Nat → Prop) (w : World) (p : Prg) (ins : List Int) (q : Int) (qv iv : Value) (hq : I3ss p0 w qv p.qs) (hi : IntsP p0 w iv ins) (hp0 : ∀ k, p0 k → k < w.heap.size) (hok : EvOk p ins q) :
    Calls Try.prog 29 #[.agg #[.int .i64 p.inp, qv], iv, .int .i64 q] w fun e w' => ∃ v, e = .returned (.tuple #[v, .int .i64 0]) ∧ I3s (fun g => w.heap.size ≤ g ∧ g < w'.heap.size) w' v (reads p ins q.toNat) ∧ Chg [] w w' :=
  (reads_any p0 w p ins q qv iv hq hi hp0).mono fun e w' ⟨h, hc⟩ => h.elim (fun ⟨_, v, he, hv⟩ => ⟨v, he, hv, hc⟩) (fun h => absurd hok h.1)
end Go.Proofs.Ytdeodcomlakpaaa
