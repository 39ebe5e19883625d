/- The contract of the inputs store's Set. -/
import Derived.Test.YtdeodcomlakpaaaMiB
namespace Go.Proofs.Ytdeodcomlakpaaa.Inp
open Go.RowKit Go.ChangeMaps Go.MapKept

theorem StoreIs.ne {w : World} {b bm : Nat} {S : St} (h : StoreIs w b bm S) : b ≠ bm := by
  rintro rfl
  obtain ⟨arr, clock, h1, _⟩ := h.map
  have := h.blk
  rw [h1] at this
  cases this
/-- the same value and durability -/
def St.same (S : St) (k : QK) (xs : List Int) (tx : ByteArray) (du : Int) : Prop := (S.at k).du = du ∧ (S.at k).tx = tx ∧ (S.at k).xs = xs
/-- what Set returns and leaves if nothing changes -/
def SetSame (b bm : Nat) (S : St) (w : World) (e : Ending) (w' : World) : Prop := e = .returned (.tuple #[.bool false, .int .i64 0]) ∧ StoreIs w' b bm S ∧ Chg [] w w'
/-- the store after a change -/
def St.set (S : St) (k : QK) (c : CV) (m : Int) : St := ⟨S.rev + 1, S.rev + 1, if 1 ≤ m then S.rev + 1 else S.l1, if 2 ≤ m then S.rev + 1 else S.l2, ups S.es k c⟩
def SetNew (b bm : Nat) (S : St) (k : QK) (xs : List Int) (tx : ByteArray) (du : Int) (w : World) (e : Ending) (w' : World) : Prop :=
  ∃ a cap, e = .returned (.tuple #[.bool true, .int .i64 0]) ∧ StoreIs w' b bm (S.set k ⟨a, cap, xs, tx, S.rev + 1, du⟩ (max (S.at k).du du)) ∧ Chg [b, bm] w w' ∧ ∀ ad, a = some ad → w.heap.size ≤ ad.block

/-- the store's block while its last changes are written -/
structure SetLoop (b bm : Nat) (S : St) (w : World) (k : Nat) (k2 k3 : Int) (v : Value) (tx : ByteArray) (wr : World) : Prop where
  chg : Chg [b] w wr
  key : wr.heap[w.heap.size]? = some (.cells #[.int .i64 0, .int .i64 k2, .int .i64 k3] 27 (0, 0))
  val : wr.heap[w.heap.size + 1]? = some (.cells #[v, .string tx] 31 (0, 0))
  blk : wr.heap[b]? = some (.cells #[.int .i64 (S.rev + 1), .int .i64 (if 0 < k then S.rev + 1 else S.l0), .int .i64 (if 1 < k then S.rev + 1 else S.l1), .int .i64 (if 2 < k then S.rev + 1 else S.l2), .map (some bm)] 134 (0, 0))
  size : w.heap.size + 2 < wr.heap.size
theorem SetLoop.cell {b bm : Nat} {S : St} {w : World} {k : Nat} {k2 k3 : Int} {v : Value} {tx : ByteArray} {wr : World} (h : SetLoop b bm S w k k2 k3 v tx wr) (j : Nat) (hj : j < 3) : wr.cell? ⟨b, 1 + j, none⟩ = some (.int .i64 (if j < k then S.rev + 1 else if j = 0 then S.l0 else if j = 1 then S.l1 else S.l2)) := by
  refine cell_of_heap h.blk ?_
  rcases (by omega : j = 0 ∨ j = 1 ∨ j = 2) with rfl | rfl | rfl <;> rfl
theorem SetLoop.step {b bm : Nat} {S : St} {w : World} {k : Nat} {k2 k3 : Int} {v : Value} {tx : ByteArray} {wr : World} (h : SetLoop b bm S w k k2 k3 v tx wr) (hb : b < w.heap.size) (hk : k < 3) : SetLoop b bm S w (k + 1) k2 k3 v tx ((wr.setCell ⟨b, 1 + k, none⟩ (.int .i64 (S.rev + 1))).drew) where
  chg := (h.chg.setCell (Or.inl (by simp)) _).drew
  key := (heap_setCell_ne _ _ _ _ (by simp; omega)).trans h.key
  val := (heap_setCell_ne _ _ _ _ (by simp; omega)).trans h.val
  blk := (heap_setCell_same h.blk _).trans (by rcases (by omega : k = 0 ∨ k = 1 ∨ k = 2) with rfl | rfl | rfl <;> rfl)
  size := by have := h.size; simp [World.setCell, World.drew]; omega
theorem set_end {b bm : Nat} {S : St} {w wr w2 : World} {k : Nat} {k2 k3 : Int} {v : Value} {tx : ByteArray} {xs : List Int} {du m : Int} {a : Option Addr} {cap : Nat} {o : Obj} (Hs : StoreIs w b bm S) (Hr : SetLoop b bm S w k k2 k3 v tx wr) (hc : Chg [] wr w2)
    (hi : Ints w2 (.slice a xs.length cap) xs) (hx : xs.length * 8 ≤ 140737488355328) (hmap : MapAt Try.prog 27 qk (setBlock w2 bm o) bm (ups (vals S.es) (0, k2, k3) (CV.val ⟨a, cap, xs, tx, S.rev + 1, du⟩))) (hm : (k : Int) = m + 1) (hm0 : 0 ≤ m) :
    StoreIs (setBlock w2 bm o) b bm (S.set (0, k2, k3) ⟨a, cap, xs, tx, S.rev + 1, du⟩ m) ∧ Chg [b, bm] w (setBlock w2 bm o) := by
  have hne := Hs.ne
  have hbm := Hs.map.lt
  have hb := lt_of_obj Hs.blk
  have hnb : NotE 3 w b := NotE.of_heap Hs.blk (by simp)
  have hnm : NotE 3 w bm := by
    obtain ⟨arr, clock, h1, _⟩ := Hs.map
    exact NotE.of_heap h1 (by simp)
  have c1 : Chg [b] w w2 := Hr.chg.new hc
  have c2 : Chg [b, bm] w (setBlock w2 bm o) := (c1.mono (by simp)).setBlock (Or.inl (by simp)) _
  have c3 : Chg [bm] w2 (setBlock w2 bm o) := (Chg.refl _ _).setBlock (Or.inl (by simp)) _
  have hnm2 : NotE 3 w2 bm := hnm.of_chg c1 hbm (by simpa using Ne.symm hne)
  refine ⟨⟨?_, by rw [ups_vals] at hmap; exact hmap, ?_⟩, c2⟩
  · rw [c3.block b (by have := c1.size; omega) (by simpa using hne), hc.block b (by have := Hr.chg.size; omega) (by simp), Hr.blk]
    have e1 : (0 < k) = True := by simp; omega
    have e2 : (1 < k) = (1 ≤ m) := propext (by omega)
    have e3 : (2 < k) = (2 ≤ m) := propext (by omega)
    simp [St.set, e1, e2, e3]
  · intro p hp
    rcases mem_ups hp with rfl | hp
    · exact ⟨hi.kept c3 (by simpa using hnm2), hx⟩
    · exact (Hs.vals p hp).kept c2 (by intro j hj; simp at hj; rcases hj with rfl | rfl <;> assumption)
set_option maxHeartbeats 1000000 in
theorem set_same (b bm : Nat) (S : St) (k : QK) (v : Value) (xs : List Int) (tx : ByteArray) (du : Int) (w : World) (h : StoreIs w b bm S) (hk : QKok k) (h0 : k.1 = 0) (hv : Ints w v xs) (hdu : 0 ≤ du ∧ du < 3) (hs : S.same k xs tx du) :
    Calls Try.prog 59 #[.pointer (some ⟨b, 0, none⟩), qk k, .agg #[v, .string tx], .int .i64 du] w (SetSame b bm S w) := by
  obtain ⟨hd0, hd3⟩ := hdu
  have hl : ∀ w', Chg [] w w' → (Instr.lookup 131 (.map (some bm)) (qk k) false).run Try.prog w' = .ok (S.at k).val w' := fun w' hc => (h.same hc).lookup hk
  have hold := h.at k
  have h4 := cell_of_heap h.blk (i := 4) rfl
  have hb := World.new_ne w _ h4
  have hb2 := lt_of_obj h.blk
  have hb3 : b < w.heap.size + 1 := by omega
  have hb4 : b < w.heap.size + 2 := by omega
  have hb5 : b < w.heap.size + 1 + 1 := by omega
  have hb6 : b < w.heap.size + 3 := by omega
  obtain ⟨av, cv, rfl⟩ := hv.shape
  unfold St.same at hs
  obtain ⟨⟨a0, cap0, xs0, tx0, ch, du0⟩, hc⟩ : ∃ c, c = S.at k := ⟨_, rfl⟩
  rw [← hc] at hl hold hs
  clear hc
  obtain ⟨rfl, rfl, rfl⟩ := hs
  obtain ⟨k1, k2, k3⟩ := k
  obtain rfl : k1 = 0 := h0
  simp only [CV.val] at hl hd0 hd3 ⊢
  unfold qk at hl ⊢
  have Hv := Lib.hid hv
  have Ho := Lib.hid hold.1
  have Hs := Lib.hid h
  have hl2 := fun o1 o2 => hl _ (((Chg.refl [] w).alloc o1).alloc o2).drew
  have hl3 := fun o1 o2 o3 => hl _ ((((Chg.refl [] w).alloc o1).alloc o2).alloc o3).drew
  clear hv h hl hk hold
  go_enter Try.func59, Try.ntmps59
  go_wp2
  go_region
  go_wp2_with fail
  refine (inputsEqual _ _ _ _ _ _ _ (Ho.out.same ?ho) (Hv.out.same ?hv)).mono ?_
  case ho => repeat (first | exact Chg.refl _ _ | apply Chg.drew | apply Chg.alloc | refine Chg.setCell ?_ (Or.inr (by simp)) _)
  case hv => repeat (first | exact Chg.refl _ _ | apply Chg.drew | apply Chg.alloc | refine Chg.setCell ?_ (Or.inr (by simp)) _)
  rintro e w1 ⟨rfl, hc1⟩
  rw [decide_eq_true (show tx0 = tx0 ∧ xs0 = xs0 from ⟨rfl, rfl⟩)]
  go_wp2
  go_ret2
  have hc : Chg [] w w1 := by
    refine Chg.new ?_ hc1
    repeat (first | exact Chg.refl _ _ | apply Chg.drew | apply Chg.alloc | refine Chg.setCell ?_ (Or.inr (by simp)) _)
  exact ⟨rfl, Hs.out.same hc, hc⟩

set_option maxHeartbeats 2000000 in
theorem set_new (b bm : Nat) (S : St) (k : QK) (v : Value) (xs : List Int) (tx : ByteArray) (du : Int) (w : World) (h : StoreIs w b bm S) (hk : QKok k) (h0 : k.1 = 0) (hv : Ints w v xs) (hx : xs.length * 8 ≤ 140737488355328) (hdu : 0 ≤ du ∧ du < 3) (hdo : 0 ≤ (S.at k).du ∧ (S.at k).du < 3) (hrev : 0 ≤ S.rev ∧ S.rev < 4611686018427387904) (hs : ¬ S.same k xs tx du) :
    Calls Try.prog 59 #[.pointer (some ⟨b, 0, none⟩), qk k, .agg #[v, .string tx], .int .i64 du] w (SetNew b bm S k xs tx du w) := by
  obtain ⟨hd0, hd3⟩ := hdu
  obtain ⟨ho0, ho3⟩ := hdo
  obtain ⟨hr0, hr1⟩ := hrev
  have hl : ∀ w', Chg [] w w' → (Instr.lookup 131 (.map (some bm)) (qk k) false).run Try.prog w' = .ok (S.at k).val w' := fun w' hc => (h.same hc).lookup hk
  have hold := h.at k
  have hblk := h.blk
  have h4 := cell_of_heap h.blk (i := 4) rfl
  have hb := World.new_ne w _ h4
  have hb2 := lt_of_obj h.blk
  have hb3 : b < w.heap.size + 1 := by omega
  have hb4 : b < w.heap.size + 2 := by omega
  have hb5 : b < w.heap.size + 1 + 1 := by omega
  have hb6 : b < w.heap.size + 3 := by omega
  obtain ⟨av, cv, rfl⟩ := hv.shape
  unfold St.same at hs
  obtain ⟨c, hc⟩ : ∃ c, c = S.at k := ⟨_, rfl⟩
  rw [← hc] at hl hold hs ho0 ho3
  have Hc := Lib.hid hc
  clear hc
  obtain ⟨a0, cap0, xs0, tx0, ch, du0⟩ := c
  obtain ⟨k1, k2, k3⟩ := k
  obtain rfl : k1 = 0 := h0
  simp only [CV.val] at hl hs ho0 ho3 ⊢
  unfold qk at hl ⊢
  have Hv := Lib.hid hv
  have Ho := Lib.hid hold.1
  have Hs := Lib.hid h
  have Hk := Lib.hid hk
  have Hblk := Lib.hid hblk
  have hr := cell_of_heap h.blk (i := 0) rfl
  have fr := frozen_of_heap h.blk (i := 0)
  have hl2 := fun o1 o2 => hl _ (((Chg.refl [] w).alloc o1).alloc o2).drew
  have hl3 := fun o1 o2 o3 => hl _ ((((Chg.refl [] w).alloc o1).alloc o2).alloc o3).drew
  clear hv h hl hk hold hblk
  by_cases hdd : du0 = du
  · subst hdd
    have Hn := Lib.hid hs
    clear hs
    go_enter Try.func59, Try.ntmps59
    go_wp2
    go_region
    go_wp2_with fail
    refine (inputsEqual _ _ _ _ _ _ _ (Ho.out.same ?ho) (Hv.out.same ?hv)).mono ?_
    case ho => repeat (first | exact Chg.refl _ _ | apply Chg.drew | apply Chg.alloc | refine Chg.setCell ?_ (Or.inr (by simp)) _)
    case hv => repeat (first | exact Chg.refl _ _ | apply Chg.drew | apply Chg.alloc | refine Chg.setCell ?_ (Or.inr (by simp)) _)
    rintro e w1 ⟨rfl, hc1⟩
    rw [decide_eq_false (show ¬ (tx0 = tx ∧ xs0 = xs) from fun e => Hn.out ⟨trivial, e⟩)]
    have hcw : Chg [] w w1 := by
      refine Chg.new ?_ hc1
      repeat (first | exact Chg.refl _ _ | apply Chg.drew | apply Chg.alloc | refine Chg.setCell ?_ (Or.inr (by simp)) _)
    have B1 := (hc1.block w.heap.size (by first | (simp; done) | (simp; omega)) (by simp)).trans ((heap_past _ _ _ (by first | (simp; done) | (simp; omega))).trans ((heap_past _ _ _ (by simp)).trans (heap_at _ _ _ rfl)))
    have B2 := (hc1.block (w.heap.size + 1) (by first | (simp; done) | (simp; omega)) (by simp)).trans ((heap_past _ _ _ (by simp)).trans (heap_at _ _ _ (by simp)))
    have B3 := (hc1.block (w.heap.size + 1 + 1) (by simp) (by simp)).trans (heap_at _ _ _ (by simp))
    have Bb := (hcw.block b hb2 (by simp)).trans Hblk.out
    have hz1 : w.heap.size + 2 < w1.heap.size := by have := hc1.size; simp at this; omega
    have hr1' := cell_of_heap Bb (i := 0) rfl
    have fr1 := frozen_of_heap Bb (i := 0)
    have d1 := cell_of_heap B3 (i := 3) rfl
    clear hr fr h4
    go_wp2
    go_loopw [49] (fun i wr => ∃ k : Nat, (k : Int) ≤ du0 + 1 ∧ i = .int .i64 k ∧ SetLoop b bm S w k k2 k3 (.slice av xs.length cv) tx wr) (fun i _ => (du0 + 1 - intOf i).toNat)
    case atStart =>
      refine ⟨0, by omega, rfl, ⟨?_, (heap_setCell_ne _ _ _ _ (by simp; omega)).trans B1, (heap_setCell_ne _ _ _ _ (by simp; omega)).trans B2, heap_setCell_same Bb _, by simp [World.setCell]; omega⟩⟩
      exact ((hcw.mono (by simp)).setCell (Or.inl (by simp)) _)
    case round =>
      obtain ⟨k, hk, rfl, hrel⟩ := hrel
      by_cases hlt : (k : Int) < du0 + 1
      · have hk0 : (0 : Int) ≤ k := by omega
        have hk3 : (k : Int) < 3 := by omega
        have g0 := cell_of_heap hrel.blk (i := 0) rfl
        have gk := hrel.cell k (by omega)
        have fk := frozen_of_heap hrel.blk (i := 1 + k)
        have hbw := lt_of_obj hrel.blk
        have Hr := Lib.hid hrel
        clear hrel B1 B2 B3 Bb hr1' fr1 d1
        go_wp2
        go_region
        go_wp2
        exact ⟨⟨k + 1, by omega, by go_num, Hr.out.step hb2 (by omega)⟩, by simp [intOf]; omega⟩
      · have g0 := cell_of_heap hrel.blk (i := 0) rfl
        have g4 := cell_of_heap hrel.blk (i := 4) rfl
        have n0 := cell_of_heap hrel.key (i := 0) rfl
        have n1 := cell_of_heap hrel.key (i := 1) rfl
        have n2 := cell_of_heap hrel.key (i := 2) rfl
        have m0 := cell_of_heap hrel.val (i := 0) rfl
        have m1 := cell_of_heap hrel.val (i := 1) rfl
        have Hr := Lib.hid hrel
        have hnb : NotE 3 w b := NotE.of_heap Hblk.out (by simp)
        have hne := Hs.out.ne
        have hbm := Hs.out.map.lt
        clear hrel
        go_wp2
        go_region_held3 (fun w' => w'.cell? ⟨b, 0, none⟩ = some (.int .i64 (S.rev + 1)) ∧ w'.cell? ⟨b, 4, none⟩ = some (.map (some bm)) ∧ w'.cell? ⟨w.heap.size, 0, none⟩ = some (.int .i64 0) ∧ w'.cell? ⟨w.heap.size, 1, none⟩ = some (.int .i64 k2) ∧ w'.cell? ⟨w.heap.size, 2, none⟩ = some (.int .i64 k3) ∧ w'.cell? ⟨w.heap.size + 1, 0, none⟩ = some (.slice av xs.length cv) ∧ w'.cell? ⟨w.heap.size + 1, 1, none⟩ = some (.string tx))
          (first | (go_keep; done) | (refine ⟨?_, ?_, ?_, ?_, ?_, ?_, ?_⟩ <;> (rw [hc2.cell (by have := Hr.out.size; simp only [heap_drew]; omega) (by simp)]; simp [go_sem, *]; done)) | (refine ⟨?_, ?_, ?_, ?_, ?_, ?_, ?_⟩ <;> (rw [cell_setBlock (by simp; omega)]; rw [hc2.cell (by have := Hr.out.size; simp only [heap_drew]; omega) (by simp)]; simp [go_sem, *]; done)))
          ((go_at_call 85; refine (inputsClone _ _ _ xs (Hv.out.kept Hr.out.chg.drew (by simpa using hnb)) hx).mono ?_; rintro e w2 ⟨a1, c1, rfl, hi1, hn1, hc2⟩; obtain ⟨o, hupd, hmap⟩ := ((Hs.out.map.kept Hr.out.chg (by simpa using Ne.symm hne)).kept (Chg.drew (Chg.refl [] _) |>.new hc2) (by simp)).update qkeyed qk_inj Try.underlying131 (qkOk Hk.out) (CV.val ⟨a1, c1, xs, tx, S.rev + 1, du0⟩); simp only [CV.val] at hupd; unfold qk at hupd))
        go_wp2
        go_ret2
        have hfin := set_end (m := du0) Hs.out Hr.out ((Chg.refl [] wr).drew.new hc2) hi1 hx hmap (by omega) ho0
        refine ⟨a1, c1, rfl, ?_, hfin.2, fun ad ha => by have h1 := hn1 ad ha; have h2 := Hr.out.size; have h3 : wr.drew.heap.size = wr.heap.size := rfl; omega⟩
        rw [← Hc.out, Int.max_self]
        exact hfin.1
  · have hdd' : (du0 == du) = false := by simpa using hdd
    clear hs
    rcases Int.lt_or_gt_of_ne hdd with hlt0 | hgt0
    · clear hdd
      go_enter Try.func59, Try.ntmps59
      go_wp2
      go_region
      go_wp2
      go_loopw [49] (fun i wr => ∃ k : Nat, (k : Int) ≤ du + 1 ∧ i = .int .i64 k ∧ SetLoop b bm S w k k2 k3 (.slice av xs.length cv) tx wr) (fun i _ => (du + 1 - intOf i).toNat)
      case atStart =>
        have es : ∀ o : Value, (w.setCell ⟨b, 0, none⟩ o).heap.size = w.heap.size := fun o => by simp [World.setCell]
        refine ⟨0, by omega, rfl, ⟨(((((Chg.refl [b] w).setCell (Or.inl (by simp)) _).alloc _).alloc _).alloc _).drew, ?_, ?_, ?_, ?_⟩⟩
        · exact (heap_past _ _ _ (by simp [es]; omega)).trans ((heap_past _ _ _ (by simp [es])).trans (heap_at _ _ _ (es _).symm))
        · exact (heap_past _ _ _ (by simp [es])).trans (heap_at _ _ _ (by simp [es]))
        · exact (heap_past _ _ _ (by simp [es]; omega)).trans ((heap_past _ _ _ (by simp [es]; omega)).trans ((heap_past _ _ _ (by rw [es]; exact hb2)).trans (heap_setCell_same Hblk.out _)))
        · simp only [heap_drew]; simp [es]
      case round =>
        obtain ⟨k, hk, rfl, hrel⟩ := hrel
        by_cases hlt : (k : Int) < du + 1
        · have hk0 : (0 : Int) ≤ k := by omega
          have hk3 : (k : Int) < 3 := by omega
          have g0 := cell_of_heap hrel.blk (i := 0) rfl
          have gk := hrel.cell k (by omega)
          have fk := frozen_of_heap hrel.blk (i := 1 + k)
          have hbw := lt_of_obj hrel.blk
          have Hr := Lib.hid hrel
          clear hrel hr fr h4
          go_wp2
          go_region
          go_wp2
          exact ⟨⟨k + 1, by omega, by go_num, Hr.out.step hb2 (by omega)⟩, by simp [intOf]; omega⟩
        · have g0 := cell_of_heap hrel.blk (i := 0) rfl
          have g4 := cell_of_heap hrel.blk (i := 4) rfl
          have n0 := cell_of_heap hrel.key (i := 0) rfl
          have n1 := cell_of_heap hrel.key (i := 1) rfl
          have n2 := cell_of_heap hrel.key (i := 2) rfl
          have m0 := cell_of_heap hrel.val (i := 0) rfl
          have m1 := cell_of_heap hrel.val (i := 1) rfl
          have Hr := Lib.hid hrel
          have hnb : NotE 3 w b := NotE.of_heap Hblk.out (by simp)
          have hne := Hs.out.ne
          have hbm := Hs.out.map.lt
          clear hrel hr fr h4
          go_wp2
          go_region_held3 (fun w' => w'.cell? ⟨b, 0, none⟩ = some (.int .i64 (S.rev + 1)) ∧ w'.cell? ⟨b, 4, none⟩ = some (.map (some bm)) ∧ w'.cell? ⟨w.heap.size, 0, none⟩ = some (.int .i64 0) ∧ w'.cell? ⟨w.heap.size, 1, none⟩ = some (.int .i64 k2) ∧ w'.cell? ⟨w.heap.size, 2, none⟩ = some (.int .i64 k3) ∧ w'.cell? ⟨w.heap.size + 1, 0, none⟩ = some (.slice av xs.length cv) ∧ w'.cell? ⟨w.heap.size + 1, 1, none⟩ = some (.string tx))
            (first | (go_keep; done) | (refine ⟨?_, ?_, ?_, ?_, ?_, ?_, ?_⟩ <;> (rw [hc2.cell (by have := Hr.out.size; simp only [heap_drew]; omega) (by simp)]; simp [go_sem, *]; done)) | (refine ⟨?_, ?_, ?_, ?_, ?_, ?_, ?_⟩ <;> (rw [cell_setBlock (by simp; omega)]; rw [hc2.cell (by have := Hr.out.size; simp only [heap_drew]; omega) (by simp)]; simp [go_sem, *]; done)))
            ((go_at_call 85; refine (inputsClone _ _ _ xs (Hv.out.kept Hr.out.chg.drew (by simpa using hnb)) hx).mono ?_; rintro e w2 ⟨a1, c1, rfl, hi1, hn1, hc2⟩; obtain ⟨o, hupd, hmap⟩ := ((Hs.out.map.kept Hr.out.chg (by simpa using Ne.symm hne)).kept (Chg.drew (Chg.refl [] _) |>.new hc2) (by simp)).update qkeyed qk_inj Try.underlying131 (qkOk Hk.out) (CV.val ⟨a1, c1, xs, tx, S.rev + 1, du⟩); simp only [CV.val] at hupd; unfold qk at hupd))
          go_wp2
          go_ret2
          have hfin := set_end (m := du) Hs.out Hr.out ((Chg.refl [] wr).drew.new hc2) hi1 hx hmap (by omega) (by omega)
          refine ⟨a1, c1, rfl, ?_, hfin.2, fun ad ha => by have h1 := hn1 ad ha; have h2 := Hr.out.size; have h3 : wr.drew.heap.size = wr.heap.size := rfl; omega⟩
          rw [← Hc.out, Int.max_eq_right (Int.le_of_lt hlt0)]
          exact hfin.1
    · clear hdd
      go_enter Try.func59, Try.ntmps59
      go_wp2
      go_region
      go_wp2
      go_loopw [49] (fun i wr => ∃ k : Nat, (k : Int) ≤ du0 + 1 ∧ i = .int .i64 k ∧ SetLoop b bm S w k k2 k3 (.slice av xs.length cv) tx wr) (fun i _ => (du0 + 1 - intOf i).toNat)
      case atStart =>
        have es : ∀ o : Value, (w.setCell ⟨b, 0, none⟩ o).heap.size = w.heap.size := fun o => by simp [World.setCell]
        refine ⟨0, by omega, rfl, ⟨(((((Chg.refl [b] w).setCell (Or.inl (by simp)) _).alloc _).alloc _).alloc _).drew, ?_, ?_, ?_, ?_⟩⟩
        · exact (heap_past _ _ _ (by simp [es]; omega)).trans ((heap_past _ _ _ (by simp [es])).trans (heap_at _ _ _ (es _).symm))
        · exact (heap_past _ _ _ (by simp [es])).trans (heap_at _ _ _ (by simp [es]))
        · exact (heap_past _ _ _ (by simp [es]; omega)).trans ((heap_past _ _ _ (by simp [es]; omega)).trans ((heap_past _ _ _ (by rw [es]; exact hb2)).trans (heap_setCell_same Hblk.out _)))
        · simp only [heap_drew]; simp [es]
      case round =>
        obtain ⟨k, hk, rfl, hrel⟩ := hrel
        by_cases hlt : (k : Int) < du0 + 1
        · have hk0 : (0 : Int) ≤ k := by omega
          have hk3 : (k : Int) < 3 := by omega
          have g0 := cell_of_heap hrel.blk (i := 0) rfl
          have gk := hrel.cell k (by omega)
          have fk := frozen_of_heap hrel.blk (i := 1 + k)
          have hbw := lt_of_obj hrel.blk
          have Hr := Lib.hid hrel
          clear hrel hr fr h4
          go_wp2
          go_region
          go_wp2
          exact ⟨⟨k + 1, by omega, by go_num, Hr.out.step hb2 (by omega)⟩, by simp [intOf]; omega⟩
        · have g0 := cell_of_heap hrel.blk (i := 0) rfl
          have g4 := cell_of_heap hrel.blk (i := 4) rfl
          have n0 := cell_of_heap hrel.key (i := 0) rfl
          have n1 := cell_of_heap hrel.key (i := 1) rfl
          have n2 := cell_of_heap hrel.key (i := 2) rfl
          have m0 := cell_of_heap hrel.val (i := 0) rfl
          have m1 := cell_of_heap hrel.val (i := 1) rfl
          have Hr := Lib.hid hrel
          have hnb : NotE 3 w b := NotE.of_heap Hblk.out (by simp)
          have hne := Hs.out.ne
          have hbm := Hs.out.map.lt
          clear hrel hr fr h4
          go_wp2
          go_region_held3 (fun w' => w'.cell? ⟨b, 0, none⟩ = some (.int .i64 (S.rev + 1)) ∧ w'.cell? ⟨b, 4, none⟩ = some (.map (some bm)) ∧ w'.cell? ⟨w.heap.size, 0, none⟩ = some (.int .i64 0) ∧ w'.cell? ⟨w.heap.size, 1, none⟩ = some (.int .i64 k2) ∧ w'.cell? ⟨w.heap.size, 2, none⟩ = some (.int .i64 k3) ∧ w'.cell? ⟨w.heap.size + 1, 0, none⟩ = some (.slice av xs.length cv) ∧ w'.cell? ⟨w.heap.size + 1, 1, none⟩ = some (.string tx))
            (first | (go_keep; done) | (refine ⟨?_, ?_, ?_, ?_, ?_, ?_, ?_⟩ <;> (rw [hc2.cell (by have := Hr.out.size; simp only [heap_drew]; omega) (by simp)]; simp [go_sem, *]; done)) | (refine ⟨?_, ?_, ?_, ?_, ?_, ?_, ?_⟩ <;> (rw [cell_setBlock (by simp; omega)]; rw [hc2.cell (by have := Hr.out.size; simp only [heap_drew]; omega) (by simp)]; simp [go_sem, *]; done)))
            ((go_at_call 85; refine (inputsClone _ _ _ xs (Hv.out.kept Hr.out.chg.drew (by simpa using hnb)) hx).mono ?_; rintro e w2 ⟨a1, c1, rfl, hi1, hn1, hc2⟩; obtain ⟨o, hupd, hmap⟩ := ((Hs.out.map.kept Hr.out.chg (by simpa using Ne.symm hne)).kept (Chg.drew (Chg.refl [] _) |>.new hc2) (by simp)).update qkeyed qk_inj Try.underlying131 (qkOk Hk.out) (CV.val ⟨a1, c1, xs, tx, S.rev + 1, du⟩); simp only [CV.val] at hupd; unfold qk at hupd))
          go_wp2
          go_ret2
          have hfin := set_end (m := du0) Hs.out Hr.out ((Chg.refl [] wr).drew.new hc2) hi1 hx hmap (by omega) (by omega)
          refine ⟨a1, c1, rfl, ?_, hfin.2, fun ad ha => by have h1 := hn1 ad ha; have h2 := Hr.out.size; have h3 : wr.drew.heap.size = wr.heap.size := rfl; omega⟩
          rw [← Hc.out, Int.max_eq_left (Int.le_of_lt hgt0)]
          exact hfin.1
end Go.Proofs.Ytdeodcomlakpaaa.Inp
