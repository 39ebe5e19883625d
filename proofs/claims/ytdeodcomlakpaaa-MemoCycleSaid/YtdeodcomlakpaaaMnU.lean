/- A database of a law's own; the laws' fixed example. -/
import Derived.Test.YtdeodcomlakpaaaMnT
namespace Go.Proofs.Ytdeodcomlakpaaa
open Go.RowKit Go.ChangeMaps Go.MapKept
set_option linter.unusedVariables false
set_option linter.unusedSimpArgs false
/-- a database that was made behind the world wb -/
def DbF (p : Prg) (wb : World) (b : Nat) (w : World) (d : Dm) : Prop :=
  ∃ w0 RO bv bq qv, DbQ p w0 RO b bv bq qv w d ∧ Chg [] wb w ∧ ∀ g ∈ d.muts b, wb.heap.size ≤ g
/-- values read before stay -/
def Stay (w w' : World) : Prop := ∀ v xs, Inp.Ints w v xs → Inp.Ints w' v xs
theorem Stay.new {w w' : World} (hc : Chg [] w w') : Stay w w' := fun v xs h => h.same hc
theorem Stay.trans {w w1 w2 : World} (h : Stay w w1) (k : Stay w1 w2) : Stay w w2 := fun v xs hi => k v xs (h v xs hi)
theorem grow {b : Nat} {wb w w' : World} {d d' : Dm} (hc : Chg [] wb w) (hf : ∀ g ∈ d.muts b, wb.heap.size ≤ g) (ha : After b w w' d d') : Chg [] wb w' ∧ ∀ g ∈ d'.muts b, wb.heap.size ≤ g :=
  ⟨ChgP.toL ((hc.p (S := fun g => g ∈ ([] : List Nat))).comp ha.chg fun g hg => Or.inr (hf g hg)), fun g hg => (ha.muts g hg).elim (hf g) fun h => Nat.le_trans hc.size h⟩
def GetPostF (p : Prg) (stp : PS → Bool) (wb : World) (b : Nat) (k : QK) (w : World) (d : Dm) (e : Ending) (w' : World) : Prop :=
  ∃ d', DbF p wb b w' d' ∧ d'.pl = (upQ p stp d.pl k).2.idle ∧ After b w w' d d' ∧ match (upQ p stp d.pl k).1 with
    | .ok _ => ∃ a c, e = .returned (.tuple #[.agg #[.slice a ((upQ p stp d.pl k).2.res k).xs.length c, .string ⟨#[]⟩], .int .i64 0]) ∧ Inp.Ints w' (.slice a ((upQ p stp d.pl k).2.res k).xs.length c) ((upQ p stp d.pl k).2.res k).xs
    | .error x => e = .returned (.tuple #[.agg #[.slice none 0 0, .string ⟨#[]⟩], .int .i64 x])
def SetPostF (p : Prg) (wb : World) (b : Nat) (k : QK) (xs : List Int) (du : Int) (w : World) (d : Dm) (e : Ending) (w' : World) : Prop :=
  ∃ d', DbF p wb b w' d' ∧ d'.pl = setP d.pl k xs du ∧ After b w w' d d' ∧ e = .returned (.int .i64 0)
/-- a block that is none of the database's -/
structure Box (b : Nat) (w : World) (d : Dm) (g : Nat) (o : Obj) : Prop where
  blk : w.heap[g]? = some o
  off : g ∉ d.muts b
theorem Box.new {b : Nat} {w w' : World} {d : Dm} {g : Nat} {o : Obj} (h : Box b w d g o) (hc : Chg [] w w') : Box b w' d g o := ⟨(hc.block g (lt_of_obj h.blk) (by simp)).trans h.blk, h.off⟩
theorem Box.after {b : Nat} {w w' : World} {d d' : Dm} {g : Nat} {o : Obj} (h : Box b w d g o) (ha : After b w w' d d') : Box b w' d' g o :=
  ⟨(ha.chg.block g (lt_of_obj h.blk) h.off).trans h.blk, fun hm => (ha.muts g hm).elim h.off fun hs => by have := lt_of_obj h.blk; omega⟩
theorem Box.make {b : Nat} {w : World} {d : Dm} (h : DmAt w b d) (cs : Array Value) (ty : TypeId) : Box b (w.alloc (.cells cs ty)) d w.heap.size (.cells cs ty) := ⟨heap_at _ _ _ rfl, fun hm => by have := h.lt _ hm; omega⟩
section
variable {p : Prg} {wb : World} {b : Nat} {w w' : World} {d d' : Dm}
theorem DbF.new (h : DbF p wb b w d) (hc : Chg [] w w') : DbF p wb b w' d := by
  obtain ⟨w0, RO, bv, bq, qv, h1, h2, h3⟩ := h
  exact ⟨w0, RO, bv, bq, qv, h1.new hc, h2.trans hc, h3⟩
theorem DbF.chg (h : DbF p wb b w d) : Chg [] wb w := by
  obtain ⟨w0, RO, bv, bq, qv, h1, h2, h3⟩ := h
  exact h2
theorem DbF.mem (h : DbF p wb b w d) : DmAt w b d := by
  obtain ⟨w0, RO, bv, bq, qv, h1, h2, h3⟩ := h
  exact h1.env.mem
theorem DbF.inv (h : DbF p wb b w d) : InvW p d.pl := by
  obtain ⟨w0, RO, bv, bq, qv, h1, h2, h3⟩ := h
  exact h1.inv
theorem DbF.get (hp : PrgOk p) (h : DbF p wb b w d) (q : Nat) (hq : q < p.qs.length) :
    Calls Try.prog 19 #[.pointer (some ⟨b, 0, none⟩), i3v (1, (q : Int), 0)] w (GetPostF p (fun _ => false) wb b (1, (q : Int), 0) w d) := by
  obtain ⟨w0, RO, bv, bq, qv, h1, h2, h3⟩ := h
  refine (getQ_any hp h1 q hq).mono ?_
  rintro e w' ⟨⟨d', ha, hpl, hm⟩, hdb⟩
  exact ⟨d', ⟨w0, RO, bv, bq, qv, hdb d' hpl ha, grow h2 h3 ha⟩, hpl, ha, hm⟩
theorem DbF.set (h : DbF p wb b w d) (k : QK) (v : Value) (xs : List Int) (du : Int) (hk : Inp.QKok k) (h0 : k.1 = 0) (hv : Inp.Ints w v xs) (hx : xs.length * 8 ≤ 140737488355328) (hdu : 0 ≤ du ∧ du < 3) (hrev : 0 ≤ d.pl.rev ∧ d.pl.rev < 4611686018427387904) :
    Calls Try.prog 24 #[.pointer (some ⟨b, 0, none⟩), i3v k, .agg #[v, .string ⟨#[]⟩], .int .i64 du] w (SetPostF p wb b k xs du w d) := by
  obtain ⟨w0, RO, bv, bq, qv, h1, h2, h3⟩ := h
  refine (dbSet_any w d k v xs du h1.env.mem h1.stop hk h0 hv hx hdu (by have := h1.inv.du k; omega) hrev).mono ?_
  rintro e w' ⟨d', ha, hpl, he⟩
  exact ⟨d', ⟨w0, RO, bv, bq, qv, h1.after ha (by rw [hpl]; exact invW_set h1.inv k xs du hdu), grow h2 h3 ha⟩, hpl, ha, he⟩
end
set_option maxRecDepth 100000 in
set_option maxHeartbeats 8000000 in
theorem memoExample_any (w : World) : Calls Try.prog 14 #[] w fun e w' => e = .returned (.bool true) ∧ Chg [] w w' := by
  go_enter Try.func14, Try.ntmps14
  go_wp2_with fail
  refine (threshold_any _).mono ?_
  rintro e w1 ⟨v, rfl, hq, hc1⟩
  obtain ⟨av, cv, rfl, _⟩ := hq.shape
  have Hq := Lib.hid hq
  have Hc1 := Lib.hid hc1
  clear hq hc1
  go_wp2_with fail
  refine (compile_any _ w1 1 thP.qs _ Hq.out thP_ok).mono ?_
  rintro e w2 ⟨bv, bq, qv, rfl, hm2, hc2⟩
  have Hm2 := Lib.hid hm2
  have Hc2 := Lib.hid (Hc1.out.trans hc2)
  clear hm2 hc2
  go_wp2_with fail
  refine (memoNew_any _ _ w2).mono ?_
  rintro e w3 ⟨b, d, rfl, hd, hpl, hcomp, hstop, hc3, hn⟩
  have Hdb := Lib.hid (show DbF thP w b w3 d from ⟨_, _, _, _, _, DbQ.make Hm2.out (fun g hg => hg.2) hd hpl hcomp hstop hc3 hn, Hc2.out.trans hc3, fun g hg => Nat.le_trans Hc2.out.size (hn g (List.mem_append_left _ hg))⟩)
  have Hpl := Lib.hid hpl
  clear hd hpl hcomp hstop hc3 hn Hm2 Hc2 Hq Hc1
  go_wp2_with fail
  refine (number_any 4 _).mono ?_
  rintro e w4 ⟨a4, c4, rfl, hi4, hc4⟩
  have Hdb4 := Lib.hid (Hdb.out.new hc4)
  have Hi4 := Lib.hid hi4
  clear hi4 hc4 Hdb
  go_wp2_with fail
  refine (Hdb4.out.set (0, 0, 0) _ [4] 0 (keyInOk (inp := 1) (idx := 0) (Or.inl ⟨rfl, by decide, by decide, rfl⟩) (by decide) (by decide)) rfl Hi4.out (by simp) (by omega) (by rw [Hpl.out]; exact ⟨by decide +kernel, by decide +kernel⟩)).mono ?_
  rintro e w5 ⟨d5, hd5, hpl5, _, rfl⟩
  have Hdb5 := Lib.hid hd5
  have Hpl5 := Lib.hid (hpl5.trans (by rw [Hpl.out]; rfl) : d5.pl = ex1)
  clear hd5 hpl5 Hi4 Hdb4 Hpl
  go_wp2_with fail
  refine (queryKey_any 1 _).mono ?_
  rintro e w6 ⟨rfl, hc6⟩
  have Hdb6 := Lib.hid (Hdb5.out.new hc6)
  clear hc6 Hdb5
  go_wp2_with fail
  refine (Hdb6.out.get thP_ok 1 (by decide)).mono ?_
  rintro e w7 ⟨d7, hd7, hpl7, _, hm⟩
  rw [Hpl5.out] at hpl7 hm
  have h2 : (upQ thP (fun _ => false) ex1 (1, ((1 : Nat) : Int), 0)).1 = .ok () := ex2_ok
  have h2v : ((upQ thP (fun _ => false) ex1 (1, ((1 : Nat) : Int), 0)).2.res (1, ((1 : Nat) : Int), 0)).xs = [0] := ex2_val
  rw [h2] at hm
  simp only [h2v] at hm
  obtain ⟨a7, c7, rfl, hi7⟩ := hm
  have hcv : Chg [] w7 (w7.alloc (.cells #[.slice a7 1 c7, .string ⟨#[]⟩] 31)) := (Chg.refl [] w7).alloc _
  have Hbx := Lib.hid (Box.make hd7.mem #[.slice a7 1 c7, .string ⟨#[]⟩] 31)
  have Hdb7 := Lib.hid (hd7.new hcv)
  have Hpl7 := Lib.hid (show d7.pl = ex2.2.idle from hpl7)
  have Hi7 := Lib.hid (hi7.same hcv)
  clear hd7 hpl7 hi7 h2 h2v hcv Hdb6 Hpl5
  go_wp2_with fail
  obtain ⟨w8, hw8⟩ : ∃ x, x = w7.alloc (.cells #[.slice a7 1 c7, .string ⟨#[]⟩] 31) := ⟨_, rfl⟩
  rw [← hw8] at Hbx Hdb7 Hi7 ⊢
  clear hw8
  refine (number_any 7 _).mono ?_
  rintro e w9 ⟨a9, c9, rfl, hi9, hc9⟩
  have Hdb9 := Lib.hid (Hdb7.out.new hc9)
  have Hbx9 := Lib.hid (Hbx.out.new hc9)
  have Hi7' := Lib.hid (Hi7.out.same hc9)
  have Hi9 := Lib.hid hi9
  clear hi9 hc9 Hdb7 Hbx Hi7
  go_wp2_with fail
  refine (Hdb9.out.set (0, 0, 0) _ [7] 0 (keyInOk (inp := 1) (idx := 0) (Or.inl ⟨rfl, by decide, by decide, rfl⟩) (by decide) (by decide)) rfl Hi9.out (by simp) (by omega) (by rw [Hpl7.out]; exact ⟨by decide +kernel, by decide +kernel⟩)).mono ?_
  rintro e w10 ⟨d10, hd10, hpl10, ha10, rfl⟩
  have Hpl10 := Lib.hid (hpl10.trans (by rw [Hpl7.out]; rfl) : d10.pl = ex3)
  have Hdb10 := Lib.hid hd10
  have Hbx10 := Lib.hid (Hbx9.out.after ha10)
  have Hi10 := Lib.hid (ha10.ints Hdb9.out.mem Hi7'.out)
  clear hpl10 hd10 ha10 Hdb9 Hbx9 Hi7' Hi9 Hpl7
  go_wp2_with fail
  refine (queryKey_any 1 _).mono ?_
  rintro e w11 ⟨rfl, hc11⟩
  have Hdb11 := Lib.hid (Hdb10.out.new hc11)
  have Hbx11 := Lib.hid (Hbx10.out.new hc11)
  have Hi11 := Lib.hid (Hi10.out.same hc11)
  clear hc11 Hdb10 Hbx10 Hi10
  go_wp2_with fail
  refine (Hdb11.out.get thP_ok 1 (by decide)).mono ?_
  rintro e w12 ⟨d12, hd12, hpl12, ha12, hm⟩
  rw [Hpl10.out] at hpl12 hm
  have h2 : (upQ thP (fun _ => false) ex3 (1, ((1 : Nat) : Int), 0)).1 = .ok () := ex4_ok
  have h2v : ((upQ thP (fun _ => false) ex3 (1, ((1 : Nat) : Int), 0)).2.res (1, ((1 : Nat) : Int), 0)).xs = [0] := ex4_val
  rw [h2] at hm
  simp only [h2v] at hm
  obtain ⟨a12, c12, rfl, hi12⟩ := hm
  have hq7 : w12.cell? ⟨w7.heap.size, 0, none⟩ = some (.slice a7 1 c7) := cell_of_heap (Hbx11.out.after ha12).blk rfl
  have l7 : w7.heap.size < w12.heap.size := lt_of_cell hq7
  have l71 : w7.heap.size < w12.heap.size + 1 := by omega
  have l72 : w7.heap.size < w12.heap.size + 2 := by omega
  have l73 : w7.heap.size < w12.heap.size + 1 + 1 := by omega
  have hcnt : d12.cnt = 3 := by
    have : d12.pl.cnt = 3 := by rw [hpl12]; exact ex4_cnt
    exact this
  have Hdb12 := Lib.hid hd12
  have Hi12 := Lib.hid hi12
  have Hj12 := Lib.hid (ha12.ints Hdb11.out.mem Hi11.out)
  have Hcnt := Lib.hid hcnt
  clear hd12 hpl12 ha12 h2 h2v hi12 hcnt Hdb11 Hbx11 Hi11 Hpl10
  go_wp2_with fail
  have hrow : ∀ w : World, Inp.Ints (w.alloc (.cells #[.int .i64 0] 3)) (.slice (some ⟨w.heap.size, 0, none⟩) 1 1) [0] := fun w => Or.inr ⟨w.heap.size, 0, 1, #[.int .i64 0], (0, 0), rfl, by simp, by unfold maxLen; omega, heap_at _ _ _ rfl, fun i hi => by
    obtain rfl : i = 0 := by simpa using hi
    rfl⟩
  have Hrow := Lib.hid hrow
  clear hrow
  refine (equalRef_any _ _ _ [0] [0] (Hj12.out.same (((Chg.refl [] w12).alloc _).alloc _)) (by simpa using Hrow.out (w12.alloc (.cells #[.slice a12 1 c12, .string ⟨#[]⟩] 31)))).mono ?_
  rintro e w13 ⟨rfl, rfl⟩
  go_wp2_with fail
  refine (equalRef_any _ _ _ [0] [0] (Hi12.out.same ((((Chg.refl [] w12).alloc _).alloc _).alloc _)) (by simpa using Hrow.out ((w12.alloc (.cells #[.slice a12 1 c12, .string ⟨#[]⟩] 31)).alloc (.cells #[.int .i64 0] 3)))).mono ?_
  rintro e w14 ⟨rfl, rfl⟩
  have Hend := Lib.hid (Hdb12.out.new ((((Chg.refl [] w12).alloc (.cells #[.slice a12 1 c12, .string ⟨#[]⟩] 31)).alloc (.cells #[.int .i64 0] 3)).alloc (.cells #[.int .i64 0] 3)))
  go_wp2_with fail
  refine (computations_any _ b d12 Hend.out.mem).mono ?_
  rintro e w15 ⟨rfl, rfl⟩
  have hcnt := Hcnt.out
  go_wp2_with fail
  go_ret
  exact ⟨rfl, Hend.out.chg⟩
end Go.Proofs.Ytdeodcomlakpaaa
