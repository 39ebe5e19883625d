/- Part of the proof of topCrashedLaw_holds. -/
import Derived.Test.YtjlknaahpjiibaaGreatDoorQbe
import Derived.Test.YtjlknaahpjiibaaGreatDoorQbh
import Derived.Test.YtjlknaahpjiibaaGreatDoorQbj
import Derived.Test.YtjlknaahpjiibaaGreatDoorQbm
import Derived.Test.YtjlknaahpjiibaaGreatDoorQbp
import Derived.Test.YtjlknaahpjiibaaGreatDoorQbq
namespace Go.Proofs.YtjlknaahpjiibaaGreatDoor.Jv
open Go.RowKit Go.ChangeMaps Go.MapKept Go.Shelf
set_option linter.unusedVariables false
set_option linter.unusedSimpArgs false
def packB (k i c : Int) (t : ByteArray) (b : J) : Option ByteArray :=
 if (encM k i c t b).1 ≠ 0 then none else if (encM k i c t b).2.encode.2 ≠ 0 then none else some (encM k i c t b).2.encode.1
def PackPost (o : Option ByteArray) (w : World) (e : Ending) (w' : World) : Prop :=
 (match o with
 | some x => e = .returned (.tuple #[.string (Fr.frB x), .bool true]) ∧ x.size ≤ 4000
 | none => e = .returned (.tuple #[.string ⟨#[]⟩, .bool false])) ∧ Chg [] w w'
theorem encode_small {j : J} (h : j.encode.2 = 0) : j.encode.1.size ≤ 4000 := by
 unfold J.encode at h ⊢
 split
 · exact Nat.zero_le _
 · rename_i h1
   rw [if_neg h1] at h
   split at h
   · cases h
   · rename_i h2
     rw [if_neg h2]
     show j.enc.toArray.size ≤ 4000
     simp
     omega
set_option maxRecDepth 100000 in
set_option maxHeartbeats 4000000 in
theorem pack_any (p : Nat → Prop) (f : Nat) (k i c : Int) (t : ByteArray) (e : Ev) (b : J) (w : World) (hk2 : k ≤ 2) (ht : t.size ≤ maxLen) (hb : JV p f w e.val b) (hp : ∀ g, p g → g < w.heap.size) (hT : Tb w) (hP : P10 w) (hlen : (encM k i c t b).2.enc.length ≤ 140737488355328) :
 Calls Tryz.prog 19 #[mB k i c t e] w (PackPost (packB k i c t b) w) := by
 obtain ⟨w1, hw1⟩ : ∃ x, x = w.alloc (.cells #[.int .i64 k, .int .i64 i, .int .i64 c, .string t, .int .i64 e.k, .int .i64 e.n, .string e.t, .slice e.na e.nl e.nc, .slice e.ia e.il e.ic] 61) := ⟨_, rfl⟩
 obtain ⟨mb, hmb⟩ : ∃ x, x = w.heap.size := ⟨_, rfl⟩
 have hc1 : Chg [] w w1 := by rw [hw1]; exact (Chg.refl [] _).alloc _
 have hb1 : w1.heap[mb]? = some (.cells #[.int .i64 k, .int .i64 i, .int .i64 c, .string t, .int .i64 e.k, .int .i64 e.n, .string e.t, .slice e.na e.nl e.nc, .slice e.ia e.il e.ic] 61 (0, 0)) := by rw [hw1, hmb]; exact heap_at _ _ _ rfl
 obtain ⟨⟨m0, m1, m2, m3, m4, m5, m6, m7, m8⟩, _, lm⟩ := nineM hb1
 have Hen := Lib.hid (encode_b p f k i c t e b w1 hk2 ht (hb.chg hc1) (fun g hg => Nat.lt_of_lt_of_le (hp g hg) hc1.size) (hT.new hc1))
 clear hk2
 obtain ⟨r, hr⟩ : ∃ r, r = encM k i c t b := ⟨_, rfl⟩
 rw [← hr] at Hen hlen
 have HW := Lib.hid (And.intro hw1 hmb)
 have H1 := Lib.hid hc1
 have HT := Lib.hid (And.intro hT hP)
 have Hr := Lib.hid hr
 obtain ⟨o, ho⟩ : ∃ o, o = packB k i c t b := ⟨_, rfl⟩
 rw [← ho]
 unfold packB at ho
 rw [← hr] at ho
 have Ho := Lib.hid ho
 clear ho
 clear hw1 hmb hc1 hb1 hT hP hr hb hp
 unfold mB at Hen ⊢
 go_enter Tryz.func19, Tryz.ntmps19
 go_upto_region 1 with (fail)
 rw [← HW.out.1, ← HW.out.2]
 go_wp2_with fail
 refine Hen.out.mono ?_
 rintro e2 w2 ⟨f2, ev, rfl, hj2, hc2⟩
 obtain ⟨r1, r2⟩ := r
 simp only at hj2 hlen ⊢
 obtain ⟨w4, hw4⟩ : ∃ y, y = w2.alloc (.cells #[.int .i64 ev.k, .int .i64 ev.n, .string ev.t, .slice ev.na ev.nl ev.nc, .slice ev.ia ev.il ev.ic] 59) := ⟨_, rfl⟩
 obtain ⟨n4, hn4⟩ : ∃ y, y = w2.heap.size := ⟨_, rfl⟩
 have hc4 : Chg [] w2 w4 := by rw [hw4]; exact (Chg.refl _ _).alloc _
 have hb4 : w4.heap[n4]? = some (.cells #[.int .i64 ev.k, .int .i64 ev.n, .string ev.t, .slice ev.na ev.nl ev.nc, .slice ev.ia ev.il ev.ic] 59 (0, 0)) := by rw [hw4, hn4]; exact heap_at _ _ _ rfl
 have y0 : w4.cell? ⟨n4, 0, none⟩ = some (.int .i64 ev.k) := cell_of_heap hb4 rfl
 have y1 : w4.cell? ⟨n4, 1, none⟩ = some (.int .i64 ev.n) := cell_of_heap hb4 rfl
 have y2 : w4.cell? ⟨n4, 2, none⟩ = some (.string ev.t) := cell_of_heap hb4 rfl
 have y3 : w4.cell? ⟨n4, 3, none⟩ = some (.slice ev.na ev.nl ev.nc) := cell_of_heap hb4 rfl
 have y4 : w4.cell? ⟨n4, 4, none⟩ = some (.slice ev.ia ev.il ev.ic) := cell_of_heap hb4 rfl
 have l4 := lt_of_cell y0
 have hcw := (H1.out.trans hc2).trans hc4
 have Hsv := Lib.hid (Encode_any _ _ w4 r2 _ (hj2.same hc4) (fun g hg => hg.2) (HT.out.1.new hcw) (HT.out.2.kept (S := fun _ => False) hcw.p (fun h => h)) (fun _ => hlen))
 have HW4 := Lib.hid (And.intro hw4 hn4)
 have Hcw := Lib.hid hcw
 unfold Ev.val at Hsv ⊢
 clear hj2 hc2 hw4 hn4 hc4 hb4 hcw
 by_cases h1 : r1 = 0
 · subst h1
   obtain ⟨es, ee, hes⟩ : ∃ a b, r2.encode = (a, b) := ⟨_, _, rfl⟩
   have Hes := Lib.hid hes
   unfold EncodePost at Hsv
   rw [hes] at Hsv
   clear hes
   go_upto_region 4 with (fail)
   rw [← HW4.out.1, ← HW4.out.2]
   go_wp2_with fail
   refine Hsv.out.mono ?_
   rintro e3 w5 ⟨rfl, hc5⟩
   have H5 := Lib.hid (Hcw.out.trans hc5)
   clear hc5
   by_cases h2 : ee = 0
   · subst h2
     have hes4 : es.size ≤ 4000 := by
      have h := encode_small (j := r2) (by rw [Hes.out])
      rw [Hes.out] at h
      exact h
     have Hfe := Lib.hid (Fr.encode_any es w5 (show Fr.P10 w5 from HT.out.2.kept (S := fun _ => False) H5.out.p (fun h => h)))
     unfold Fr.EnPost at Hfe
     simp only [if_pos hes4] at Hfe
     have H4 := Lib.hid hes4
     clear hes4
     go_wp2_with fail
     refine Hfe.out.mono ?_
     rintro e4 w6 ⟨rfl, hc6⟩
     have H6 := Lib.hid (H5.out.trans hc6)
     clear hc6
     go_wp2_with fail
     go_ret2
     have hoo : o = some es := by
      have := Ho.out
      simp only [Hes.out] at this
      rw [if_neg (by decide), if_neg (by decide)] at this
      exact this
     rw [hoo]
     exact ⟨⟨rfl, H4.out⟩, H6.out⟩
   · have hee : (ee == 0) = false := by simpa using h2
     have hee2 : (ee != 0) = true := by simp [bne, hee]
     go_wp2_with fail
     go_ret2
     have hoo : o = none := by
      have := Ho.out
      simp only [Hes.out] at this
      rw [if_neg (by decide), if_pos h2] at this
      exact this
     rw [hoo]
     exact ⟨rfl, H5.out⟩
 · have hr1 : (r1 == 0) = false := by simpa using h1
   have hr2 : (r1 != 0) = true := by simp [bne, hr1]
   go_upto_region 2 with (fail)
   rw [← HW4.out.1, ← HW4.out.2]
   go_wp2_with fail
   go_ret2
   have hoo : o = none := by
    have := Ho.out
    rw [if_pos h1] at this
    exact this
   rw [hoo]
   exact ⟨rfl, Hcw.out⟩
structure Msg where
 k : Int
 i : Int
 c : Int
 t : ByteArray
 b : J
def msg0 : Msg := ⟨0, 0, 0, ⟨#[]⟩, J.zero⟩
def mcells (m : Msg) (e : Ev) : List Value := [.int .i64 m.k, .int .i64 m.i, .int .i64 m.c, .string m.t, .int .i64 e.k, .int .i64 e.n, .string e.t, .slice e.na e.nl e.nc, .slice e.ia e.il e.ic]
def mrow (l : List (Msg × Ev)) : List Value := l.flatMap fun p => mcells p.1 p.2
theorem mrow_snoc (l : List (Msg × Ev)) (p : Msg × Ev) : mrow (l ++ [p]) = mrow l ++ mcells p.1 p.2 := by simp [mrow]
theorem mcells_one (m : Msg) (e : Ev) : ∀ u ∈ mcells m e, u.oneCell' = true := by
 intro u hu
 simp [mcells] at hu
 rcases hu with rfl | rfl | rfl | rfl | rfl | rfl | rfl | rfl | rfl <;> rfl
theorem mrow_get (xs : List (Msg × Ev)) : ∀ (j : Nat) (h : j < xs.length) (c : Nat) (hc : c < 9), (mrow xs)[j * 9 + c]? = (mcells xs[j].1 xs[j].2)[c]? := by
 induction xs with
 | nil => intro j h; simp at h
 | cons p r ih =>
   intro j h c hc
   have e : mrow (p :: r) = mcells p.1 p.2 ++ mrow r := by simp [mrow]
   have hl : (mcells p.1 p.2).length = 9 := rfl
   rw [e]
   cases j with
   | zero =>
     rw [Nat.zero_mul, Nat.zero_add, List.getElem?_append_left (by omega)]
     rfl
   | succ j =>
     rw [List.getElem?_append_right (by omega), hl, show (j + 1) * 9 + c - 9 = j * 9 + c by omega]
     exact ih j (by simpa using h) c hc
theorem infoM : (Tryz.prog.info? 61).map (fun i => (i.zero, i.size, i.bytes)) = some (some (.agg #[.int .i64 0, .int .i64 0, .int .i64 0, .string ⟨#[]⟩, .int .i64 0, .int .i64 0, .string ⟨#[]⟩, .slice none 0 0, .slice none 0 0]), 9, 120) := by kernel_rfl
def MRow (B : Nat) (w : World) (v : Value) (Ms : List Msg) : Prop :=
 ∃ l : List (Msg × Ev), l.map (·.1) = Ms ∧ w.ownsRow B 61 9 v l.length (mrow l) ∧ ∀ p ∈ l, ∃ f, JV (fun g => (B ≤ g ∧ g < w.heap.size) ∧ v.ownBlock ≠ some g) f w p.2.val p.1.b
theorem MRow.nil (B : Nat) (w : World) : MRow B w (.slice none 0 0) [] := ⟨[], rfl, ⟨rfl, .inl ⟨rfl, rfl⟩⟩, by simp⟩
theorem MRow.kept {B : Nat} {w w' : World} {S : Nat → Prop} {v : Value} {Ms : List Msg} (h : MRow B w v Ms) (hc : ChgP S w w') (hS : ∀ g, S g → g < B) : MRow B w' v Ms := by
 obtain ⟨l, h1, h2, h3⟩ := h
 refine ⟨l, h1, ownsRow_kept h2 fun g hg hl => hc.block g hl fun hs => ?_, fun p hp => ?_⟩
 · have := (ownsRow_ge h2 hg).1; have := hS g hs; omega
 · obtain ⟨f, h4⟩ := h3 p hp
   exact ⟨f, (h4.kept hc (fun g hg hs => by have := hS g hs; have := hg.1.1; omega)).imp fun g hg => ⟨⟨hg.1.1, Nat.lt_of_lt_of_le hg.1.2 hc.size⟩, hg.2⟩⟩
theorem MRow.same {B : Nat} {w w' : World} {v : Value} {Ms : List Msg} (h : MRow B w v Ms) (hc : Chg [] w w') : MRow B w' v Ms := h.kept (S := fun _ => False) hc.p (fun _ h => h.elim)
theorem MRow.base {B B' : Nat} {w : World} {v : Value} {Ms : List Msg} (h : MRow B w v Ms) (hb : B' ≤ B) : MRow B' w v Ms := by
 obtain ⟨l, h1, h2, h3⟩ := h
 refine ⟨l, h1, ownsRow_base h2 hb, fun p hp => ?_⟩
 obtain ⟨f, h4⟩ := h3 p hp
 exact ⟨f, h4.imp fun g hg => ⟨⟨Nat.le_trans hb hg.1.1, hg.1.2⟩, hg.2⟩⟩
theorem MRow.own {B : Nat} {w : World} {v : Value} {Ms : List Msg} (h : MRow B w v Ms) {g : Nat} (hg : v.ownBlock = some g) : B ≤ g ∧ g < w.heap.size := by
 obtain ⟨l, h1, h2, _⟩ := h
 exact ownsRow_ge h2 hg
theorem MRow.push {B f : Nat} {w : World} {v : Value} {Ms : List Msg} (h : MRow B w v Ms) {m : Msg} {e : Ev} {n : Nat} (ty : TypeId) (hb : w.heap[n]? = some (.cells #[.int .i64 m.k, .int .i64 m.i, .int .i64 m.c, .string m.t, .int .i64 e.k, .int .i64 e.n, .string e.t, .slice e.na e.nl e.nc, .slice e.ia e.il e.ic] 61 (0, 0)))
 (hx : JV (fun g => (B ≤ g ∧ g < w.heap.size) ∧ v.ownBlock ≠ some g) f w e.val m.b) (hlen : Ms.length ≤ 1000) (hB : B ≤ w.heap.size) :
 ∃ a cap w', (Builtin.append_ #[64, 64] ty #[v, .slice (some ⟨n, 0, none⟩) 1 1]).run Tryz.prog w = .ok (.slice a (Ms.length + 1) cap) w' ∧ MRow B w' (.slice a (Ms.length + 1) cap) (Ms ++ [m]) ∧ Chg v.ownBlock.toList w w' := by
 obtain ⟨l, h1, h2, h3⟩ := h
 have hl : l.length = Ms.length := by rw [← h1, List.length_map]
 obtain ⟨i0, hi, hz0, hz1, hz2⟩ := info_parts infoM
 obtain ⟨v', w', hr, ho, hg, _, hob⟩ := run_append_own_at (P := Tryz.prog) w B 64 ty 61 i0 (.agg #[.int .i64 0, .int .i64 0, .int .i64 0, .string ⟨#[]⟩, .int .i64 0, .int .i64 0, .string ⟨#[]⟩, .slice none 0 0, .slice none 0 0]) 9 120 Tryz.underlying64 hi hz0 hz1 hz2 rfl (by decide) v l.length (mrow l) h2 ⟨n, 0, none⟩ 1 1 (mcells m e) rfl (fun j u hj => by
  rw [Addr.add_lit, Nat.zero_add]
  refine cell_of_heap hb ?_
  match j with
  | 0 => simpa [mcells] using hj
  | 1 => simpa [mcells] using hj
  | 2 => simpa [mcells] using hj
  | 3 => simpa [mcells] using hj
  | 4 => simpa [mcells] using hj
  | 5 => simpa [mcells] using hj
  | 6 => simpa [mcells] using hj
  | 7 => simpa [mcells] using hj
  | 8 => simpa [mcells] using hj
  | j + 9 => simp [mcells] at hj) (mcells_one m e) (by unfold maxLen; omega) (by omega) hB
 have hc : Chg v.ownBlock.toList w w' := (Chg.refl _ w).grown hg (by intro k hk; left; simp [hk])
 obtain ⟨a, cap, rfl⟩ := ownsRow_shape ho
 rw [hl] at hr ho hob
 have key : ∀ (y : Ev) (z : J) (f : Nat), JV (fun g => (B ≤ g ∧ g < w.heap.size) ∧ v.ownBlock ≠ some g) f w y.val z → JV (fun g => (B ≤ g ∧ g < w'.heap.size) ∧ (Value.slice a (Ms.length + 1) cap).ownBlock ≠ some g) f w' y.val z := fun y z f hz => by
  refine (hz.kept hc.toP fun g hg hm => ?_).imp fun g hg => ⟨⟨hg.1.1, Nat.lt_of_lt_of_le hg.1.2 hc.size⟩, fun e => ?_⟩
  · exact hg.2 (by simpa using hm)
  · rcases hob with ho | ho
    · exact hg.2 (ho.symm.trans e)
    · rw [ho] at e
      cases e
      exact Nat.lt_irrefl _ hg.1.2
 refine ⟨a, cap, w', hr, ⟨l ++ [(m, e)], by simp [h1], by rw [mrow_snoc, List.length_append, List.length_singleton, hl]; exact ho, fun p hp => ?_⟩, hc⟩
 rcases List.mem_append.1 hp with hp | hp
 · obtain ⟨f', h4⟩ := h3 p hp
   exact ⟨f', key _ _ _ h4⟩
 · rw [List.mem_singleton.1 hp]
   exact ⟨f, key _ _ _ hx⟩
theorem MRow.at {B : Nat} {w : World} {a : Option Addr} {n cap : Nat} {Ms : List Msg} (h : MRow B w (.slice a n cap) Ms) (j : Nat) (hj : j < Ms.length) :
 ∃ g e f, a = some ⟨g, 0, none⟩ ∧ (∀ c u, c < 9 → (mcells (Ms.getD j msg0) e)[c]? = some u → w.cell? ⟨g, j * 9 + c, none⟩ = some u) ∧ JV (fun g => B ≤ g ∧ g < w.heap.size) f w e.val (Ms.getD j msg0).b := by
 obtain ⟨l, h1, h2, h3⟩ := h
 have hl : l.length = Ms.length := by rw [← h1, List.length_map]
 have hjl : j < l.length := by omega
 obtain ⟨g, c0, hv, _, _⟩ := World.ownsRow.form h2 (by omega)
 simp only [Value.slice.injEq] at hv
 obtain ⟨rfl, _, _⟩ := hv
 obtain ⟨f, h4⟩ := h3 _ (List.getElem_mem hjl)
 have hm : Ms.getD j msg0 = l[j].1 := by
  rw [List.getD_eq_getElem?_getD, List.getElem?_eq_getElem hj, Option.getD_some]
  subst h1
  rw [List.getElem_map]
 rw [hm]
 refine ⟨g, l[j].2, f, rfl, fun c u hc hu => ?_, h4.imp fun g hg => hg.1⟩
 have := World.ownsRow.cells h2 (g := g) rfl (j * 9 + c) u (by rw [mrow_get l j hjl c hc]; exact hu)
 rw [Addr.add_lit, Nat.zero_add] at this
 exact this
theorem packB_some {k i c : Int} {t x : ByteArray} {b : J} (h : packB k i c t b = some x) : (encM k i c t b).1 = 0 ∧ (toM k i c t b).valid u8 = 0 ∧ x.data.toList = (toM k i c t b).enc ∧ (toM k i c t b).enc.length ≤ 4000 := by
 unfold packB at h
 split at h
 · cases h
 · rename_i h1
   split at h
   · cases h
   · rename_i h2
     have h1' : (encM k i c t b).1 = 0 := by omega
     obtain ⟨_, _, _, hE, he⟩ := encM_ok h1'
     have h3 := Option.some.inj h
     rw [he] at h2 h3
     simp only at h2 h3
     have h2' : (toM k i c t b).encode.2 = 0 := by omega
     unfold J.encode at h2' h3
     rw [if_neg (by omega)] at h2' h3
     split at h2'
     · cases h2'
     · rename_i h5
       rw [if_neg h5] at h3
       refine ⟨h1', hE, ?_, by omega⟩
       rw [← h3]
def DMPost (k i c : Int) (t : ByteArray) (b : J) (w : World) (e : Ending) (w' : World) : Prop := ∃ (ev : Ev) (f' : Nat), e = .returned (.tuple #[mB k i c t ev, .int .i64 0]) ∧ JN w.heap.size f' w' ev.val b ∧ Chg [] w w'
theorem decM_any (p : Nat → Prop) (f : Nat) (w : World) (v : Value) (k i c : Int) (t : ByteArray) (b : J) (hk2 : k ≤ 2) (h0 : (encM k i c t b).1 = 0) (hj : JV p f w v (toM k i c t b)) (hp : ∀ g, p g → g < w.heap.size) (hT : Tb w) :
 Calls Tryz.prog 46 #[v] w (DMPost k i c t b w) := by
 obtain ⟨_, _, _, hE, _⟩ := encM_ok h0
 obtain ⟨_, n, hn5, hk, hh, hno, hi, hc, ht, hb⟩ := found_any hk2 h0 (X := toM k i c t b) (Or.inl rfl)
 have h01 : hit (toM k i c t b) 0 = true ∨ hit (toM k i c t b) 1 = true := by
  have h : n = 0 ∨ n = 1 := by omega
  rcases h with rfl | rfl
  · exact Or.inl hh
  · exact Or.inr hh
 refine (decode_any p f w _ v h01 hj hp (Sm.bd _ (Sm.of hE)) hT).mono ?_
 rintro e w' ⟨h, hch⟩
 rcases h with ⟨n', hn', hh', hno', ev, rfl, hv⟩ | ⟨hall, _⟩
 · have : n' = n := by
    rcases Nat.lt_trichotomy n' n with h | h | h
    · rw [hno n' h] at hh'; cases hh'
    · exact h
    · rw [hno' n h] at hh; cases hh
   subst this
   rw [hi, hc, ht, ← hk]
   rw [hb] at hv
   exact ⟨ev, _, rfl, hv, hch⟩
 · rw [hall n hn5] at hh; cases hh
def UnPost (Ms : List Msg) (L : List ByteArray) (x : ByteArray) (db : Nat) (w : World) (e : Ending) (w' : World) : Prop :=
 ∃ (k q : Nat) (a : Option Addr) (cap : Nat), e = .returned (.tuple #[.slice a k cap, .bool true]) ∧ k ≤ L.length ∧ q = (Fr.flat (L.take k)).length ∧ q ≤ x.size ∧ (∀ hk : k < L.length, x.size < q + (Fr.frame L[k]).length) ∧ MRow w.heap.size w' (.slice a k cap) (Ms.take k) ∧ Fr.DcAt w' db (x.extract q x.size) ∧ Chg [db] w w'
structure Txts (Ms : List Msg) (L : List ByteArray) : Prop where
 len : Ms.length = L.length
 kinds : ∀ m ∈ Ms, m.k ≤ 2
 pl : ∀ m ∈ Ms, Pl (toM m.k m.i m.c m.t m.b)
 txt : ∀ i (h : i < L.length), packB (Ms.getD i msg0).k (Ms.getD i msg0).i (Ms.getD i msg0).c (Ms.getD i msg0).t (Ms.getD i msg0).b = some L[i]
theorem Txts.small {Ms : List Msg} {L : List ByteArray} (h : Txts Ms L) : ∀ b ∈ L, b.size ≤ 4000 := by
 intro b hb
 obtain ⟨i, hi, rfl⟩ := List.getElem_of_mem hb
 obtain ⟨_, _, h3, h4⟩ := packB_some (h.txt i hi)
 rw [← h3] at h4
 exact h4
set_option maxRecDepth 100000 in
set_option maxHeartbeats 8000000 in
theorem unpack_any (Ms : List Msg) (L : List ByteArray) (db : Nat) (buf x : ByteArray) (u : List UInt8) (w : World) (hL : L.length ≤ 100) (hm : Txts Ms L) (hx : (buf ++ x).data.toList ++ u = Fr.flat L) (hd : Fr.DcAt w db buf) (hM : Fr.ML w) (hT : Tb w) (hdb : Tryz.laysValid_ren.g 3 ≠ db ∧ Tryz.laysValid_ren.g 4 ≠ db) :
 Calls Tryz.prog 21 #[.pointer (some ⟨db, 0, none⟩), .string x] w (UnPost Ms L (buf ++ x) db w) := by
 have Hwr := Lib.hid (Fr.write_any L db buf x u w hL hm.small hx hd hM)
 have HT := Lib.hid hT
 have Hm := Lib.hid hm
 have hml := hm.len
 have ldb := lt_of_obj hd
 clear hm hx hd hM hT
 go_enter Tryz.func21, Tryz.ntmps21
 go_wp2_with fail
 refine Hwr.out.mono ?_
 rintro e w2 ⟨k, q, a, cap, rfl, hk, hq, hqx, hpt, hos, hda, hc2⟩
 have H2 := Lib.hid (And.intro hq (And.intro hqx (And.intro hpt (And.intro hos (And.intro hda hc2)))))
 have HT2 := Lib.hid (HT.out.kept hc2.toP (by simpa using hdb.1) (by simpa using hdb.2))
 have hk100 : k ≤ 100 := by omega
 clear hq hqx hpt hos hda hc2
 go_wp2_with fail
 go_loopw [8, 24] (fun v8 i wr => ∃ (n : Nat) (a8 : Option Addr) (c8 : Nat), n ≤ k ∧ i = .int .i64 (n : Nat) ∧ v8 = .slice a8 n c8 ∧ Hid (MRow w2.heap.size wr (.slice a8 n c8) (Ms.take n) ∧ Chg [] w2 wr)) (fun _ i _ => k - (intOf i).toNat)
 case atStart => exact ⟨0, none, 0, by omega, rfl, rfl, Lib.hid ⟨MRow.nil _ _, Chg.refl _ _⟩⟩
 case round =>
  obtain ⟨n, a8, c8, hn, rfl, rfl, HR⟩ := hrel
  by_cases hlt : n < k
  · have hnL : n < L.length := by omega
    obtain ⟨g, off, rfl, _, c0⟩ := ((H2.out.2.2.2.1.same HR.out.2).strs).cell n (by rw [List.length_take]; omega)
    have hte : (L.take k).getD n ⟨#[]⟩ = L[n] := by
     rw [List.getD_eq_getElem?_getD, List.getElem?_take_of_lt hlt, List.getElem?_eq_getElem hnL]
     rfl
    rw [hte] at c0
    obtain ⟨m, hmm⟩ : ∃ m, m = Ms.getD n msg0 := ⟨_, rfl⟩
    have Hmk : Hid (m.k ≤ 2 ∧ Pl (toM m.k m.i m.c m.t m.b)) := Lib.hid (by
     have hm : m ∈ Ms := by rw [hmm, List.getD_eq_getElem?_getD, List.getElem?_eq_getElem (show n < Ms.length by have := Hm.out.len; omega)]; exact List.getElem_mem _
     exact ⟨Hm.out.kinds m hm, Hm.out.pl m hm⟩)
    have htx := Hm.out.txt n hnL
    rw [← hmm] at htx
    obtain ⟨z, hz⟩ : ∃ z, z = L[n] := ⟨_, rfl⟩
    rw [← hz] at c0 htx
    obtain ⟨h0, hE, hzl, hz4⟩ := packB_some htx
    have lg := lt_of_cell c0
    have hn1 : (n : Int) < k := by omega
    have hn0 : (0 : Int) ≤ (n : Int) := by omega
    have HTr := Lib.hid (HT2.out.new HR.out.2)
    have Hde := Lib.hid (decode_enc z _ wr Hmk.out.2 hzl hz4 hE HTr.out)
    have hmt : Ms.take (n + 1) = Ms.take n ++ [m] := by
     have hnM : n < Ms.length := by omega
     rw [List.take_succ_eq_append_getElem hnM, hmm, List.getD_eq_getElem?_getD, List.getElem?_eq_getElem hnM]
     rfl
    have Hmt := Lib.hid (And.intro hmt (And.intro h0 hz))
    have hown : ∀ g, (Value.slice a8 n c8).ownBlock = some g → g < wr.heap.size := fun g hg => (HR.out.1.own hg).2
    have Hown := Lib.hid hown
    obtain ⟨mk, mi, mc, mt, mb⟩ := m
    simp only at h0 hE Hde
    clear hte htx hzl hz4 hmt hmm hz hown
    go_wp2_with fail
    refine Hde.out.mono ?_
    rintro e w3 ⟨v3, rfl, hj3, hc3⟩
    obtain ⟨e3, rfl⟩ := hj3.ev'
    obtain ⟨w4, hw4⟩ : ∃ y, y = w3.alloc (.cells #[.int .i64 e3.k, .int .i64 e3.n, .string e3.t, .slice e3.na e3.nl e3.nc, .slice e3.ia e3.il e3.ic] 59) := ⟨_, rfl⟩
    obtain ⟨n4, hn4⟩ : ∃ y, y = w3.heap.size := ⟨_, rfl⟩
    have hc4 : Chg [] w3 w4 := by rw [hw4]; exact (Chg.refl _ _).alloc _
    have hb4 : w4.heap[n4]? = some (.cells #[.int .i64 e3.k, .int .i64 e3.n, .string e3.t, .slice e3.na e3.nl e3.nc, .slice e3.ia e3.il e3.ic] 59 (0, 0)) := by rw [hw4, hn4]; exact heap_at _ _ _ rfl
    have y0 : w4.cell? ⟨n4, 0, none⟩ = some (.int .i64 e3.k) := cell_of_heap hb4 rfl
    have y1 : w4.cell? ⟨n4, 1, none⟩ = some (.int .i64 e3.n) := cell_of_heap hb4 rfl
    have y2 : w4.cell? ⟨n4, 2, none⟩ = some (.string e3.t) := cell_of_heap hb4 rfl
    have y3 : w4.cell? ⟨n4, 3, none⟩ = some (.slice e3.na e3.nl e3.nc) := cell_of_heap hb4 rfl
    have y4 : w4.cell? ⟨n4, 4, none⟩ = some (.slice e3.ia e3.il e3.ic) := cell_of_heap hb4 rfl
    have l4 := lt_of_cell y0
    have Hdm := Lib.hid (decM_any _ _ w4 _ mk mi mc mt mb Hmk.out.1 h0 (hj3.same hc4) (fun g hg => hg.2) (HTr.out.new (hc3.trans hc4)))
    unfold Ev.val at Hdm
    have H4 := Lib.hid (hc3.trans hc4)
    have HW4 := Lib.hid (And.intro hw4 hn4)
    unfold Ev.val
    clear hj3 hc3 hw4 hn4 hc4 hb4
    go_upto_region 9 with (fail)
    rw [← HW4.out.1, ← HW4.out.2]
    go_wp2_with fail
    refine Hdm.out.mono ?_
    rintro e w5 ⟨ev, f5, rfl, hj5, hc5⟩
    obtain ⟨w6, hw6⟩ : ∃ y, y = w5.alloc (.cells #[.int .i64 mk, .int .i64 mi, .int .i64 mc, .string mt, .int .i64 ev.k, .int .i64 ev.n, .string ev.t, .slice ev.na ev.nl ev.nc, .slice ev.ia ev.il ev.ic] 61) := ⟨_, rfl⟩
    obtain ⟨n6, hn6⟩ : ∃ y, y = w5.heap.size := ⟨_, rfl⟩
    have hc6 : Chg [] w5 w6 := by rw [hw6]; exact (Chg.refl _ _).alloc _
    have hb6 : w6.heap[n6]? = some (.cells #[.int .i64 mk, .int .i64 mi, .int .i64 mc, .string mt, .int .i64 ev.k, .int .i64 ev.n, .string ev.t, .slice ev.na ev.nl ev.nc, .slice ev.ia ev.il ev.ic] 61 (0, 0)) := by rw [hw6, hn6]; exact heap_at _ _ _ rfl
    obtain ⟨⟨x0, x1, x2, x3, x4, x5, x6, x7, x8⟩, _, l6⟩ := nineM hb6
    obtain ⟨w7, hw7⟩ : ∃ y, y = w6.alloc (.cells #[.int .i64 mk, .int .i64 mi, .int .i64 mc, .string mt, .int .i64 ev.k, .int .i64 ev.n, .string ev.t, .slice ev.na ev.nl ev.nc, .slice ev.ia ev.il ev.ic] 61) := ⟨_, rfl⟩
    obtain ⟨n7, hn7⟩ : ∃ y, y = w6.heap.size := ⟨_, rfl⟩
    have hc7 : Chg [] w6 w7 := by rw [hw7]; exact (Chg.refl _ _).alloc _
    have hb7 : w7.heap[n7]? = some (.cells #[.int .i64 mk, .int .i64 mi, .int .i64 mc, .string mt, .int .i64 ev.k, .int .i64 ev.n, .string ev.t, .slice ev.na ev.nl ev.nc, .slice ev.ia ev.il ev.ic] 61 (0, 0)) := by rw [hw7, hn7]; exact heap_at _ _ _ rfl
    have hcr : Chg [] wr w7 := ((H4.out.trans hc5).trans hc6).trans hc7
    have htl : (Ms.take n).length = n := by rw [List.length_take]; omega
    have hbw : w2.heap.size ≤ w7.heap.size := by
     have h2 := HR.out.2.size
     have h3 := hcr.size
     omega
    have h4w := H4.out.size
    obtain ⟨a9, c9, w9, hr9, ho9, hc9⟩ := (HR.out.1.same hcr).push (f := f5) (m := ⟨mk, mi, mc, mt, mb⟩) (e := ev) (n := n7) 64 hb7 (((hj5.same hc6).same hc7).imp fun g hg => ⟨⟨by have h2 := HR.out.2.size; have := hg.1; omega, hg.2⟩, fun e => by have := Hown.out g e; have := hg.1; omega⟩) (by rw [htl]; omega) hbw
    rw [htl] at hr9 ho9
    have hc9w : Chg [] w2 w9 := (HR.out.2.trans hcr).comp hc9 fun g hg => Or.inr (HR.out.1.own (by simpa using hg)).1
    rw [← Hmt.out.1] at ho9
    have Hr9 := Lib.hid hr9
    have H9 := Lib.hid (And.intro ho9 hc9w)
    have HW6 := Lib.hid (And.intro hw6 hn6)
    have HW7 := Lib.hid (And.intro hw7 hn7)
    unfold mB
    clear hj5 hc5 hw6 hn6 hc6 hb6 hw7 hn7 hc7 hb7 hcr htl hbw h4w hr9 ho9 hc9 hc9w
    go_upto_region 10 with (fail)
    rw [← HW6.out.1, ← HW6.out.2]
    go_wp2_with (at_builtin; rw [← HW7.out.1, ← HW7.out.2]; refine wpList_append_run rfl _ _ _ rfl _ _ _ _ rfl rfl Hr9.out ?_)
    exact ⟨⟨n + 1, a9, c9, by omega, by go_num, rfl, H9⟩, by simp [intOf]; omega⟩
  · have hn1 : ¬ ((n : Int) < k) := by omega
    have hnk : n = k := by omega
    have Hnk := Lib.hid hnk
    clear hnk
    go_wp2_with fail
    go_ret2
    exact ⟨k, q, a8, c8, by rw [Hnk.out]; rfl, hk, H2.out.1, H2.out.2.1, H2.out.2.2.1, (by have := HR.out.1; rw [Hnk.out] at this; exact this : MRow w2.heap.size wr (.slice a8 k c8) (Ms.take k)).base H2.out.2.2.2.2.2.size, H2.out.2.2.2.2.1.new HR.out.2, H2.out.2.2.2.2.2.trans HR.out.2.nil⟩
structure TP3 (w : World) : Prop where
 tb : Tb w
 p10 : P10 w
 ml : Fr.ML w
theorem TP3.new {w w' : World} (h : TP3 w) (hc : Chg [] w w') : TP3 w' := ⟨h.tb.new hc, h.p10.kept (S := fun _ => False) hc.p (fun h => h), h.ml.new hc⟩
def helloT : ByteArray := ⟨#[104, 101, 108, 108, 111]⟩
def helloB : ByteArray := ⟨#[123, 34, 109, 101, 116, 104, 111, 100, 34, 58, 34, 104, 101, 108, 108, 111, 34, 44, 34, 112, 97, 114, 97, 109, 115, 34, 58, 110, 117, 108, 108, 125]⟩
theorem hello_enc : (toM 2 0 0 helloT J.zero).enc = helloB.data.toList := by
 have h2 : encS helloT = [34, 104, 101, 108, 108, 111, 34] := by decide
 have h4 : encS ⟨#[109, 101, 116, 104, 111, 100]⟩ = [34, 109, 101, 116, 104, 111, 100, 34] := by decide
 have h5 : encS ⟨#[112, 97, 114, 97, 109, 115]⟩ = [34, 112, 97, 114, 97, 109, 115, 34] := by decide
 simp [toM, J.enc, encL, J.zero, h2, h4, h5, helloB]
theorem hello_pl : Pl (toM 2 0 0 helloT J.zero) := by
 refine .mk (k := 5) (by decide) (by decide) (by decide) fun e he => ?_
 rcases List.mem_cons.1 he with h | h
 · rw [h]; exact .mk (by decide) (by decide) (by simp) (by simp)
 · rw [List.mem_singleton.1 h]; exact .mk (by decide) (by decide) (by simp) (by simp)
theorem hello_pack : packB 2 0 0 helloT J.zero = some helloB := by
 have he : encM 2 0 0 helloT J.zero = (0, toM 2 0 0 helloT J.zero) := by kernel_rfl
 have hv : (toM 2 0 0 helloT J.zero).valid u8 = 0 := by kernel_rfl
 have hen : (toM 2 0 0 helloT J.zero).encode = (helloB, 0) := by
  unfold J.encode
  rw [hv, hello_enc]
  rfl
 unfold packB
 rw [he, if_neg (by decide), hen, if_neg (by decide)]
set_option maxRecDepth 100000 in
set_option maxHeartbeats 8000000 in
theorem packEx_any (w : World) (hT : TP3 w) : Calls Tryz.prog 4 #[] w fun e w' => e = .returned (.bool true) ∧ Chg [] w w' := by
 have he : encM 2 0 0 helloT J.zero = (0, toM 2 0 0 helloT J.zero) := by kernel_rfl
 have Hp := Lib.hid (pack_any (fun g => 0 ≤ g ∧ g < w.heap.size) 0 2 0 0 helloT ev0 J.zero w (by decide) (by decide) (zeroN 0 0 w) (fun g hg => hg.2) hT.tb hT.p10 (by rw [he, hello_enc]; decide))
 rw [hello_pack] at Hp
 have HT := Lib.hid hT
 obtain ⟨hx, hhx⟩ : ∃ x, x = helloB := ⟨_, rfl⟩
 rw [← hhx] at Hp
 have Hx := Lib.hid hhx
 unfold mB ev0 helloT at Hp
 clear hT he hhx
 go_enter Tryz.func4, Tryz.ntmps4
 go_wp2_with fail
 refine Hp.out.mono ?_
 rintro e w1 ⟨⟨rfl, hx4⟩, hc1⟩
 have H1 := Lib.hid (And.intro hc1 hx4)
 obtain ⟨fx, hfx⟩ : ∃ f, f = Fr.frB hx := ⟨_, rfl⟩
 rw [← hfx]
 have Hfx := Lib.hid hfx
 clear hc1 hx4 hfx
 go_wp2_with fail
 refine (Fr.newDecoder_any w1).mono ?_
 rintro e w2 ⟨rfl, hd2, hc2⟩
 obtain ⟨db, hdb⟩ : ∃ d, d = w1.heap.size := ⟨_, rfl⟩
 rw [← hdb] at hd2 ⊢
 have H2 := Lib.hid (And.intro (H1.out.1.trans hc2) (And.intro hd2 hdb))
 have hT1 := HT.out.new H1.out.1
 have hT2 := HT.out.new (H1.out.1.trans hc2)
 have hlt := hT1.tb.lt
 have Hun := Lib.hid (unpack_any [⟨2, 0, 0, helloT, J.zero⟩] [hx] db ⟨#[]⟩ fx [] w2 (by simp) ⟨rfl, fun m hm => by rw [List.mem_singleton.1 hm]; decide, fun m hm => by rw [List.mem_singleton.1 hm]; exact hello_pl, fun i hi => by
  obtain rfl : i = 0 := by simpa using hi
  rw [Hx.out]
  exact hello_pack⟩ (by
  rw [Hfx.out, List.append_nil, show (⟨#[]⟩ ++ Fr.frB hx : ByteArray) = Fr.frB hx from Fr.ba_ext (by rw [ByteArray.data_append]; simp)]
  simp [Fr.flat, Fr.frB_list]) hd2 hT2.ml hT2.tb ⟨by omega, by omega⟩)
 clear hd2 hc2 hdb hT1 hT2 hlt
 go_wp2_with fail
 refine Hun.out.mono ?_
 rintro e w3 ⟨k, q, a, cap, rfl, hk, hq, hqx, hpt, hm3, hd3, hc3⟩
 have hk1 : k = 1 := by
  have hk' : k ≤ 1 := hk
  rcases Nat.lt_or_ge k 1 with h | h
  · exfalso
    have h2 := hpt (by simpa using h)
    obtain rfl : k = 0 := by omega
    have h3 : (⟨#[]⟩ ++ fx : ByteArray).size = fx.size := by
     rw [ByteArray.size_append]
     show 0 + fx.size = fx.size
     omega
    have h4 : fx.size = (Fr.frame hx).length := by rw [Hfx.out]; exact Fr.frB_size hx
    have h5 : (Fr.frame ([hx][0]'(by simp))).length = (Fr.frame hx).length := rfl
    have h6 : q = 0 := hq
    omega
  · omega
 subst hk1
 obtain ⟨g, ev, f, rfl, hcells, hjv⟩ := hm3.at 0 (by simp)
 have m0 := hcells 0 _ (by decide) rfl
 have m1 := hcells 1 _ (by decide) rfl
 have m2 := hcells 2 _ (by decide) rfl
 have m3 := hcells 3 _ (by decide) rfl
 have m4 := hcells 4 _ (by decide) rfl
 have m5 := hcells 5 _ (by decide) rfl
 have m6 := hcells 6 _ (by decide) rfl
 have m7 := hcells 7 _ (by decide) rfl
 have m8 := hcells 8 _ (by decide) rfl
 rw [Nat.zero_mul, Nat.zero_add] at m0 m1 m2 m3 m4 m5 m6 m7 m8
 have lg := lt_of_cell m0
 have Heq := Lib.hid (eqM_any _ _ f 0 w3 2 0 0 helloT ev ev0 J.zero hjv (zeroN 0 0 w3))
 unfold mB ev0 helloT at Heq
 have H3 := Lib.hid (H2.out.1.comp hc3 fun x hx => Or.inr (by rw [List.mem_singleton.1 hx, H2.out.2.2]; exact H1.out.1.size))
 clear hk hq hqx hpt hm3 hd3 hc3 hcells hjv
 go_wp2_with fail
 refine Heq.out.mono ?_
 rintro e w4 ⟨rfl, hc4⟩
 have H4 := Lib.hid (H3.out.trans hc4)
 clear hc4
 go_wp2_with fail
 go_ret
 exact ⟨rfl, H4.out⟩
end Go.Proofs.YtjlknaahpjiibaaGreatDoor.Jv
