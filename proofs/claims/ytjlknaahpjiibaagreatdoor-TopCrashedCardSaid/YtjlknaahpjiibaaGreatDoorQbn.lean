/- Part of the proof of topCrashedLaw_holds. -/
import Derived.Lib.ConvBytes
import Derived.Lib.AtoiAllMem
import Derived.Test.YtjlknaahpjiibaaGreatDoorQad
import Derived.Test.YtjlknaahpjiibaaGreatDoorQbe
namespace Go.Proofs.YtjlknaahpjiibaaGreatDoor.Jv
open Go.RowKit Go.ChangeMaps Go.MapKept
set_option linter.unusedVariables false
set_option linter.unusedSimpArgs false
def DS (w : World) (db : Nat) (s : ByteArray) (o : Nat) : Prop := w.heap[db]? = some (.cells #[.string s, .int .i64 (o : Nat)] 150 (0, 0))
theorem DS.kept {S : Nat → Prop} {w w' : World} {db : Nat} {s : ByteArray} {o : Nat} (h : DS w db s o) (hc : ChgP S w w') (hS : ¬ S db) : DS w' db s o := (hc.block db (lt_of_obj h) hS).trans h
theorem DS.new {w w' : World} {db : Nat} {s : ByteArray} {o : Nat} (h : DS w db s o) (hc : Chg [] w w') : DS w' db s o := h.kept (S := fun _ => False) hc.p (fun h => h)
theorem DS.c0 {w : World} {db : Nat} {s : ByteArray} {o : Nat} (h : DS w db s o) : w.cell? ⟨db, 0, none⟩ = some (.string s) := cell_of_heap h rfl
theorem DS.c1 {w : World} {db : Nat} {s : ByteArray} {o : Nat} (h : DS w db s o) : w.cell? ⟨db, 1, none⟩ = some (.int .i64 (o : Nat)) := cell_of_heap h rfl
theorem DS.fz {w : World} {db : Nat} {s : ByteArray} {o : Nat} (h : DS w db s o) (i : Nat) : w.frozen? ⟨db, i, none⟩ = false := frozen_of_heap h
theorem DS.set {w : World} {db : Nat} {s : ByteArray} {o : Nat} (h : DS w db s o) (o' : Nat) : DS (w.setCell ⟨db, 1, none⟩ (.int .i64 (o' : Nat))) db s o' := by
 unfold DS at h ⊢
 rw [heap_setCell_same h]
 rfl
theorem DS.setI {w : World} {db : Nat} {s : ByteArray} {o o' : Nat} {z : Int} (h : DS w db s o) (hz : z = (o' : Nat)) : DS (w.setCell ⟨db, 1, none⟩ (.int .i64 z)) db s o' := by subst hz; exact h.set o'
theorem set_chg (w : World) (db : Nat) (u : Value) : Chg [db] w (w.setCell ⟨db, 1, none⟩ u) := (Chg.refl [db] w).setCell (Or.inl (by simp)) _
def sx : List PanicEntry := [{ v := .iface 146 (.agg #[]), recovered := false }]
set_option maxHeartbeats 1000000 in
theorem expect_any (db : Nat) (b : Bool) (w : World) : Calls Tryz.prog 84 #[.pointer (some ⟨db, 0, none⟩), .bool b] w fun e w' => e = (if b then .returned (.tuple #[]) else .panicked sx) ∧ w' = w := by
 cases b
 · go_enter Tryz.func84, Tryz.ntmps84
   go_wp2_with fail
   exact ⟨rfl, rfl, rfl⟩
 · go_enter Tryz.func84, Tryz.ntmps84
   go_wp2_with fail
   go_end0
   exact ⟨rfl, rfl⟩
def sp (c : UInt8) : Bool := c == 32 || c == 9 || c == 10 || c == 13
def skip : List UInt8 → List UInt8
 | [] => []
 | c :: r => if sp c then skip r else c :: r
set_option maxRecDepth 100000 in
theorem sp_ix : ∀ a : Nat, a < 256 → decide (0 ≤ Lib.indexByte [32, 9, 10, 13] ((a : Int).toNat.toUInt8)) = sp a.toUInt8 := by decide
def offW (w : World) (db : Nat) : Nat := match w.cell? ⟨db, 1, none⟩ with | some (.int _ n) => n.toNat | _ => 0
theorem DS.off {w : World} {db : Nat} {s : ByteArray} {o : Nat} (h : DS w db s o) : offW w db = o := by unfold offW; rw [h.c1]; rfl
theorem skip_at {s : ByteArray} {o : Nat} (ho : o < s.size) : skip (s.data.toList.drop o) = if sp s[o] then skip (s.data.toList.drop (o + 1)) else s.data.toList.drop o := by
 have hl : o < s.data.toList.length := ho
 rw [List.drop_eq_getElem_cons hl, skip]
 rfl
theorem get_u8 {s : ByteArray} {o a : Nat} (ho : o < s.size) (h : s[o].toNat = a) : a.toUInt8 = s[o] ∧ a < 256 := by
 subst h
 exact ⟨by simp [Nat.toUInt8], s[o].toNat_lt⟩
set_option maxRecDepth 100000 in
set_option maxHeartbeats 4000000 in
theorem skip_any (db : Nat) (s : ByteArray) (o : Nat) (w : World) (h : DS w db s o) (ho : o ≤ s.size) (hs : s.size ≤ 100000) :
 Calls Tryz.prog 83 #[.pointer (some ⟨db, 0, none⟩)] w fun e w' => e = .returned (.tuple #[]) ∧ ∃ o', o ≤ o' ∧ o' ≤ s.size ∧ DS w' db s o' ∧ s.data.toList.drop o' = skip (s.data.toList.drop o) ∧ Chg [db] w w' := by
 obtain ⟨K, hK⟩ : ∃ K, K = skip (s.data.toList.drop o) := ⟨_, rfl⟩
 rw [← hK]
 have H : Hid (o ≤ o ∧ o ≤ s.size ∧ DS w db s o ∧ skip (s.data.toList.drop o) = K ∧ Chg [db] w w) := Lib.hid ⟨Nat.le_refl _, ho, h, hK.symm, Chg.refl _ _⟩
 clear h ho hK
 go_enter Tryz.func83, Tryz.ntmps83
 go_wp2_with fail
 go_loopw [] (fun wr => ∃ q, Hid (o ≤ q ∧ q ≤ s.size ∧ DS wr db s q ∧ skip (s.data.toList.drop q) = K ∧ Chg [db] w wr)) (fun wr => s.size - offW wr db)
 case atStart => exact ⟨o, H⟩
 case round =>
  obtain ⟨q, HQ⟩ := hrel
  have c0 := HQ.out.2.2.1.c0
  have c1 := HQ.out.2.2.1.c1
  have f1 := HQ.out.2.2.1.fz 1
  have lb := lt_of_cell c0
  have hq2 := HQ.out.2.1
  have hoff := HQ.out.2.2.1.off
  by_cases hlt : q < s.size
  · have hij : (q : Int) < s.size := by omega
    have hi0 : (0 : Int) ≤ q := by omega
    have hsk := skip_at hlt
    obtain ⟨a, ha⟩ : ∃ a, s[q].toNat = a := ⟨_, rfl⟩
    have hu := get_u8 hlt ha
    obtain ⟨z, hz⟩ : ∃ z, z = Lib.indexByte [32, 9, 10, 13] ((a : Int).toNat.toUInt8) := ⟨_, rfl⟩
    have hsp := sp_ix a hu.2
    rw [hu.1, ← hz] at hsp
    have Hib := Lib.hid (fun W : World => by have h := Tryz.strings_IndexByte ⟨#[32, 9, 10, 13]⟩ (a : Nat) W; rw [show (ByteArray.mk #[32, 9, 10, 13]).data.toList = [32, 9, 10, 13] from rfl, ← hz] at h; exact h)
    have Hsk := Lib.hid hsk
    have Hsp := Lib.hid hsp
    clear hsk hz hu hsp
    by_cases hs : 0 ≤ z
    · have Hs := Lib.hid (show sp s[q] = true by rw [← Hsp.out]; exact decide_eq_true hs)
      have hzd : decide (0 ≤ z) = true := decide_eq_true hs
      have hqd : decide ((q : Int) < s.size) = true := decide_eq_true hij
      have hqn : decide (q < s.size) = true := decide_eq_true hlt
      have ho1 : IntKind.i64.wrap ((q : Int) + 1) = ((q + 1 : Nat) : Int) := by rw [IntWalk.i64_in _ (by omega)]; omega
      go_upto_region 0 with fail
      go_quiet ((go_at_call 136; (refine Calls.quiet_of_same (Hib.out _))))
      go_wp2_with fail
      have hD := (HQ.out.2.2.1.new ((Chg.refl [] wr).drewN nq)).setI (o' := q + 1) (z := (q : Int) + 1) (by omega)
      refine ⟨⟨q + 1, Lib.hid ⟨by have := HQ.out.1; omega, by omega, hD, ?_, (HQ.out.2.2.2.2.drewN nq).trans (set_chg _ _ _)⟩⟩, ?_⟩
      · rw [← HQ.out.2.2.2.1, Hsk.out, if_pos Hs.out]
      · rw [hD.off, hoff]; omega
    · have Hs := Lib.hid (show sp s[q] = false by rw [← Hsp.out]; exact decide_eq_false hs)
      have hzd : decide (0 ≤ z) = false := decide_eq_false hs
      have hqd : decide ((q : Int) < s.size) = true := decide_eq_true hij
      have hqn : decide (q < s.size) = true := decide_eq_true hlt
      go_upto_region 0 with fail
      go_quiet ((go_at_call 136; (refine Calls.quiet_of_same (Hib.out _))))
      go_wp2_with fail
      go_end0
      exact ⟨rfl, q, HQ.out.1, hq2, HQ.out.2.2.1.new ((Chg.refl [] wr).drewN nq), by rw [← HQ.out.2.2.2.1, Hsk.out, if_neg (by rw [Hs.out]; simp)], HQ.out.2.2.2.2.drewN nq⟩
  · have hij : ¬ ((q : Int) < s.size) := by omega
    have hqd : decide ((q : Int) < s.size) = false := decide_eq_false hij
    have hqn : decide (q < s.size) = false := decide_eq_false hlt
    go_upto_region 0 with fail
    go_quiet (fail)
    go_wp2_with fail
    go_end0
    have hqe : q = s.size := by omega
    exact ⟨rfl, q, HQ.out.1, hq2, HQ.out.2.2.1.new ((Chg.refl [] wr).drewN nq), by rw [← HQ.out.2.2.2.1, List.drop_of_length_le (show s.data.toList.length ≤ q by rw [hqe]; exact Nat.le_refl _)]; rfl, HQ.out.2.2.2.2.drewN nq⟩
def peekL : List UInt8 → Nat
 | [] => 0
 | c :: _ => c.toNat
theorem peek_at {s : ByteArray} {o : Nat} (ho : o < s.size) : peekL (s.data.toList.drop o) = s[o].toNat := by
 have hl : o < s.data.toList.length := ho
 rw [List.drop_eq_getElem_cons hl]
 rfl
theorem peek_end {s : ByteArray} {o : Nat} (ho : ¬ o < s.size) : peekL (s.data.toList.drop o) = 0 := by
 rw [List.drop_of_length_le (show s.data.toList.length ≤ o from Nat.le_of_not_lt ho)]
 rfl
set_option maxHeartbeats 4000000 in
theorem peek_any (db : Nat) (s : ByteArray) (o : Nat) (w : World) (h : DS w db s o) (hs : s.size ≤ 100000) :
 Calls Tryz.prog 132 #[.pointer (some ⟨db, 0, none⟩)] w fun e w' => e = .returned (.int .u8 (peekL (s.data.toList.drop o) : Nat)) ∧ Chg [] w w' := by
 have c0 := h.c0
 have c1 := h.c1
 have lb := lt_of_cell c0
 clear h
 go_enter Tryz.func132, Tryz.ntmps132
 by_cases hlt : o < s.size
 · have hij : (o : Int) < s.size := by omega
   have hi0 : (0 : Int) ≤ o := by omega
   rw [peek_at hlt]
   go_upto_region 1 with fail
   go_quiet (fail)
   go_upto_region 2 with fail
   go_quiet (fail)
   go_wp2_with fail
   go_ret
   exact ⟨rfl, (Chg.refl _ _).drewN _⟩
 · have hij : ¬ ((o : Int) < s.size) := by omega
   rw [peek_end hlt]
   go_upto_region 1 with fail
   go_quiet (fail)
   go_wp2_with fail
   go_ret
   exact ⟨rfl, (Chg.refl _ _).drewN _⟩
theorem extract_drop (s : ByteArray) (o : Nat) : (s.extract o s.size).data.toList = s.data.toList.drop o := by
 rw [Lib.extract_data]
 have hl : s.data.toList.length = s.size := rfl
 first
 | rw [List.take_of_length_le (by rw [List.length_drop, hl]; exact Nat.le_refl _)]
 | rw [List.take_of_length_le (by rw [hl]; exact Nat.le_refl _)]
set_option maxHeartbeats 4000000 in
theorem accept_any (db : Nat) (s tok : ByteArray) (o : Nat) (w : World) (h : DS w db s o) (ho : o ≤ s.size) (hs : s.size ≤ 100000) (ht : tok.size ≤ 100) :
 Calls Tryz.prog 131 #[.pointer (some ⟨db, 0, none⟩), .string tok] w fun e w' => e = .returned (.bool (Lib.hasPrefix (s.data.toList.drop o) tok.data.toList)) ∧ DS w' db s (if Lib.hasPrefix (s.data.toList.drop o) tok.data.toList then o + tok.size else o) ∧ Chg [db] w w' := by
 have c0 := h.c0
 have c1 := h.c1
 have lb := lt_of_cell c0
 have H := Lib.hid h
 have hi0 : (0 : Int) ≤ o := by omega
 have hio : (o : Int) ≤ s.size := by omega
 obtain ⟨q, hq⟩ : ∃ q, q = Lib.hasPrefix (s.data.toList.drop o) tok.data.toList := ⟨_, rfl⟩
 rw [← hq]
 have Hp := Lib.hid (fun W : World => by have h := Tryz.strings_HasPrefix (s.extract o s.size) tok W; rw [extract_drop, ← hq] at h; exact h)
 clear h hq
 cases q
 · go_enter Tryz.func131, Tryz.ntmps131
   go_upto_region 1 with fail
   go_quiet ((go_at_call 171; (refine Calls.quiet_of_same (Hp.out _))))
   go_wp2_with fail
   go_ret
   exact ⟨rfl, H.out.new ((Chg.refl _ _).drewN _), (Chg.refl _ _).drewN _⟩
 · go_enter Tryz.func131, Tryz.ntmps131
   go_upto_region 1 with fail
   go_quiet ((go_at_call 171; (refine Calls.quiet_of_same (Hp.out _))))
   have f1 := (H.out.new ((Chg.refl [] w).drewN nq)).fz 1
   go_wp2_with fail
   go_ret
   exact ⟨rfl, (H.out.new ((Chg.refl [] w).drewN nq)).setI (by omega), ((Chg.refl [db] w).drewN nq).trans (set_chg _ _ _)⟩
def EB (B b db : Nat) (w : World) (k : Nat) : Prop := k = db ∨ bldSet B b w k
theorem eb_trans {B b db : Nat} {w w1 w2 : World} (h : ChgP (EB B b db w) w w1) (h' : ChgP (EB B b db w1) w1 w2) : ChgP (EB B b db w) w w2 := by
 refine ⟨h'.os.trans h.os, h'.tape.trans h.tape, h'.output.trans h.output, Nat.le_trans h.size h'.size, fun k hk hn => ?_⟩
 have h1 := h.block k hk hn
 refine (h'.block k (Nat.lt_of_lt_of_le hk h.size) fun hs => hn ?_).trans h1
 rcases hs with hs | hs
 · exact Or.inl hs
 · exact Or.inr ⟨hs.1, hs.2.imp id fun hne he => hne fun c fr hc => he c fr (by rw [← h1]; exact hc)⟩
theorem eb_db {B b db : Nat} {w w1 : World} (h : Chg [db] w w1) : ChgP (EB B b db w) w w1 := h.toP.mono fun k hk => Or.inl (List.mem_singleton.1 hk)
theorem eb_new {B b db : Nat} {w w1 : World} (h : Chg [] w w1) : ChgP (EB B b db w) w w1 := h.p
theorem eb_b {B b db : Nat} {w w1 : World} (h : ChgP (bldSet B b w) w w1) : ChgP (EB B b db w) w w1 := h.mono fun k hk => Or.inr hk
theorem BW.db {B b db : Nat} {l : List UInt8} {w w' : World} (h : BW B b l w) (hc : Chg [db] w w') (hb : db < B) : BW B b l w' := by
 have hx : ∀ p, Lib.BuilderAt 139 5 B b p (Lib.byteCells l) w → Lib.BuilderAt 139 5 B b p (Lib.byteCells l) w' := fun p ⟨hB, v, hbk, hown, hne⟩ =>
  ⟨hB, v, (hc.block b (lt_of_obj hbk) (by rw [List.mem_singleton]; omega)).trans hbk, ownsRow_kept hown (fun g hg hl => hc.block g hl (by rw [List.mem_singleton]; have := (ownsRow_ge hown hg).1; omega)), hne⟩
 exact h.imp (hx _) (hx _)
structure TS (B b db : Nat) (s : ByteArray) (o : Nat) (l : List UInt8) (w0 w : World) : Prop where
 ds : DS w db s o
 bw : BW B b l w
 chg : ChgP (EB B b db w0) w0 w
 B : B ≤ w.heap.size
theorem TS.new {B b db : Nat} {s : ByteArray} {o : Nat} {l : List UInt8} {w0 w w' : World} (h : TS B b db s o l w0 w) (hc : Chg [] w w') : TS B b db s o l w0 w' :=
 ⟨h.ds.new hc, h.bw.same hc, eb_trans h.chg (eb_new hc), Nat.le_trans h.B hc.size⟩
theorem TS.db {B b db : Nat} {s : ByteArray} {o o' : Nat} {l : List UInt8} {w0 w w' : World} (h : TS B b db s o l w0 w) (hc : Chg [db] w w') (hd : DS w' db s o') (hb : db < B) : TS B b db s o' l w0 w' :=
 ⟨hd, h.bw.db hc hb, eb_trans h.chg (eb_db hc), Nat.le_trans h.B hc.size⟩
theorem TS.wr {B b db : Nat} {s : ByteArray} {o : Nat} {l l' : List UInt8} {w0 w w' : World} (h : TS B b db s o l w0 w) (hb : BW B b l' w') (hc : ChgP (bldSet B b w) w w') (hdb : db < B) : TS B b db s o l' w0 w' :=
 ⟨h.ds.kept hc (bset_below hdb), hb, eb_trans h.chg (eb_b hc), Nat.le_trans h.B hc.size⟩
theorem peek_cons {s : ByteArray} {o : Nat} {c : UInt8} {r : List UInt8} (h : s.data.toList.drop o = c :: r) : peekL (s.data.toList.drop o) = c.toNat ∧ o < s.size ∧ s.data.toList.drop (o + 1) = r := by
 refine ⟨by rw [h]; rfl, ?_, ?_⟩
 · have := congrArg List.length h
   rw [List.length_drop] at this
   have hl : s.data.toList.length = s.size := rfl
   simp at this
   omega
 · rw [← List.drop_drop, h]
   rfl
def plT (t : ByteArray) : Bool := t.data.toList.all fun c => decide (c.toNat ≠ 34 ∧ c.toNat ≠ 92 ∧ 32 ≤ c.toNat)
inductive Pl : J → Prop
 | mk {k n : Int} {t : ByteArray} {ns : List ByteArray} {es : List J} : (k = 0 ∨ k = 3 ∨ k = 5) → plT t = true → (∀ s ∈ ns, plT s = true) → (∀ e ∈ es, Pl e) → Pl (.mk k n t ns es)
theorem pre_cons (c : UInt8) (r : List UInt8) : Lib.hasPrefix (c :: r) [c] = true := by simp [Lib.hasPrefix]
theorem escN_plain {a : Nat} (h : ¬ (a = 34 ∨ a = 92 ∨ a < 32)) : escN a = [a.toUInt8] := by
 unfold escN
 rw [if_neg (by omega), if_neg (by omega), if_neg (by omega), if_neg (by omega), if_neg (by omega), if_neg (by omega), if_neg (by omega), if_neg (by omega)]
theorem get_of_drop {s : ByteArray} {o : Nat} {c : UInt8} {r : List UInt8} (h : s.data.toList.drop o = c :: r) (ho : o < s.size) : s[o] = c := by
 have hl : o < s.data.toList.length := ho
 rw [List.drop_eq_getElem_cons hl] at h
 have := (List.cons.inj h).1
 rw [← this]
 rfl
theorem escN_len (a : Nat) : 1 ≤ (escN a).length := by
 unfold escN
 repeat' split
 all_goals simp
theorem escL_len (l : List UInt8) : l.length ≤ (escL l).length := by
 induction l with
 | nil => simp [escL]
 | cons c l ih =>
   rw [escL, List.length_append, List.length_cons]
   have := escN_len c.toNat
   omega
def LB (b db k : Nat) : Prop := k = db ∨ b ≤ k
theorem below_lb {b db : Nat} {a w : World} (h : Below b a w) : ChgP (LB b db) a w := ⟨h.os, h.tape, h.output, h.size, fun k hk hn => h.block k (by unfold LB at hn; omega)⟩
theorem tb_lt {w : World} (h : Tb w) : Tryz.laysValid_ren.g 3 < w.heap.size ∧ Tryz.laysValid_ren.g 4 < w.heap.size := ⟨lt_of_cell (h.1 0 (by decide)), lt_of_cell (h.2 0 (by decide)).1⟩
theorem tb_lb {b db : Nat} {w w2 w5 : World} (h : Tb w) (hd : Tryz.laysValid_ren.g 3 ≠ db ∧ Tryz.laysValid_ren.g 4 ≠ db) (hb : w.heap.size ≤ b) (hc : Chg [db] w w2) (h2 : ChgP (LB b db) w2 w5) : Tb w5 := by
 obtain ⟨x3, x4⟩ := tb_lt h
 refine (h.kept hc.toP ?_ ?_).kept h2 ?_ ?_
 · simpa using hd.1
 · simpa using hd.2
 · rintro (h | h)
   · exact hd.1 h
   · omega
 · rintro (h | h)
   · exact hd.2 h
   · omega
theorem chg_lb {b db : Nat} {w w2 w5 : World} (hb : w.heap.size ≤ b) (hc : Chg [db] w w2) (h2 : ChgP (LB b db) w2 w5) : Chg [db] w w5 :=
 ⟨h2.os.trans hc.os, h2.tape.trans hc.tape, h2.output.trans hc.output, Nat.le_trans hc.size h2.size, fun k hk hn => (h2.block k (Nat.lt_of_lt_of_le hk hc.size) (by rintro (h | h); exact hn (by simp [h]); omega)).trans (hc.block k hk hn)⟩
theorem bldF_same {B b : Nat} {bs : List Value} {w w' : World} (h : Lib.IsBuilderF 139 5 B b bs w) (hc : Chg [] w w') : Lib.IsBuilderF 139 5 B b bs w' := by
 have hx : ∀ p, Lib.BuilderAtF 139 5 B b p bs w → Lib.BuilderAtF 139 5 B b p bs w' := fun p ⟨hB, v, hb, hown, hne⟩ => by
  refine ⟨hB, v, (hc.block b (lt_of_obj hb) (by simp)).trans hb, ⟨hown.1, ?_⟩, hne⟩
  rcases hown.2 with h | ⟨g, cap, cur, fz, h1, h2, h3, h4⟩
  · exact Or.inl h
  · exact Or.inr ⟨g, cap, cur, fz, h1, h2, (hc.block g (lt_of_obj h3) (by simp)).trans h3, h4⟩
 exact h.imp (hx _) (hx _)
set_option maxRecDepth 100000 in
set_option maxHeartbeats 16000000 in
theorem text_yes (db : Nat) (s t : ByteArray) (o : Nat) (r : List UInt8) (w : World) (h : DS w db s o) (hs : s.size ≤ 100000) (hr : s.data.toList.drop o = encS t ++ r) (hT : Tb w) (hTd : Tryz.laysValid_ren.g 3 ≠ db ∧ Tryz.laysValid_ren.g 4 ≠ db) (hu : u8 t = true ∧ plT t = true) :
 Calls Tryz.prog 133 #[.pointer (some ⟨db, 0, none⟩)] w fun e w' => e = .returned (.string t) ∧ DS w' db s (o + (encS t).length) ∧ Chg [db] w w' := by
 have hsl : s.data.toList.length = s.size := rfl
 have hlen : o + (encS t).length ≤ s.size := by
  have := congrArg List.length hr
  rw [List.length_drop, List.length_append] at this
  have h1 : 0 < (encS t).length := by simp [encS]
  omega
 have hel : (encS t).length = (escL t.data.toList).length + 2 := by simp [encS]
 have hr1 : s.data.toList.drop o = 34 :: (escL t.data.toList ++ 34 :: r) := by rw [hr]; simp [encS]
 obtain ⟨hp1, hp2, hp3⟩ := peek_cons hr1
 have Hac := Lib.hid (accept_any db s ⟨#[34]⟩ o w h (by omega) hs (by decide))
 rw [show (ByteArray.mk #[34]).data.toList = [34] from rfl, hr1, pre_cons] at Hac
 have He := Lib.hid (fun W => expect_any db true W)
 have Hr := Lib.hid (And.intro hp3 (And.intro hlen hel))
 have HT := Lib.hid (And.intro hT hTd)
 have Hpt := Lib.hid hu.2
 have hu := hu.1
 have Hu := Lib.hid hu
 have hdb := lt_of_obj h
 have Hdb := Lib.hid hdb
 clear h hr hr1 hp1 hp3 hT hTd hu hlen hel hp2 hdb
 go_enter Tryz.func133, Tryz.ntmps133
 go_wp2_with fail
 refine Hac.out.mono ?_
 rintro e w1 ⟨rfl, hd1, hc1⟩
 have H1 : Hid (DS w1 db s (o + 1) ∧ Chg [db] w w1) := Lib.hid ⟨hd1, hc1⟩
 clear hd1 hc1
 go_wp2_with fail
 refine (He.out w1).mono ?_
 rintro e w1' ⟨rfl, rfl⟩
 obtain ⟨w2, hw2⟩ : ∃ x, x = w1'.alloc (.cells #[.pointer none, .slice none 0 0] 139 (0, 0)) := ⟨_, rfl⟩
 obtain ⟨b, hb⟩ : ∃ x, x = w1'.heap.size := ⟨_, rfl⟩
 have hc2 : Chg [] w1' w2 := by rw [hw2]; exact (Chg.refl _ _).alloc _
 have hb2 : w2.heap[b]? = some (.cells #[.pointer none, .slice none 0 0] 139 (0, 0)) := by rw [hw2, hb]; exact heap_at _ _ _ rfl
 have hbw : BW b b [] w2 := Or.inl ⟨Nat.le_refl _, .slice none 0 0, hb2, World.ownsRow_nil _ _ _ _, by simp [Value.ownBlock]⟩
 have HTS : Hid (TS b b db s (o + 1) [] w2 w2) := Lib.hid ⟨H1.out.1.new hc2, hbw, ChgP.refl _ _, by rw [hb]; exact hc2.size⟩
 have Hbz := Lib.hid (show b = w1'.heap.size ∧ w.heap.size ≤ b ∧ db < b ∧ Chg [db] w w2 from ⟨hb, by rw [hb]; exact H1.out.2.size, by have h1 := Hdb.out; have h2 := H1.out.2.size; omega, H1.out.2.new hc2⟩)
 clear hc2 hb2 hbw
 go_wp2_with fail
 rw [← hw2, ← hb]
 clear hw2 hb
 have hHR : Hid (([] : List UInt8) = t.data.toList.take 0 ∧ s.data.toList.drop (o + 1) = escL (t.data.toList.drop 0) ++ 34 :: r) := Lib.hid ⟨rfl, by rw [Hr.out.1, List.drop_zero]⟩
 go_loopw [] (fun wr => ∃ (k q : Nat) (l : List UInt8), k ≤ t.size ∧ Hid (TS b b db s q l w2 wr) ∧ Hid (l = t.data.toList.take k ∧ s.data.toList.drop q = escL (t.data.toList.drop k) ++ 34 :: r)) (fun wr => s.size - offW wr db)
 case atStart => exact ⟨0, o + 1, [], by omega, HTS, hHR⟩
 case round =>
  obtain ⟨k, q, l, hk, HT1, HL⟩ := hrel
  have c0 := HT1.out.ds.c0
  have c1 := HT1.out.ds.c1
  have f1 := HT1.out.ds.fz 1
  have lb := lt_of_cell c0
  have hoff := HT1.out.ds.off
  have htl : t.data.toList.length = t.size := rfl
  have hll : l.length ≤ 100000 := by
   have h1 := congrArg List.length HL.out.1
   have h2 := congrArg List.length Hr.out.1
   rw [List.length_take] at h1
   rw [List.length_drop, List.length_append] at h2
   have h3 := escL_len t.data.toList
   omega
  by_cases hlt : k < t.size
  · have hkl : k < t.data.toList.length := hlt
    have hed := escL_drop hkl
    obtain ⟨c, hc⟩ : ∃ c, c = t.data.toList[k] := ⟨_, rfl⟩
    rw [← hc] at hed
    have htk : t.data.toList.take (k + 1) = t.data.toList.take k ++ [c] := by rw [List.take_add_one, List.getElem?_eq_getElem hkl, hc]; rfl
    have hcu : c.toNat.toUInt8 = c := by simp [Nat.toUInt8]
    by_cases hes : c.toNat = 34 ∨ c.toNat = 92 ∨ c.toNat < 32
    · have h1 := of_decide_eq_true (List.all_eq_true.1 Hpt.out c (by rw [hc]; exact List.getElem_mem hkl))
      omega
    · have hesn : ¬ (c.toNat = 34 ∨ c.toNat = 92 ∨ c.toNat < 32) := hes
      have hdq : s.data.toList.drop q = c :: (escL (t.data.toList.drop (k + 1)) ++ 34 :: r) := by rw [HL.out.2, hed, escN_plain hes, hcu]; simp
      obtain ⟨hp1, hp2, hp3⟩ := peek_cons hdq
      have hgq : s[q].toNat = c.toNat := by rw [get_of_drop hdq hp2]
      obtain ⟨a, ha⟩ : ∃ a, a = c.toNat := ⟨_, rfl⟩
      rw [← ha] at hgq hes
      have ha256 : a < 256 := by rw [ha]; exact c.toNat_lt
      have hau : a.toUInt8 = c := by rw [ha, hcu]
      have hij : (q : Int) < s.size := by omega
      have hi0 : (0 : Int) ≤ q := by omega
      have hqd : decide ((q : Int) < s.size) = true := decide_eq_true hij
      have hqn : decide (q < s.size) = true := decide_eq_true hp2
      have ha32 : decide ((32 : Int) ≤ (a : Int)) = true := decide_eq_true (by omega)
      have ha32n : decide (32 ≤ a) = true := decide_eq_true (by omega)
      have ha34 : ((a : Int) == 34) = false := by simp; omega
      have ha92 : ((a : Int) == 92) = false := by simp; omega
      have ha34n : (a == 34) = false := by simp; omega
      have ha92n : (a == 92) = false := by simp; omega
      have Hpl := Lib.hid (And.intro hp3 (And.intro htk (And.intro hau htl)))
      clear hed hdq hp1 hp3 hc htk hcu hes hesn ha hau
      go_upto_region 3 with fail
      go_quiet ((go_at_call 84; (refine Calls.quiet_of_same (He.out _))))
      generalize hwy : wr.drewN _ = wy
      have hcy : Chg [] wr wy := by rw [← hwy]; exact (Chg.refl _ _).drewN _
      have HTy := Lib.hid (HT1.out.new hcy)
      have c0 := HTy.out.ds.c0
      have c1 := HTy.out.ds.c1
      clear hwy hcy
      go_upto_region 4 with fail
      go_quiet (fail)
      generalize hwz : wy.drewN _ = wz
      have hcz : Chg [] wy wz := by rw [← hwz]; exact (Chg.refl _ _).drewN _
      have HTz := Lib.hid (HTy.out.new hcz)
      have c0 := HTz.out.ds.c0
      have c1 := HTz.out.ds.c1
      have f1 := HTz.out.ds.fz 1
      have lb := lt_of_cell c0
      have HT3 : Hid (TS b b db s (q + 1) l w2 (wz.setCell ⟨db, 1, none⟩ (.int .i64 ((q : Int) + 1)))) := Lib.hid (HTz.out.db (set_chg _ _ _) (HTz.out.ds.setI (by omega)) Hbz.out.2.2.1)
      clear hwz hcz
      go_wp2_with fail
      refine (wb_any b b l a _ HT3.out.bw ha256 (by omega) HT3.out.B).mono ?_
      rintro e w5 ⟨rfl, hb5, hc5, _⟩
      have H5 := Lib.hid (HT3.out.wr hb5 hc5 Hbz.out.2.2.1)
      clear hb5 hc5
      go_wp2_with fail
      refine ⟨⟨k + 1, _, _, by omega, H5, Lib.hid ⟨by rw [HL.out.1, Hpl.out.2.1, Hpl.out.2.2.1], Hpl.out.1⟩⟩, ?_⟩
      rw [H5.out.ds.off, hoff]; omega
  · have hke : k = t.size := by omega
    have hdq : s.data.toList.drop q = 34 :: r := by rw [HL.out.2, List.drop_of_length_le (show t.data.toList.length ≤ k by omega)]; rfl
    obtain ⟨hp1, hp2, hp3⟩ := peek_cons hdq
    have hgq : s[q].toNat = 34 := by rw [get_of_drop hdq hp2]; rfl
    have hij : (q : Int) < s.size := by omega
    have hi0 : (0 : Int) ≤ q := by omega
    have hqd : decide ((q : Int) < s.size) = true := decide_eq_true hij
    have hqn : decide (q < s.size) = true := decide_eq_true hp2
    have hle : l = t.data.toList := by rw [HL.out.1, List.take_of_length_le (by omega)]
    have hqe : q + 1 = o + (encS t).length := by
     have h1 := congrArg List.length hp3
     have h2 := congrArg List.length Hr.out.1
     rw [List.length_drop] at h1 h2
     simp only [List.length_append, List.length_cons] at h2
     have h3 := Hr.out.2.2
     have h4 := Hr.out.2.1
     have h5 : s.data.toList.length = s.size := rfl
     omega
    have Hle := Lib.hid (And.intro hle hqe)
    clear hdq hp1 hp3 hke hle hqe
    go_upto_region 3 with fail
    go_quiet ((go_at_call 84; (refine Calls.quiet_of_same (He.out _))))
    generalize hwy : wr.drewN _ = wy
    have hcy : Chg [] wr wy := by rw [← hwy]; exact (Chg.refl _ _).drewN _
    have HTy := Lib.hid (HT1.out.new hcy)
    have c0 := HTy.out.ds.c0
    have c1 := HTy.out.ds.c1
    clear hwy hcy
    go_upto_region 4 with fail
    go_quiet (fail)
    generalize hwz : wy.drewN _ = wz
    have hcz : Chg [] wy wz := by rw [← hwz]; exact (Chg.refl _ _).drewN _
    have HTz := Lib.hid (HTy.out.new hcz)
    have c0 := HTz.out.ds.c0
    have c1 := HTz.out.ds.c1
    have f1 := HTz.out.ds.fz 1
    have lb := lt_of_cell c0
    have HT3 : Hid (TS b b db s (q + 1) l w2 (wz.setCell ⟨db, 1, none⟩ (.int .i64 ((q : Int) + 1)))) := Lib.hid (HTz.out.db (set_chg _ _ _) (HTz.out.ds.setI (by omega)) Hbz.out.2.2.1)
    clear hwz hcz
    go_wp2_with fail
    have hlt : (⟨l.toArray⟩ : ByteArray) = t := by rw [Hle.out.1]
    have Hlt := Lib.hid hlt
    have Hend : Hid (DS (wz.setCell ⟨db, 1, none⟩ (.int .i64 ((q : Int) + 1))) db s (o + (encS t).length)) := Lib.hid (by rw [← Hle.out.2]; exact HT3.out.ds)
    have hcg : ChgP (LB b db) w2 (wz.setCell ⟨db, 1, none⟩ (.int .i64 ((q : Int) + 1))) := HT3.out.chg.mono fun k hk => hk.imp id fun h => h.1
    have Hcg := Lib.hid hcg
    have hTb := HT.out.1
    have hts : t.size ≤ maxLen := by
     have h1 := escL_len t.data.toList
     have h2 := Hr.out.2.1
     have h3 := Hr.out.2.2
     have h4 : t.data.toList.length = t.size := rfl
     unfold maxLen
     omega
    have Hts := Lib.hid hts
    have hF := Lib.hid (Lib.IsBuilderF.of HT3.out.bw)
    have hBs := Lib.hid HT3.out.B
    clear hts hlt hTb hcg
    refine (Tryz.Builder_String_any_f b b l _ hF.out hBs.out).mono ?_
    rintro e w5 ⟨rfl, hb5, hw5⟩
    rw [Hlt.out]
    have H5 : Hid (ChgP (LB b db) w2 w5 ∧ DS w5 db s (o + (encS t).length) ∧ Lib.IsBuilderF 139 5 b b (Lib.byteCells l) w5 ∧ b ≤ w5.heap.size) := Lib.hid ⟨Hcg.out.trans (below_lb hw5), (hw5.block db Hbz.out.2.2.1).trans Hend.out, hb5, Nat.le_trans hBs.out hw5.size⟩
    clear hb5 hw5
    have Hvs : Hid (Calls Tryz.prog 172 #[.string t] w5 fun e w' => e = .returned (.bool (u8 t)) ∧ Chg [] w5 w') := Lib.hid (valid_str t w5 Hts.out (tb_lb HT.out.1 HT.out.2 Hbz.out.2.1 Hbz.out.2.2.2 H5.out.1))
    go_wp2_with fail
    refine Hvs.out.mono ?_
    rintro e w6 ⟨rfl, hc6⟩
    rw [Hu.out]
    have H6 : Hid (ChgP (LB b db) w2 w6 ∧ DS w6 db s (o + (encS t).length) ∧ Lib.IsBuilderF 139 5 b b (Lib.byteCells l) w6 ∧ b ≤ w6.heap.size) := Lib.hid ⟨H5.out.1.trans hc6.p, H5.out.2.1.new hc6, bldF_same H5.out.2.2.1 hc6, Nat.le_trans H5.out.2.2.2 hc6.size⟩
    clear hc6
    go_wp2_with fail
    refine (He.out w6).mono ?_
    rintro e w7 ⟨rfl, rfl⟩
    go_wp2_with fail
    refine (Tryz.Builder_String_any_f b b l _ H6.out.2.2.1 H6.out.2.2.2).mono ?_
    rintro e w8 ⟨rfl, hb8, hw8⟩
    rw [Hlt.out]
    have H8 : Hid (ChgP (LB b db) w2 w8 ∧ DS w8 db s (o + (encS t).length)) := Lib.hid ⟨H6.out.1.trans (below_lb hw8), (hw8.block db Hbz.out.2.2.1).trans H6.out.2.1⟩
    clear hb8 hw8
    go_wp2_with fail
    go_ret
    exact ⟨rfl, H8.out.2, chg_lb Hbz.out.2.1 Hbz.out.2.2.2 H8.out.1⟩
theorem dg_u8 {d : Nat} (h : d < 10) : (UInt8.ofNat (48 + d)).toNat = 48 + d := by simp [UInt8.toNat_ofNat']; omega
theorem dig_all (m : Nat) : ∀ c ∈ Lib.decDigits m, 48 ≤ c.toNat ∧ c.toNat ≤ 57 := by
 induction m using Nat.strongRecOn with
 | _ m ih =>
   intro c hc
   rw [Lib.decDigits] at hc
   split at hc
   · simp only [List.mem_singleton] at hc
     subst hc
     rw [dg_u8 (by omega)]
     omega
   · rw [List.mem_append, List.mem_singleton] at hc
     rcases hc with hc | hc
     · exact ih (m / 10) (by omega) c hc
     · subst hc
       rw [dg_u8 (by omega)]
       omega
theorem dig_ne (m : Nat) : 1 ≤ (Lib.decDigits m).length := by
 rw [Lib.decDigits_length]
 exact Lib.nDigits_pos m
theorem decFrom_app : ∀ (l : List UInt8) (acc n : Nat) (c : UInt8) (d : Nat), Lib.decFrom acc l = some n → Lib.digitVal c = some d → Lib.decFrom acc (l ++ [c]) = some (n * 10 + d)
 | [], acc, n, c, d, h, hd => by
   simp only [Lib.decFrom, Option.some.injEq] at h
   subst h
   simp [Lib.decFrom, hd]
 | a :: t, acc, n, c, d, h, hd => by
   simp only [Lib.decFrom, List.cons_append] at h ⊢
   cases ha : Lib.digitVal a with
   | none => simp [ha] at h
   | some e =>
     simp only [ha] at h ⊢
     exact decFrom_app t _ n c d h hd
theorem digVal_u8 {d : Nat} (h : d < 10) : Lib.digitVal (UInt8.ofNat (48 + d)) = some d := by
 unfold Lib.digitVal
 rw [dg_u8 h, if_pos (by omega)]
 exact congrArg some (by omega)
theorem dig_from (m : Nat) : Lib.decFrom 0 (Lib.decDigits m) = some m := by
 induction m using Nat.strongRecOn with
 | _ m ih =>
   rw [Lib.decDigits]
   split
   · exact (decFrom_app [] 0 0 _ m rfl (digVal_u8 (by omega))).trans (congrArg some (by omega))
   · rw [decFrom_app _ _ _ _ _ (ih (m / 10) (by omega)) (digVal_u8 (by omega))]
     exact congrArg some (by omega)
theorem nDigits_le (k : Nat) : ∀ u, u < 10 ^ (k + 1) → Lib.nDigits u ≤ k + 1 := by
 induction k with
 | zero =>
   intro u h
   rw [Lib.nDigits_small (by simpa using h)]
   omega
 | succ k ih =>
   intro u h
   by_cases h1 : u < 10
   · rw [Lib.nDigits_small h1]
     omega
   · rw [Lib.nDigits_big h1]
     have := ih (u / 10) (by rw [Nat.pow_succ] at h; omega)
     omega
def sg (n : Int) : List UInt8 := if n < 0 then [45] else []
theorem itoa_sg (n : Int) : Lib.itoa n = sg n ++ Lib.decDigits n.natAbs := by
 unfold Lib.itoa sg
 split
 · rfl
 · rw [show n.toNat = n.natAbs by omega]
   rfl
theorem skip_no (db : Nat) (s : ByteArray) (o : Nat) (c : UInt8) (l : List UInt8) (w : World) (h : DS w db s o) (hs : s.size ≤ 100000) (hd : s.data.toList.drop o = c :: l) (hc : sp c = false) :
 Calls Tryz.prog 83 #[.pointer (some ⟨db, 0, none⟩)] w fun e w' => e = .returned (.tuple #[]) ∧ DS w' db s o ∧ Chg [db] w w' := by
 have hp := (peek_cons hd).2.1
 refine (skip_any db s o w h (by omega) hs).mono ?_
 rintro e w' ⟨rfl, o', h1, h2, h3, h4, h5⟩
 have hk : skip (s.data.toList.drop o) = s.data.toList.drop o := by rw [hd, skip, hc]; rfl
 rw [hk] at h4
 have h6 := congrArg List.length h4
 rw [List.length_drop, List.length_drop] at h6
 have h7 : s.data.toList.length = s.size := rfl
 obtain rfl : o' = o := by omega
 exact ⟨rfl, h3, h5⟩
theorem accept_one (db : Nat) (s : ByteArray) (o : Nat) (c t : UInt8) (l : List UInt8) (w : World) (h : DS w db s o) (hs : s.size ≤ 100000) (hd : s.data.toList.drop o = c :: l) :
 Calls Tryz.prog 131 #[.pointer (some ⟨db, 0, none⟩), .string ⟨#[t]⟩] w fun e w' => e = .returned (.bool (c == t)) ∧ DS w' db s (if (c == t) = true then o + 1 else o) ∧ Chg [db] w w' := by
 have hp := (peek_cons hd).2.1
 refine (accept_any db s ⟨#[t]⟩ o w h (by omega) hs (by show 1 ≤ 100; decide)).mono ?_
 rw [show (ByteArray.mk #[t]).data.toList = [t] from rfl, hd]
 rw [show Lib.hasPrefix (c :: l) [t] = (c == t) by simp [Lib.hasPrefix, List.isPrefixOf, BEq.comm]]
 exact fun e w' h => h
def hdOk (c : UInt8) : Prop := sp c = false ∧ c ≠ 93 ∧ c ≠ 125 ∧ c ≠ 44
theorem enc_head (j : J) : ∃ c l, j.enc = c :: l ∧ hdOk c := by
 obtain ⟨k, n, t, ns, es⟩ := j
 unfold J.enc hdOk
 split
 · exact ⟨110, _, rfl, by decide⟩
 split
 · by_cases hn : n = 1
   · simp only [hn, decide_true]
     exact ⟨116, _, rfl, by decide⟩
   · simp only [hn, decide_false]
     exact ⟨102, _, rfl, by decide⟩
 split
 · rw [itoa_sg]
   have h1 := dig_all n.natAbs
   have h2 := dig_ne n.natAbs
   unfold sg
   split
   · exact ⟨45, _, rfl, by decide⟩
   · generalize Lib.decDigits n.natAbs = L at h1 h2
     cases L with
     | nil => simp at h2
     | cons c l =>
       have h3 := h1 c (by simp)
       refine ⟨c, l, rfl, ?_, ?_, ?_, ?_⟩
       · unfold sp
         have e : ∀ a : UInt8, a.toNat < 48 → (c == a) = false := fun a ha => beq_eq_false_iff_ne.2 fun h => by subst h; omega
         rw [e 32 (by decide), e 9 (by decide), e 10 (by decide), e 13 (by decide)]
         rfl
       · intro h; subst h; simp at h3
       · intro h; subst h; simp at h3
       · intro h; subst h; simp at h3
 split
 · exact ⟨34, _, rfl, by decide⟩
 split
 · exact ⟨123, _, rfl, by decide⟩
 · exact ⟨91, _, rfl, by decide⟩
def JRowN (B f : Nat) (w : World) (v : Value) (xs : List J) (n : Option Nat) : Prop :=
 ∃ es : List Ev, es.length = xs.length ∧ OwnE w B v es ∧ ∀ i (hi : i < es.length), JV (fun g => ((B ≤ g ∧ g < w.heap.size) ∧ v.ownBlock ≠ some g) ∧ n ≠ some g) f w es[i].val (xs.getD i J.zero)
theorem JRowN.nil (B f : Nat) (w : World) (n : Option Nat) : JRowN B f w (.slice none 0 0) [] n := ⟨[], rfl, OwnE.nil _ _, fun i hi => absurd hi (by simp)⟩
theorem JRowN.kept {B f : Nat} {w w' : World} {S : Nat → Prop} {v : Value} {xs : List J} {n : Option Nat} (h : JRowN B f w v xs n) (hc : ChgP S w w') (hS : ∀ g, S g → g < B) : JRowN B f w' v xs n := by
 obtain ⟨es, h1, h2, h3⟩ := h
 exact ⟨es, h1, h2.kept hc fun g hg hs => by have := (ownsRow_ge h2 hg).1; have := hS g hs; omega, fun i hi => ((h3 i hi).kept hc (fun g hg hs => by have := hS g hs; have := hg.1.1.1; omega)).imp fun g hg => ⟨⟨⟨hg.1.1.1, Nat.lt_of_lt_of_le hg.1.1.2 hc.size⟩, hg.1.2⟩, hg.2⟩⟩
theorem JRowN.own {B f : Nat} {w : World} {v : Value} {xs : List J} {n : Option Nat} (h : JRowN B f w v xs n) {g : Nat} (hg : v.ownBlock = some g) : B ≤ g ∧ g < w.heap.size := by
 obtain ⟨es, h1, h2, h3⟩ := h
 exact ownsRow_ge h2 hg
theorem JRowN.read {B f : Nat} {w : World} {v : Value} {xs : List J} {n : Option Nat} (h : JRowN B f w v xs n) : SlR (fun g => B ≤ g ∧ g < w.heap.size) 5 (rdJ (fun g => B ≤ g ∧ g < w.heap.size) (f + 1)) w v xs := by
 obtain ⟨es, h1, h2, h3⟩ := h
 exact h2.read h1 (fun g hg => ownsRow_ge h2 hg) fun i hi => (h3 i hi).imp fun g hg => hg.1.1
theorem JRowN.names {B B' f : Nat} {w w' : World} {v nv : Value} {xs : List J} {n' : Option Nat} {ns : List ByteArray} (h : JRowN B f w v xs nv.ownBlock) (hn : OwnN w B' nv ns) (hc : Chg nv.ownBlock.toList w w') (hn' : n' = nv.ownBlock ∨ n' = some w.heap.size) : JRowN B f w' v xs n' := by
 obtain ⟨es, h1, h2, h3⟩ := h
 refine ⟨es, h1, h2.kept hc.toP fun g hg hm => ?_, fun i hi => ((h3 i hi).kept hc.toP fun g hg hm => hg.2 (by simpa using hm)).imp fun g hg => ⟨⟨⟨hg.1.1.1, Nat.lt_of_lt_of_le hg.1.1.2 hc.size⟩, hg.1.2⟩, fun e => ?_⟩⟩
 · have hm' : nv.ownBlock = some g := by simpa using hm
   rcases h2.2 with ⟨h0, _⟩ | ⟨g', cap', cur, hv, _, hh, _⟩
   · subst h0; cases hg
   · subst hv
     simp only [Value.ownBlock, Option.some.injEq] at hg
     subst hg
     exact own_ne hn.1 hm' hh
 · rcases hn' with h | h
   · exact hg.2 (h ▸ e)
   · rw [h] at e
     cases e
     exact Nat.lt_irrefl _ hg.1.1.2
theorem JRowN.push {B f : Nat} {w : World} {v : Value} {xs : List J} {m : Option Nat} (h : JRowN B f w v xs m) {e : Ev} {x : J} {n : Nat} (ty : TypeId) (hb : w.heap[n]? = some (.cells #[.int .i64 e.k, .int .i64 e.n, .string e.t, .slice e.na e.nl e.nc, .slice e.ia e.il e.ic] 59 (0, 0)))
 (hx : JV (fun g => ((B ≤ g ∧ g < w.heap.size) ∧ v.ownBlock ≠ some g) ∧ m ≠ some g) f w e.val x) (hlen : xs.length ≤ 100000) (hB : B ≤ w.heap.size) :
 ∃ a cap w', (Builtin.append_ #[57, 57] ty #[v, .slice (some ⟨n, 0, none⟩) 1 1]).run Tryz.prog w = .ok (.slice a (xs.length + 1) cap) w' ∧ JRowN B f w' (.slice a (xs.length + 1) cap) (xs ++ [x]) m ∧ Chg v.ownBlock.toList w w' := by
 obtain ⟨es, h1, h2, h3⟩ := h
 obtain ⟨v', w', hr, ho, hc, hob⟩ := run_append_ev w ty B v es e n h2 hb (by omega) hB
 have hsh := ownsRow_shape ho
 rw [List.length_append, List.length_singleton, h1] at hsh
 obtain ⟨a, cap, rfl⟩ := hsh
 have key : ∀ (y : Ev) (z : J), JV (fun g => ((B ≤ g ∧ g < w.heap.size) ∧ v.ownBlock ≠ some g) ∧ m ≠ some g) f w y.val z → JV (fun g => ((B ≤ g ∧ g < w'.heap.size) ∧ (Value.slice a (xs.length + 1) cap).ownBlock ≠ some g) ∧ m ≠ some g) f w' y.val z := fun y z hz => by
  refine (hz.kept hc.toP fun g hg hm => ?_).imp fun g hg => ⟨⟨⟨hg.1.1.1, Nat.lt_of_lt_of_le hg.1.1.2 hc.size⟩, fun e => ?_⟩, hg.2⟩
  · exact hg.1.2 (by simpa using hm)
  · rcases hob with ho | ho
    · exact hg.1.2 (ho.symm.trans e)
    · rw [ho] at e
      cases e
      exact Nat.lt_irrefl _ hg.1.1.2
 refine ⟨a, cap, w', hr, ⟨es ++ [e], by simp [h1], ho, fun i hi => ?_⟩, hc⟩
 by_cases hil : i < es.length
 · rw [List.getElem_append_left hil, List.getD_eq_getElem?_getD, List.getElem?_append_left (by omega), ← List.getD_eq_getElem?_getD]
   exact key _ _ (h3 i hil)
 · have hi' : i = es.length := by simp at hi; omega
   subst hi'
   rw [List.getElem_append_right (Nat.le_refl _), List.getD_eq_getElem?_getD, List.getElem?_append_right (by omega)]
   simp only [h1, Nat.sub_self, List.getElem_singleton, List.getElem?_cons_zero, Option.getD_some]
   exact key _ _ hx
theorem run_append_nm (w : World) (ty : TypeId) (B : Nat) (v : Value) (l : List ByteArray) (t : ByteArray) (n : Nat) (hv : OwnN w B v l) (ht : t.size ≤ maxLen) (hb : w.heap[n]? = some (.cells #[.string t] 9 (0, 0))) (hlen : l.length ≤ 100000) (hB : B ≤ w.heap.size) :
 ∃ a cap w', (Builtin.append_ #[22, 22] ty #[v, .slice (some ⟨n, 0, none⟩) 1 1]).run Tryz.prog w = .ok (.slice a (l.length + 1) cap) w' ∧ OwnN w' B (.slice a (l.length + 1) cap) (l ++ [t]) ∧ Chg v.ownBlock.toList w w' ∧ ((Value.slice a (l.length + 1) cap).ownBlock = v.ownBlock ∨ (Value.slice a (l.length + 1) cap).ownBlock = some w.heap.size) := by
 obtain ⟨i0, hi, hz0, hz1, hz2⟩ := info_parts infoS
 obtain ⟨v', w', hr, h2, h3, _, h5⟩ := run_append_own_at (P := Tryz.prog) w B 22 ty 9 i0 (.string ⟨#[]⟩) 1 16 Tryz.underlying22 hi hz0 hz1 hz2 rfl (by decide) v l.length (ssk l) hv.1 ⟨n, 0, none⟩ 1 1 [sk t] rfl (fun j u hj => by
  rw [Addr.add_lit, Nat.zero_add]
  refine cell_of_heap hb ?_
  match j with
  | 0 => simpa [sk] using hj
  | j + 1 => simp at hj) (ssk_one [t]) (by unfold maxLen; omega) (by omega) hB
 have hsh := ownsRow_shape h2
 obtain ⟨a, cap, rfl⟩ := hsh
 refine ⟨a, cap, w', hr, ⟨?_, fun s hs => ?_⟩, (Chg.refl _ w).grown h3 (by intro k hk; left; simp [hk]), h5⟩
 · rw [List.length_append, List.length_singleton]
   unfold ssk at h2 ⊢
   rw [List.map_append]
   exact h2
 · rw [List.mem_append, List.mem_singleton] at hs
   rcases hs with hs | rfl
   · exact hv.2 s hs
   · exact ht
end Go.Proofs.YtjlknaahpjiibaaGreatDoor.Jv
