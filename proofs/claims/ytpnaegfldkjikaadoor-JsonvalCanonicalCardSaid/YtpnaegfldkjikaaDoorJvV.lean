/- JSON texts: WriteRune, escapes. -/
import Derived.Test.YtpnaegfldkjikaaDoorJvU
namespace Go.Proofs.YtpnaegfldkjikaaDoor.Jv
open Go.RowKit Go.ChangeMaps Go.MapKept
set_option linter.unusedVariables false
set_option linter.unusedSimpArgs false
theorem ownNe_shape {w : World} {B n : Nat} {v : Value} {xs : List Value} (h : w.ownsRow B 5 1 v n xs) : ∃ a c, v = .slice a n c := ownsRow_shape h
set_option maxHeartbeats 4000000 in
set_option maxRecDepth 1000000 in
theorem writeRune_any (B b : Nat) (bs : List Value) (r : Int) (w : World) (h : IsBld B b bs w) (hr0 : -2147483648 ≤ r) (hr1 : r ≤ 2147483647) (hlen : bs.length + 4 ≤ 140737488355328) (hBw : B ≤ w.heap.size) :
    Calls Tryd.prog 60 #[.pointer (some ⟨b, 0, none⟩), .int .i32 r] w fun e w' => (∃ v, e = .returned v) ∧ (IsBld B b (bs ++ Lib.runeCells r) w' ∧ ChgP (bldSet B b w) w w') := by
  go_enter Tryd.func60, Tryd.ntmps60
  go_wp2_with fail
  refine (copyCheck_any B b bs _ h).mono ?_
  rintro e w1 ⟨rfl, h1, hb1⟩
  obtain ⟨hB, v, hbk, hown, hne⟩ := h1
  obtain ⟨av, cv, rfl⟩ := ownsRow_shape hown
  have c0 : w1.cell? ⟨b, 0, none⟩ = some (.pointer (some ⟨b, 0, none⟩)) := by rw [Lib.cell_of_heap hbk]; rfl
  have c1 : w1.cell? ⟨b, 1, none⟩ = some (.slice av bs.length cv) := by rw [Lib.cell_of_heap hbk]; rfl
  have hB1 : B ≤ w1.heap.size := by have := hb1.size; omega
  have Hap := Lib.hid (Tryd.utf8_AppendRune_plain B _ bs.length bs r hr0 hr1 w1 hown hlen hB1)
  have Hbk := Lib.hid (And.intro hbk (And.intro hne (And.intro hown (And.intro hb1 hB))))
  have hbl : (bs.length : Int) ≤ 140737488355328 := by omega
  clear hbk hne hown hb1 h
  go_wp2_with fail
  refine Hap.out.mono ?_
  rintro e w2 ⟨v', rfl, hown', ob, hgr⟩
  obtain ⟨a', c', rfl⟩ := ownsRow_shape hown'
  have hlt : b < (w1.alloc ob).heap.size := by have := lt_of_obj Hbk.out.1; simp; omega
  have hb1a : (w1.alloc ob).heap[b]? = some (.cells #[.pointer (some ⟨b, 0, none⟩), .slice av bs.length cv] 49 (0, 0)) := (heap_past _ _ _ (lt_of_obj Hbk.out.1)).trans Hbk.out.1
  have hb2 : w2.heap[b]? = some (.cells #[.pointer (some ⟨b, 0, none⟩), .slice av bs.length cv] 49 (0, 0)) := by
    rw [hgr.block b hlt (fun e => Hbk.out.2.1 e.symm)]
    exact hb1a
  have d0 : w2.cell? ⟨b, 0, none⟩ = some (.pointer (some ⟨b, 0, none⟩)) := by rw [Lib.cell_of_heap hb2]; rfl
  have d1 : w2.cell? ⟨b, 1, none⟩ = some (.slice av bs.length cv) := by rw [Lib.cell_of_heap hb2]; rfl
  have f1 : w2.frozen? ⟨b, 1, none⟩ = false := Lib.frozen_of_heap hb2 1
  have hgrow : ChgP (bldSet B b w) w w2 := by
    have h0 : ChgP (bldSet B b w) w (w1.alloc ob) := (Hbk.out.2.2.2.1.mono fun k hk => by subst hk; exact ⟨Hbk.out.2.2.2.2, Or.inl rfl⟩).alloc ob
    refine h0.grown hgr fun k hk => ?_
    obtain ⟨hk1, hk2⟩ := Hbk.out.2.2.1.lt k hk
    by_cases hkw : k < w.heap.size
    case neg => exact Or.inr (by omega)
    refine Or.inl ⟨hk1, ?_⟩
    by_cases hkb : k = b
    · exact Or.inl hkb
    · refine Or.inr fun hn => ?_
      rcases Hbk.out.2.2.1.2 with ⟨h0, _⟩ | ⟨g, cap', cur, h0, _, hg, _⟩
      · rw [h0] at hk; cases hk
      · rw [h0] at hk
        simp only [Value.ownBlock, Option.some.injEq] at hk
        subst hk
        rw [Hbk.out.2.2.2.1.block g hkw hkb] at hg
        exact hn _ _ hg
  have Hgrow := Lib.hid hgrow
  have Hput := Lib.hid (And.intro hb2 hown')
  clear hgrow hb2 hown' hb1a hgr hlt c0 c1
  go_wp2_with fail
  go_ret2
  refine ⟨⟨_, rfl⟩, Or.inr (Lib.BuilderAt.put (T := 49) (e := 5) Hbk.out.2.2.2.2 Hput.out.1 (bs' := bs ++ Lib.runeCells r) (by simpa using Hput.out.2) (by decide)), ?_⟩
  exact Hgrow.out.setCell (p := ⟨b, 1, none⟩) (Or.inl ⟨Hbk.out.2.2.2.2, Or.inl rfl⟩) _
theorem wrune_any (B b : Nat) (l : List UInt8) (a : Nat) (w : World) (h : BW B b l w) (ha : a < 128) (hlen : l.length + 4 ≤ 140737488355328) (hBw : B ≤ w.heap.size) :
    Calls Tryd.prog 60 #[.pointer (some ⟨b, 0, none⟩), .int .i32 (a : Nat)] w fun e w' => (∃ v, e = .returned v) ∧ BW B b (l ++ [a.toUInt8]) w' ∧ ChgP (bldSet B b w) w w' ∧ w.heap.size ≤ w'.heap.size :=
  (writeRune_any B b _ (a : Nat) w h (by omega) (by omega) (by rw [cells_len]; exact hlen) hBw).mono fun e w' ⟨h1, h2, h3⟩ => ⟨h1, by
    unfold BW
    rw [cells_app]
    have e : Lib.byteCells [a.toUInt8] = Lib.runeCells (a : Nat) := by
      have : a.toUInt8.toNat = a := by simp [Nat.toUInt8, UInt8.toNat_ofNat']; omega
      unfold Lib.runeCells
      rw [Lib.encodeRuneZ_one (by omega) (by omega)]
      simp [Lib.byteCells, this]
    rw [e]
    exact h2, h3, h3.size⟩
/-- what a decoder that writes a text may change -/
def EB (B b db : Nat) (w : World) (k : Nat) : Prop := k = db ∨ bldSet B b w k
theorem eb_trans {B b db : Nat} {w w1 w2 : World} (h : ChgP (EB B b db w) w w1) (h' : ChgP (EB B b db w1) w1 w2) : ChgP (EB B b db w) w w2 := by
  refine ⟨h'.os.trans h.os, h'.tape.trans h.tape, h'.output.trans h.output, Nat.le_trans h.size h'.size, fun k hk hn => ?_⟩
  have h1 := h.block k hk hn
  refine (h'.block k (Nat.lt_of_lt_of_le hk h.size) fun hs => hn ?_).trans h1
  rcases hs with hs | hs
  · exact Or.inl hs
  · exact Or.inr ⟨hs.1, hs.2.imp id fun hne he => hne fun c fr hc => he c fr (by rw [← h1]; exact hc)⟩
theorem eb_db {B b db : Nat} {w w1 : World} (h : Chg [db] w w1) : ChgP (EB B b db w) w w1 := h.toP.mono fun k hk => Or.inl (List.mem_singleton.1 hk)
theorem eb_new {B b db : Nat} {w w1 : World} (h : Chg [] w w1) : ChgP (EB B b db w) w w1 := h.p
theorem eb_b {B b db : Nat} {w w1 : World} (h : ChgP (bldSet B b w) w w1) : ChgP (EB B b db w) w w1 := h.mono fun k hk => Or.inr hk
theorem BW.db {B b db : Nat} {l : List UInt8} {w w' : World} (h : BW B b l w) (hc : Chg [db] w w') (hb : db < B) : BW B b l w' := by
  have hx : ∀ p, Lib.BuilderAt 49 5 B b p (Lib.byteCells l) w → Lib.BuilderAt 49 5 B b p (Lib.byteCells l) w' := fun p ⟨hB, v, hbk, hown, hne⟩ =>
    ⟨hB, v, (hc.block b (lt_of_obj hbk) (by rw [List.mem_singleton]; omega)).trans hbk, ownsRow_kept hown (fun g hg hl => hc.block g hl (by rw [List.mem_singleton]; have := (ownsRow_ge hown hg).1; omega)), hne⟩
  exact h.imp (hx _) (hx _)
theorem hexF_ctl : ∀ a : Nat, a < 32 → hexF 0 [48, 48, hx (a / 16), hx (a % 16)] = some a := by decide
def ixl (q : Nat) : Int := if q = 98 then 0 else if q = 116 then 1 else if q = 110 then 2 else if q = 102 then 3 else if q = 114 then 4 else -1
set_option maxRecDepth 100000 in
theorem ixl_eq : ∀ q : Nat, q < 256 → Lib.indexByte [98, 116, 110, 102, 114] ((q : Int).toNat.toUInt8) = ixl q := by decide
/-- the state while a text is read -/
structure TS (B b db : Nat) (s : ByteArray) (o : Nat) (l : List UInt8) (w0 w : World) : Prop where
  ds : DS w db s o
  bw : BW B b l w
  chg : ChgP (EB B b db w0) w0 w
  B : B ≤ w.heap.size
theorem TS.new {B b db : Nat} {s : ByteArray} {o : Nat} {l : List UInt8} {w0 w w' : World} (h : TS B b db s o l w0 w) (hc : Chg [] w w') : TS B b db s o l w0 w' :=
  ⟨h.ds.new hc, h.bw.same hc, eb_trans h.chg (eb_new hc), Nat.le_trans h.B hc.size⟩
theorem TS.db {B b db : Nat} {s : ByteArray} {o o' : Nat} {l : List UInt8} {w0 w w' : World} (h : TS B b db s o l w0 w) (hc : Chg [db] w w') (hd : DS w' db s o') (hb : db < B) : TS B b db s o' l w0 w' :=
  ⟨hd, h.bw.db hc hb, eb_trans h.chg (eb_db hc), Nat.le_trans h.B hc.size⟩
theorem TS.wr {B b db : Nat} {s : ByteArray} {o : Nat} {l l' : List UInt8} {w0 w w' : World} (h : TS B b db s o l w0 w) (hb : BW B b l' w') (hc : ChgP (bldSet B b w) w w') (hdb : db < B) : TS B b db s o l' w0 w' :=
  ⟨h.ds.kept hc (bset_below hdb), hb, eb_trans h.chg (eb_b hc), Nat.le_trans h.B hc.size⟩
set_option maxRecDepth 100000 in
set_option maxHeartbeats 4000000 in
theorem unesc_yes (db : Nat) (s : ByteArray) (o n : Nat) (w : World) (h : DS w db s o) (ho : o + 4 ≤ s.size) (hs : s.size ≤ 100000) (hn : hexF 0 ((s.data.toList.drop o).take 4) = some n) (hn2 : n < 55296) :
    Calls Tryd.prog 61 #[.pointer (some ⟨db, 0, none⟩)] w fun e w' => e = .returned (.int .i32 (n : Nat)) ∧ DS w' db s (o + 4) ∧ Chg [db] w w' := by
  have H := Lib.hid (hex4_yes db s o n w h ho hs hn (by omega))
  have He := Lib.hid (fun W => expect_any db true W)
  obtain ⟨z, hz⟩ : ∃ z : Int, z = (n : Nat) := ⟨_, rfl⟩
  rw [← hz] at H ⊢
  have hn3 : z < 55296 := by omega
  have hn4 : z < 56320 := by omega
  clear h hn hz hn2
  go_enter Tryd.func61, Tryd.ntmps61
  go_wp2_with fail
  refine H.out.mono ?_
  rintro e w1 ⟨rfl, hd, hc⟩
  have Hd := Lib.hid (And.intro hd hc)
  clear hd hc
  go_wp2_with fail
  refine (He.out w1).mono ?_
  rintro e w2 ⟨rfl, rfl⟩
  go_wp2_with fail
  go_ret
  exact ⟨rfl, Hd.out⟩
/-- the bytes behind the backslash -/
def escT (a : Nat) : List UInt8 := (escN a).drop 1
theorem peek_cons {s : ByteArray} {o : Nat} {c : UInt8} {r : List UInt8} (h : s.data.toList.drop o = c :: r) : peekL (s.data.toList.drop o) = c.toNat ∧ o < s.size ∧ s.data.toList.drop (o + 1) = r := by
  refine ⟨by rw [h]; rfl, ?_, ?_⟩
  · have := congrArg List.length h
    rw [List.length_drop] at this
    have hl : s.data.toList.length = s.size := rfl
    simp at this
    omega
  · rw [← List.drop_drop, h]
    rfl
end Go.Proofs.YtpnaegfldkjikaaDoor.Jv
