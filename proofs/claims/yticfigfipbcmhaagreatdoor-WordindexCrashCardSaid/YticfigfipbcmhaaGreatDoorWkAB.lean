/- WordindexCrash, plain: the journal's value of an entry; its words are found again. -/
import Derived.Test.YticfigfipbcmhaaGreatDoorWiV
import Derived.Test.YticfigfipbcmhaaGreatDoorWkH
import Derived.Lib.SplitLaws
import Derived.Lib.IndexBytes
import Derived.Lib.Strings
import Derived.Test.YticfigfipbcmhaaGreatDoorWjN
import Derived.Test.YticfigfipbcmhaaGreatDoorWjH
/- WordindexCrash, plain: the journal's value of an entry; its words are found again. -/
namespace Go.Proofs.YticfigfipbcmhaaGreatDoor
set_option linter.unusedVariables false
set_option linter.unusedSimpArgs false
/-- the words, each behind a space -/
def tailW (l : List ByteArray) : List UInt8 := l.flatMap fun x => 32 :: bl x
theorem tailW_snoc (l : List ByteArray) (x : ByteArray) : tailW (l ++ [x]) = tailW l ++ 32 :: bl x := by simp [tailW]
theorem tailW_len (l : List ByteArray) : (tailW l).length = wsum l := by
  induction l with
  | nil => rfl
  | cons x r ih =>
    have : (bl x).length = x.size := rfl
    unfold tailW at ih ⊢
    unfold wsum at ih ⊢
    rw [List.flatMap_cons, List.length_append, ih, List.map_cons, List.sum_cons, List.length_cons, this]
def encL (n : Nat) (l : List ByteArray) : List UInt8 := hx8 n ++ tailW l
def encV (e : Ie) : ByteArray := lb (encL e.2.1.toNat e.2.2)
theorem idx_byte (t : List UInt8) : ∀ x : List UInt8, (32 : UInt8) ∉ x → Lib.indexByte (x ++ 32 :: t) 32 = x.length
  | [], _ => by simp [Lib.indexByte]
  | b :: l, h => by
    have hb : ¬ b = 32 := fun e => h (by rw [e]; simp)
    have ih := idx_byte t l (fun hm => h (List.mem_cons_of_mem _ hm))
    rw [List.cons_append, Lib.indexByte, if_neg (by simpa using hb), ih, if_neg (by simp), List.length_cons]
    omega
theorem idx_none : ∀ x : List UInt8, (32 : UInt8) ∉ x → Lib.indexByte x 32 = -1
  | [], _ => rfl
  | b :: l, h => by
    have hb : ¬ b = 32 := fun e => h (by rw [e]; simp)
    rw [Lib.indexByte, if_neg (by simpa using hb), idx_none l (fun hm => h (List.mem_cons_of_mem _ hm))]
    rfl
theorem split_words : ∀ (r : List (List UInt8)) (x : List UInt8), (∀ y ∈ x :: r, (32 : UInt8) ∉ y) →
    Lib.splitK [32] 0 (Lib.count (x ++ r.flatMap (fun y => 32 :: y)) [32]) (x ++ r.flatMap (fun y => 32 :: y)) = x :: r
  | [], x, h => by
    have e : Lib.index x [32] = -1 := by rw [Lib.index_one]; exact idx_none x (h x (by simp))
    rw [List.flatMap_nil, List.append_nil, Lib.count_miss e]
    rfl
  | y :: r, x, h => by
    have e : Lib.index (x ++ 32 :: (y ++ r.flatMap (fun y => 32 :: y))) [32] = ((x.length : Nat) : Int) := by rw [Lib.index_one]; exact idx_byte _ x (h x (by simp))
    have ih := split_words r y (fun z hz => h z (by simp only [List.mem_cons] at hz ⊢; exact Or.inr hz))
    rw [List.flatMap_cons, List.cons_append, Lib.count_hit (by simp) e]
    have d : (x ++ 32 :: (y ++ r.flatMap (fun y => 32 :: y))).drop (x.length + ([32] : List UInt8).length) = y ++ r.flatMap (fun y => 32 :: y) := by
      rw [List.length_singleton, ← List.drop_drop, List.drop_left]
      rfl
    rw [d, Nat.add_comm 1, Lib.splitK, if_neg (by rw [e]; simp; try omega), e]
    have t : ((x.length : Nat) : Int).toNat = x.length := by omega
    rw [t, d, ih, Nat.add_zero, List.take_left]
theorem split_back (x : ByteArray) (r : List ByteArray) (hw : WsOk (x :: r)) (s : ByteArray) (hs : bl s = bl x ++ tailW r) :
    Lib.splitB ⟨#[32]⟩ 0 (Lib.countB s ⟨#[32]⟩) s = x :: r := by
  have hn : ∀ y ∈ bl x :: r.map bl, (32 : UInt8) ∉ y := by
    intro y hy hm
    rw [← List.map_cons, List.mem_map] at hy
    obtain ⟨z, hz, rfl⟩ := hy
    have := hw.isw z hz 32 hm
    rw [isW_space] at this
    cases this
  have h := split_words (r.map bl) (bl x) hn
  have e : bl x ++ (r.map bl).flatMap (fun y => 32 :: y) = s.data.toList := by
    show _ = bl s
    rw [hs]
    unfold tailW
    rw [List.flatMap_map]
  rw [e] at h
  have h2 := Lib.splitB_data ⟨#[32]⟩ 0 (Lib.countB s ⟨#[32]⟩) s
  rw [show (⟨#[32]⟩ : ByteArray).data.toList = [32] from rfl, show Lib.countB s ⟨#[32]⟩ = Lib.count s.data.toList [32] from rfl, h] at h2
  have h3 := congrArg (List.map lb) h2
  rw [List.map_map, List.map_cons, List.map_map] at h3
  rw [show (lb ∘ fun x : ByteArray => x.data.toList) = id from funext lb_bl, List.map_id, lb_bl, show lb ∘ bl = id from funext lb_bl, List.map_id] at h3
  exact h3
end Go.Proofs.YticfigfipbcmhaaGreatDoor
/- WordindexCrash: encode and Save. -/
namespace Go.Proofs.YticfigfipbcmhaaGreatDoor
open Go.RowKit Go.ChangeMaps Go.MapKept Go.Shelf
set_option linter.unusedVariables false
set_option linter.unusedSimpArgs false
theorem lb_app (a b : List UInt8) : lb a ++ lb b = lb (a ++ b) := bl_inj (by rw [bl_append, bl_lb, bl_lb, bl_lb])
theorem lb_size (l : List UInt8) : (lb l).size = l.length := by simp [lb, ByteArray.size]
theorem encL_snoc (n : Nat) (l : List ByteArray) (x : ByteArray) : lb (encL n l) ++ (⟨#[32]⟩ ++ x) = lb (encL n (l ++ [x])) := by
  refine bl_inj ?_
  rw [bl_append, bl_append, bl_lb, bl_lb, show bl ⟨#[32]⟩ = [32] from rfl]
  unfold encL
  rw [tailW_snoc]
  simp
set_option maxRecDepth 100000 in
theorem encode_any (p : Nat → Prop) (w : World) (nm : ByteArray) (s : Nat) (u : Value) (l : List ByteArray) (hs : s < 4294967296) (hl : StrsP p w u l) (hw : WsOk l) :
    Calls Tryz.prog 21 #[.agg #[.string nm, .int .u32 (s : Nat), u]] w fun e w' => e = .returned (.string (lb (encL s l))) ∧ Chg [] w w' := by
  obtain ⟨a, cap, rfl, hml, hcp⟩ := hl.shape
  have hsum := hw.sum
  have H := Lib.hid (hl.same ((Chg.refl [] w).alloc (.cells #[.string nm, .int .u32 (s : Nat), .slice a l.length cap] 40)))
  have Hx := Lib.hid (fun W => hex_any s W hs)
  unfold maxLen at hml
  clear hl
  obtain ⟨w1, hw1⟩ : ∃ q, q = w.alloc (.cells #[.string nm, .int .u32 (s : Nat), .slice a l.length cap] 40) := ⟨_, rfl⟩
  obtain ⟨n1, hn1⟩ : ∃ q, q = w.heap.size := ⟨_, rfl⟩
  have hb1 : w1.heap[n1]? = some (.cells #[.string nm, .int .u32 (s : Nat), .slice a l.length cap] 40 (0, 0)) := by rw [hw1, hn1]; exact heap_at _ _ _ rfl
  have hc1 : Chg [] w w1 := by rw [hw1]; exact (Chg.refl [] _).alloc _
  have y1 : w1.cell? ⟨n1, 1, none⟩ = some (.int .u32 (s : Nat)) := cell_of_heap hb1 rfl
  have l1 := lt_of_cell y1
  rw [← hw1] at H
  have HW := Lib.hid (And.intro hw1 hn1)
  have HB := Lib.hid (And.intro hb1 hc1)
  clear hw1 hn1 hb1 hc1
  go_enter Tryz.func21, Tryz.ntmps21
  go_upto_region 1 with (fail)
  rw [← HW.out.1, ← HW.out.2]
  go_wp2_with fail
  refine (Hx.out _).mono ?_
  rintro e w2 ⟨rfl, hc2⟩
  have y2 : w2.cell? ⟨n1, 2, none⟩ = some (.slice a l.length cap) := cell_of_heap ((hc2.block _ (lt_of_obj HB.out.1) (by simp)).trans HB.out.1) rfl
  have l2 := lt_of_cell y2
  have H2 := Lib.hid (And.intro (H.out.same hc2) (HB.out.2.trans hc2))
  clear hc2
  obtain ⟨t0, ht0⟩ : ∃ t, t = lb (hx8 s) := ⟨_, rfl⟩
  rw [← ht0]
  have Ht0 := Lib.hid ht0
  clear ht0
  go_wp2_with fail
  go_loopw [3, 12] (fun v i wr => ∃ (k : Nat) (t : ByteArray), k ≤ l.length ∧ i = .int .i64 (k : Nat) ∧ v = .string t ∧ Hid (t = lb (encL s (l.take k))) ∧ Hid (Chg [] w2 wr)) (fun _ i _ => l.length - (intOf i).toNat)
  case atStart => exact ⟨0, t0, by omega, rfl, rfl, Lib.hid (by rw [Ht0.out]; simp [encL, tailW]), Lib.hid (Chg.refl _ _)⟩
  case round =>
    obtain ⟨k, t, hk, rfl, rfl, Ht, HC⟩ := hrel
    by_cases hlt : k < l.length
    · obtain ⟨g, off, rfl, _, c0⟩ := (H2.out.1.same HC.out).cell k hlt
      obtain ⟨x, hx⟩ : ∃ x, l.getD k ⟨#[]⟩ = x := ⟨_, rfl⟩
      rw [hx] at c0
      have hx' : l[k] = x := by rw [← hx, List.getD_eq_getElem?_getD, List.getElem?_eq_getElem hlt]; rfl
      have lc := lt_of_cell c0
      have hk1 : (k : Int) < l.length := by omega
      have hk0 : (0 : Int) ≤ (k : Int) := by omega
      have htk : l.take (k + 1) = l.take k ++ [x] := by rw [List.take_succ_eq_append_getElem hlt, hx']
      have hsz : t.size + (x.size + 1) ≤ 3000 := by
        have h1 := wsum_take_le l (k + 1)
        have h2 := wsum_take l k hlt
        rw [hx'] at h2
        have h3 : t.size = 8 + wsum (l.take k) := by rw [Ht.out, lb_size]; unfold encL; rw [List.length_append, hx8_len, tailW_len]
        omega
      have hx1 : (⟨#[32]⟩ ++ x : ByteArray).size = 1 + x.size := by rw [ByteArray.size_append]; rfl
      have Htk := Lib.hid htk
      have ht9 : ¬ (9223372036854775807 : Int) < ((⟨#[32]⟩ : ByteArray).size + x.size : Nat) := by have : (⟨#[32]⟩ : ByteArray).size = 1 := rfl; omega
      have ht8 : ¬ (9223372036854775807 : Int) < ((t.size + (⟨#[32]⟩ ++ x : ByteArray).size : Nat) : Int) := by omega
      clear hx hx' htk
      go_wp2_with fail
      refine ⟨⟨k + 1, t ++ (⟨#[32]⟩ ++ x), by omega, by go_num, rfl, Lib.hid ?_, HC⟩, by simp [intOf]; omega⟩
      rw [Ht.out, encL_snoc, Htk.out]
    · have hk1 : ¬ ((k : Int) < l.length) := by omega
      have hkl : k = l.length := by omega
      have Hkl := Lib.hid hkl
      clear hkl
      go_wp2_with fail
      go_ret
      exact ⟨by rw [Ht.out, Hkl.out, List.take_length]; rfl, H2.out.2.trans HC.out⟩
/-- the journal's record of an entry -/
def recI (x : Ie) : J.Rec := ⟨x.1, encV x, false⟩
theorem recI_ok {x : Ie} (h1 : 0 < x.1.size) (h2 : x.1.size ≤ 60) (hw : WsOk x.2.2) : (recI x).ok := by
  unfold J.Rec.ok J.Rec.err recI
  have e1 : ¬ x.1.data.toList = [] := fun e => by
    have : x.1.data.toList.length = x.1.size := rfl
    rw [e] at this
    simp at this
    omega
  have e2 : (encV x).size ≤ 3000 := by
    unfold encV encL
    rw [lb_size, List.length_append, hx8_len, tailW_len]
    have := hw.sum
    omega
  rw [if_neg (by rintro (h | ⟨h, _⟩); exact e1 h; cases h), if_neg (by show ¬ (60 < x.1.size ∨ 3000 < (encV x).size); omega)]
set_option maxRecDepth 100000 in
set_option maxHeartbeats 4000000 in
theorem save_any (p q : Nat → Prop) (w : World) (v : Value) (I : List Ie) (h : IxP p q w v I) (hok : IxOk I) (hs : ∀ x ∈ I, ∃ n : Nat, x.2.1 = (n : Int) ∧ n < 4294967296) (hlen : (J.logOf (I.map recI)).length ≤ 40000) :
    Calls Tryz.prog 7 #[v] w fun e w' => e = .returned (.tuple #[.string (J.bs (J.logOf (I.map recI))), .int .i64 0]) ∧ Chg [] w w' := by
  obtain ⟨a, cap, rfl, hml, hcp⟩ := h.shape
  have H := Lib.hid h
  have Hok := Lib.hid hok
  have HS := Lib.hid hs
  have HL := Lib.hid hlen
  have HR : Hid (∀ r ∈ I.map recI, r.ok) := Lib.hid (by
    intro r hr
    obtain ⟨x, hx, rfl⟩ := List.mem_map.1 hr
    have := hok.ok x hx
    exact recI_ok this.1 this.2.1 this.2.2)
  have hl4 : (I.length : Int) ≤ 20 := by have := hok.len; omega
  unfold maxLen at hml
  clear h hok hs hlen
  go_enter Tryz.func7, Tryz.ntmps7
  go_wp2_with fail
  refine (valid_any p q _ _ I H.out Hok.out).mono ?_
  rintro e w1 ⟨rfl, hc1⟩
  have H1 := Lib.hid hc1
  clear hc1
  go_wp2_with fail
  go_loopw [4, 13] (fun v i wr => ∃ (k : Nat) (t : ByteArray), k ≤ I.length ∧ i = .int .i64 (k : Nat) ∧ v = .string t ∧ Hid (t = J.bs (J.logOf ((I.map recI).take k))) ∧ Hid (Chg [] w wr)) (fun _ i _ => I.length - (intOf i).toNat)
  case atStart => exact ⟨0, _, by omega, rfl, rfl, Lib.hid rfl, H1⟩
  case round =>
    obtain ⟨k, t, hk, rfl, rfl, Ht, HC⟩ := hrel
    by_cases hlt : k < I.length
    · obtain ⟨g, off, rfl, _, q0, q1, ua, uc, q2, q3⟩ := (H.out.same HC.out).cells k hlt
      have hge := getD_eqI hlt
      have hmem : I[k] ∈ I := List.getElem_mem hlt
      obtain ⟨x, hx⟩ : ∃ x, I.getD k ie0 = x := ⟨_, rfl⟩
      have hx' : I[k] = x := by rw [← hge, hx]
      rw [hx'] at hmem
      obtain ⟨n, hn, hn4⟩ := HS.out x hmem
      have hxo := Hok.out.ok x hmem
      rw [hx] at q0 q1 q2 q3
      obtain ⟨x1, x2, x3⟩ := x
      simp only at q0 q1 q2 q3 hn hxo
      subst hn
      have lg := lt_of_cell q0
      have hk1 : (k : Int) < I.length := by omega
      have hk0 : (0 : Int) ≤ (k : Int) := by omega
      obtain ⟨w2, hw2⟩ : ∃ q, q = wr.alloc (.cells #[.string x1, .int .u32 (n : Nat), .slice ua x3.length uc] 40) := ⟨_, rfl⟩
      obtain ⟨n2, hn2⟩ : ∃ q, q = wr.heap.size := ⟨_, rfl⟩
      have hc2 : Chg [] wr w2 := by rw [hw2]; exact (Chg.refl [] _).alloc _
      have hb2 : w2.heap[n2]? = some (.cells #[.string x1, .int .u32 (n : Nat), .slice ua x3.length uc] 40 (0, 0)) := by rw [hw2, hn2]; exact heap_at _ _ _ rfl
      have d0 : w2.cell? ⟨n2, 0, none⟩ = some (.string x1) := cell_of_heap hb2 rfl
      have d1 : w2.cell? ⟨n2, 1, none⟩ = some (.int .u32 (n : Nat)) := cell_of_heap hb2 rfl
      have d2 : w2.cell? ⟨n2, 2, none⟩ = some (.slice ua x3.length uc) := cell_of_heap hb2 rfl
      have ld := lt_of_cell d0
      have HW2 := Lib.hid (And.intro hw2 hn2)
      have Hc2 := Lib.hid (HC.out.trans hc2)
      have HE := Lib.hid (fun W (hW : Chg [] w2 W) => encode_any q W x1 n _ x3 hn4 ((q3.same hc2).same hW) hxo.2.2)
      obtain ⟨t', ht'⟩ : ∃ t', t' = J.bs (J.logOf ((I.map recI).take (k + 1))) := ⟨_, rfl⟩
      have HA : Hid (∀ W, Calls Tryz.prog 20 #[.string t, .agg #[.string x1, .string (lb (encL n x3)), .bool false]] W fun e w' => e = .returned (.tuple #[.string t', .int .i64 0]) ∧ Chg [] W w') := Lib.hid (fun W => by
        have hkl : k < (I.map recI).length := by simpa using hlt
        have hts : t.size ≤ 100000 := by
          rw [Ht.out, J.bs_size]
          have := congrArg List.length (J.logOf_take (I.map recI) k)
          rw [List.length_append] at this
          have := HL.out
          omega
        have h1 := J.append_any t (recI (x1, (n : Int), x3)) W hts
        have h2 := J.append_next HR.out hkl HL.out
        have h3 : (I.map recI).getD k J.Rec.zero = recI (x1, (n : Int), x3) := by
          rw [List.getD_eq_getElem?_getD, List.getElem?_eq_getElem hkl, Option.getD_some, List.getElem_map, hx']
        rw [h3] at h2
        rw [show t.data.toList = J.logOf ((I.map recI).take k) by rw [Ht.out]; rfl, h2, ← ht'] at h1
        exact h1)
      have Ht' := Lib.hid ht'
      clear hx hx' hge hmem hxo hn4 hc2 hb2 q3 hw2 hn2 ht'
      go_upto_region 8 with (fail)
      rw [← HW2.out.1, ← HW2.out.2]
      clear q0 q1 q2
      go_region_held3 (fun W => W.cell? ⟨n2, 0, none⟩ = some (.string x1) ∧ W.cell? ⟨n2, 1, none⟩ = some (.int .u32 (n : Nat)) ∧ W.cell? ⟨n2, 2, none⟩ = some (.slice ua x3.length uc))
        (first | (go_keep; done) | (exact ⟨r0, r1, r2⟩) | (exact ⟨s0, s1, s2⟩))
        (first
          | (go_at_call 21; (with_reducible refine (HE.out _ (Chg.refl [] _).drew).mono ?_); rintro e wA ⟨rfl, hcA⟩; have hcA' := (Chg.refl [] w2).drew.trans hcA; have r0 := (hcA'.cell ld (by simp)).trans d0; have r1 := (hcA'.cell (p := ⟨n2, 1, none⟩) ld (by simp)).trans d1; have r2 := (hcA'.cell (p := ⟨n2, 2, none⟩) ld (by simp)).trans d2; have lA := lt_of_cell r0; have HcA := Lib.hid hcA'; clear hcA hcA')
          | (go_at_call 20; (with_reducible refine (HA.out _).mono ?_); rintro e wB ⟨rfl, hcB⟩; have s0 := (hcB.cell lA (by simp)).trans r0; have s1 := (hcB.cell (p := ⟨n2, 1, none⟩) lA (by simp)).trans r1; have s2 := (hcB.cell (p := ⟨n2, 2, none⟩) lA (by simp)).trans r2; have HcB := Lib.hid (HcA.out.trans hcB); clear hcB))
      all_goals
        go_wp2_with fail
        exact ⟨⟨k + 1, t', by omega, by go_num, rfl, Ht', Lib.hid (Hc2.out.trans HcB.out)⟩, by simp [intOf]; omega⟩
    · have hk1 : ¬ ((k : Int) < I.length) := by omega
      have hkl : k = I.length := by omega
      have Hkl := Lib.hid hkl
      clear hkl
      go_wp2_with fail
      go_ret2
      refine ⟨?_, HC.out⟩
      rw [Ht.out, Hkl.out, List.take_of_length_le (by simp)]
      rfl
end Go.Proofs.YticfigfipbcmhaaGreatDoor
