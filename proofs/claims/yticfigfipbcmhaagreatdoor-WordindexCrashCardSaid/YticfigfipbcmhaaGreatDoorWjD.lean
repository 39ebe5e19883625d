/- Contracts of the journal's scan, Read, Recover, and the laws' helpers: written, R.Equal, journalExample, Mod. -/
import Derived.Test.YticfigfipbcmhaaGreatDoorWjC
namespace Go.Proofs.YticfigfipbcmhaaGreatDoor.J
open Go.RowKit
theorem Tryz.infoRec : (Tryz.prog.info? 54 ).map (fun i => (i.zero, i.size, i.bytes)) = some (some (.agg #[.string ⟨#[]⟩, .string ⟨#[]⟩, .bool false]), 3, 40) := by kernel_rfl
def recVals (rs : List Rec) : List Value := rs.flatMap fun r => [.string r.key, .string r.val, .bool r.del]
theorem recVals_length (rs : List Rec) : (recVals rs).length = rs.length * 3 := by
  induction rs with
  | nil => rfl
  | cons r rs ih => simp only [recVals, List.flatMap_cons, List.length_append, List.length_cons] at ih ⊢; simp only [List.length_nil]; omega
theorem recVals_snoc (rs : List Rec) (r : Rec) : recVals (rs ++ [r]) = recVals rs ++ [.string r.key, .string r.val, .bool r.del] := by simp [recVals]
/-- the slice v of the call's own reads as the records rs -/
def OwnRecs (w : World) (base : Nat) (v : Value) (rs : List Rec) : Prop := w.ownsRow base 54 3 v rs.length (recVals rs)
theorem OwnRecs.nil (w : World) (base : Nat) : OwnRecs w base (.slice none 0 0) [] := World.ownsRow_nil _ _ _ _
theorem ownsRow_kept {w w' : World} {base : Nat} {e : TypeId} {size : Nat} {v : Value} {n : Nat} {xs : List Value} {T : List Nat} (h : w.ownsRow base e size v n xs) (hc : Chg T w w') (hT : ∀ g, base ≤ g → g ∉ T) : w'.ownsRow base e size v n xs := by
  refine ⟨h.1, ?_⟩
  rcases h.2 with hn | ⟨g, cap, cur, rfl, hb, hgg, rest⟩
  · exact .inl hn
  · exact .inr ⟨g, cap, cur, rfl, hb, (hc.block g (lt_of_obj hgg) (hT g hb)).trans hgg, rest⟩
theorem OwnRecs.same {w w' : World} {base : Nat} {v : Value} {rs : List Rec} (h : OwnRecs w base v rs) (hc : Chg [] w w') : OwnRecs w' base v rs := ownsRow_kept h hc (by simp)
theorem own_chg {w w1 : World} {v : Value} {base k size : Nat} {e : TypeId} {cs : List Value} (hv : w.ownsRow base e size v k cs) (hg : w.grownBy w1 v.ownBlock) : Chg v.ownBlock.toList w w1 ∧ ∀ g ∈ v.ownBlock.toList, base ≤ g := by
  refine ⟨(Chg.refl _ w).grown hg (fun j hj => Or.inl (by simp [hj])), fun g hg' => ?_⟩
  rcases hv.2 with ⟨rfl, _⟩ | ⟨g', cap, cur, rfl, hb, hgg, _⟩
  · simp [Value.ownBlock] at hg'
  · simp [Value.ownBlock] at hg'
    subst hg'
    exact hb
theorem news_of {w : World} {g : Nat} {c : Array Value} {E : TypeId} {fr : Nat × Nat} (h : w.heap[g]? = some (.cells c E fr)) : ∀ j u, c.toList[j]? = some u → w.cell? ((⟨g, 0, none⟩ : Addr).add j) = some u := fun j u hu => by
  rw [Addr.add_lit, Nat.zero_add]
  exact cell_of_heap h (by simpa using hu)
/-- scan's loop: what has been read, and what is still to come -/
def ScanRel (s : ByteArray) (w : World) (v k : Value) (wr : World) : Prop := ∃ (rs : List Rec) (n : Nat), n ≤ s.size ∧ rs.length ≤ n ∧ k = .int .i64 (n : Nat) ∧ OwnRecs wr w.heap.size v rs ∧ Chg [] w wr ∧
  scanL s.data.toList = (rs ++ (scanL (s.data.toList.drop n)).1, n + (scanL (s.data.toList.drop n)).2.1, (scanL (s.data.toList.drop n)).2.2)
def ScanPost (s : ByteArray) (w : World) (e : Ending) (w' : World) : Prop :=
  Chg [] w w' ∧ ∃ v, e = .returned (.tuple #[v, .int .i64 (scanL s.data.toList).2.1, .int .i64 (scanL s.data.toList).2.2]) ∧ OwnRecs w' w.heap.size v (scanL s.data.toList).1
set_option maxRecDepth 100000 in
set_option maxHeartbeats 2000000 in
theorem scan_any (s : ByteArray) (w : World) (hs : s.size ≤ 100000) : Calls Tryz.prog 42 #[.string s] w (ScanPost s w) := by
  obtain ⟨i0, hi, hz0, hz1, hz2⟩ := info_parts Tryz.infoRec
  have Hi0 := Lib.hid hi
  have Hz0 := Lib.hid hz0
  have Hz1 := Lib.hid hz1
  have Hz2 := Lib.hid hz2
  clear hi hz0 hz1 hz2
  have hsl : s.data.toList.length = s.size := Array.length_toList
  have Hsl := Lib.hid hsl
  clear hsl
  go_enter Tryz.func42, Tryz.ntmps42
  go_wp2
  go_loopw [2, 3] (fun v k wr => ScanRel s w v k wr) (fun _ k _ => s.size - (intOf k).toNat)
  case atStart => exact ⟨[], 0, by omega, by simp, rfl, OwnRecs.nil _ _, Chg.refl _ _, by simp⟩
  case round =>
    obtain ⟨rs, n, hn, hrn, rfl, hown, hcw, hsc⟩ := hrel
    have Hown := Lib.hid hown
    have Hsc := Lib.hid hsc
    clear hown hsc
    go_wp2_with fail
    refine (next_any _ _ (by simp; omega)).mono ?_
    rintro e w1 ⟨c1, rfl⟩
    have hdr : (s.extract n s.size).data.toList = s.data.toList.drop n := by
      rw [Lib.extract_data, List.take_of_length_le]
      rw [List.length_drop, Hsl.out]
      omega
    rw [hdr]
    clear hdr
    have hst := scanL_step (s.data.toList.drop n)
    have hms : (nextL (s.data.toList.drop n)).2.1 ≤ s.size - n := by
      have := nextL_size (s.data.toList.drop n)
      rw [List.length_drop, Hsl.out] at this
      exact this
    generalize nextL (s.data.toList.drop n) = q at hst hms ⊢
    obtain ⟨⟨key, val, del⟩, m, er⟩ := q
    simp only at hst hms
    simp only [Rec.vals]
    have hown1 := Hown.out.same c1
    have hcw1 := hcw.new c1
    by_cases hm : m = 0
    · subst hm
      rw [if_pos rfl] at hst
      have hsc := Hsc.out
      rw [hst] at hsc
      have Hsc2 := Lib.hid hsc
      have Hown1 := Lib.hid hown1
      clear hsc hst hown1
      go_wp2
      go_ret3
      refine ⟨hcw1.alloc _, u2, ?_, ?_⟩
      · rw [Hsc2.out]; rfl
      · rw [Hsc2.out, List.append_nil]
        exact Hown1.out.same ((Chg.refl [] _).alloc _)
    · rw [if_neg hm] at hst
      have hsc := Hsc.out
      rw [hst, List.drop_drop] at hsc
      have hm0 : ((m : Int) == 0) = false := by simpa using hm
      have hsc2 : scanL s.data.toList = ((rs ++ [⟨key, val, del⟩]) ++ (scanL (s.data.toList.drop (n + m))).1, (n + m : Nat) + (scanL (s.data.toList.drop (n + m))).2.1, (scanL (s.data.toList.drop (n + m))).2.2) := by
        rw [hsc]; simp; omega
      have Hsc2 := Lib.hid hsc2
      have Hown1 := Lib.hid hown1
      have hm1 : 1 ≤ m := by omega
      clear hsc hst hown1 hsc2 hm
      have hzw : w.heap.size ≤ w1.heap.size := hcw1.size
      go_wp2_with (at_builtin; refine wpList_append_own _ rfl _ _ 55 rfl w.heap.size 54 i0 (.agg #[.string ⟨#[]⟩, .string ⟨#[]⟩, .bool false]) 3 40 Tryz.underlying55 Hi0.out Hz0.out Hz1.out Hz2.out rfl (by decide) u2 rs.length (recVals rs) rfl ((World.ownsRow.alloc Hown1.out _).alloc _) ⟨w1.heap.size + 1, 0, none⟩ 1 1 [.string key, .string val, .bool del] rfl rfl (news_of (heap_at _ _ _ (by simp))) (by simp [Value.oneCell']) (by unfold maxLen; omega) (by omega) (by simp; omega) ?_; intro v8 w8 hown8 hgr8 _)
      have hap := own_chg ((World.ownsRow.alloc Hown1.out (.cells #[.string key, .string val, .bool del] 54)).alloc (.cells #[.string key, .string val, .bool del] 54)) hgr8
      have hcw8 : Chg [] w w8 := ((hcw1.alloc _).alloc _).comp hap.1 (fun g hg => Or.inr (hap.2 g hg))
      have hO : OwnRecs w8 w.heap.size v8 (rs ++ [⟨key, val, del⟩]) := by
        unfold OwnRecs
        rw [recVals_snoc, List.length_append]
        exact hown8
      have HO := Lib.hid hO
      clear hown8 hgr8 hap hO
      go_wp2
      exact ⟨⟨rs ++ [⟨key, val, del⟩], n + m, by omega, by simp; omega, by go_num, HO.out, hcw8, Hsc2.out⟩, by simp [intOf]; omega⟩
def RecoverPost (s : ByteArray) (w : World) (e : Ending) (w' : World) : Prop :=
  Chg [] w w' ∧ ∃ v, e = .returned (.tuple #[.string (bs (s.data.toList.take (scanL s.data.toList).2.1)), v]) ∧ OwnRecs w' w.heap.size v (scanL s.data.toList).1
theorem scanF_size (n : Nat) : ∀ l : List UInt8, (scanF n l).2.1 ≤ l.length := by
  induction n with
  | zero => intro l; simp [scanF]
  | succ n ih =>
    intro l
    have hs := nextL_size l
    unfold scanF
    split
    · simp
    · have := ih (l.drop (nextL l).2.1)
      simp only [List.length_drop] at this ⊢
      omega
theorem scanL_size (l : List UInt8) : (scanL l).2.1 ≤ l.length := scanF_size _ _
set_option maxRecDepth 100000 in
set_option maxHeartbeats 2000000 in
theorem recover_any (s : ByteArray) (w : World) (hs : s.size ≤ 40000) : Calls Tryz.prog 22 #[.string s] w (RecoverPost s w) := by
  have hs1 : s.size ≤ 100000 := by omega
  have hsz := scanL_size s.data.toList
  rw [Array.length_toList] at hsz
  obtain ⟨⟨rs, m, er⟩, hq⟩ : ∃ q, scanL s.data.toList = q := ⟨_, rfl⟩
  rw [hq] at hsz
  have hmz : m ≤ s.size := hsz
  have Hq := Lib.hid hq
  clear hq hsz
  go_enter Tryz.func22, Tryz.ntmps22
  go_wp2_with fail
  refine (scan_any s _ hs1).mono ?_
  rintro e w1 ⟨c1, v, rfl, ho⟩
  rw [Hq.out] at ho ⊢
  simp only at ho ⊢
  have Ho := Lib.hid ho
  clear ho
  go_wp2
  go_ret2
  refine ⟨c1, v, ?_, by rw [Hq.out]; exact Ho.out⟩
  rw [Hq.out, show s.extract 0 m = bs (s.data.toList.take m) from eq_bs (by rw [Lib.extract_data]; simp)]
  rfl
end Go.Proofs.YticfigfipbcmhaaGreatDoor.J
