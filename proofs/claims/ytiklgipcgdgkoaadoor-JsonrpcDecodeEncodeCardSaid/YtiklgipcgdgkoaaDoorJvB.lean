/- JSON values: hasDuplicates. -/
import Derived.Test.YtiklgipcgdgkoaaDoorJvA
namespace Go.Proofs.YtiklgipcgdgkoaaDoor.Jv
open Go.RowKit Go.ChangeMaps Go.MapKept
set_option linter.unusedVariables false
set_option linter.unusedSimpArgs false
def sk (s : ByteArray) : Value := .string s
theorem skInj (x y : ByteArray) (h : sk x = sk y) : x = y := by unfold sk at h; simpa using h
theorem skOk (s : ByteArray) (h : s.size ≤ maxLen) : KeyOk Tryd.prog 9 (sk s) := by
  unfold KeyOk sk
  simp [keyOf, Tryd.underlying9, mapKey]
  exact h
theorem skeyed : Go.Maps.Keyed Tryd.prog 9 := Go.Maps.string_keyed Tryd.underlying9
theorem zeroInt (w : World) : (zeroValue 3).run Tryd.prog w = .ok (.int .i64 0) w := by
  have h : (Tryd.prog.info? 3).map (fun i => (i.zero, i.size, i.bytes)) = some (some (.int .i64 0), 1, 8) := by kernel_rfl
  obtain ⟨i0, hi, hz0, hz1, hz2⟩ := info_parts h
  simp [zeroValue, typeInfo, hi, hz0]
def mE (l : List ByteArray) : List (ByteArray × Value) := l.map fun s => (s, .int .i64 1)
theorem mE_in {l : List ByteArray} {s : ByteArray} (h : s ∈ l) : aget (mE l) s = some (.int .i64 1) := by
  unfold mE
  induction l with
  | nil => cases h
  | cons a l ih =>
    simp only [List.map_cons, aget_cons]
    by_cases h1 : a = s
    · rw [if_pos h1]
    · rw [if_neg h1]
      exact ih ((List.mem_cons.1 h).resolve_left fun e => h1 e.symm)
theorem mE_no {l : List ByteArray} {s : ByteArray} (h : s ∉ l) : aget (mE l) s = none := by
  unfold mE
  induction l with
  | nil => rfl
  | cons a l ih =>
    simp only [List.map_cons, aget_cons]
    rw [if_neg (fun e => h (by simp [e])), ih (fun hm => h (by simp [hm]))]
theorem mE_ups (l : List ByteArray) (s : ByteArray) (h : s ∉ l) : ups (mE l) s (.int .i64 1) = mE (l ++ [s]) := by
  unfold mE
  induction l with
  | nil => rfl
  | cons a l ih =>
    have h1 : ¬ a = s := fun e => h (by simp [e])
    simp only [List.map_cons, List.cons_append, ups]
    rw [if_neg h1, ih (fun hm => h (by simp [hm]))]
theorem nodup_snoc {l : List ByteArray} {s : ByteArray} (h : l.Nodup) (hs : s ∉ l) : (l ++ [s]).Nodup := by
  rw [List.nodup_append]
  exact ⟨h, by simp, fun a ha b hb e => hs (by rw [List.mem_singleton.1 hb] at e; exact e ▸ ha)⟩
set_option maxRecDepth 100000 in
set_option maxHeartbeats 4000000 in
theorem dups_any (p : Nat → Prop) (w : World) (nv : Value) (l : List ByteArray) (h : SlR p 1 rdS w nv l) :
    Calls Tryd.prog 84 #[nv] w fun e w' => e = .returned (.bool (decide (¬ l.Nodup))) ∧ Chg [] w w' := by
  obtain ⟨a, cap, rfl, hl1, hl2, _⟩ := (show SlR p 1 rdS w nv l from h)
  obtain ⟨w1, hw1⟩ : ∃ x, x = w.alloc (.map #[] 0) := ⟨_, rfl⟩
  have hc1 : Chg [] w w1 := by rw [hw1]; exact (Chg.refl [] w).alloc _
  have hm1 : MapAt Tryd.prog 9 sk w1 w.heap.size (mE (l.take 0)) := by rw [hw1]; exact MapAt.made _ _ _ _
  have Hc1 := Lib.hid hc1
  have Hm1 := Lib.hid hm1
  have H := Lib.hid h
  unfold maxLen at hl2
  clear hc1 hm1 h
  have hmk := @run_makeMap Tryd.prog
  go_enter Tryd.func84, Tryd.ntmps84
  go_wp2_with fail
  rw [← hw1]
  clear hw1
  go_loopw [9] (fun jj wr => ∃ k : Nat, k ≤ l.length ∧ jj = .int .i64 (k : Nat) ∧ MapAt Tryd.prog 9 sk wr w.heap.size (mE (l.take k)) ∧ Chg [] w wr ∧ (l.take k).Nodup) (fun jj _ => l.length - (intOf jj).toNat)
  case atStart => exact ⟨0, by omega, rfl, Hm1.out, Hc1.out, by simp⟩
  case round =>
    obtain ⟨k, hk, rfl, hm, hc, hnd⟩ := hrel
    by_cases hlt : k < l.length
    · have hk1 : (k : Int) < l.length := by omega
      obtain ⟨g, off, rfl, hp, c0, hsz⟩ := SlR.at (strs_kept (S := fun _ => False) H.out hc.p (fun _ _ h => h)) k hlt ⟨#[]⟩
      have htk : l.take (k + 1) = l.take k ++ [l.getD k ⟨#[]⟩] := by rw [List.take_add_one, List.getElem?_eq_getElem hlt, List.getD_eq_getElem?_getD, List.getElem?_eq_getElem hlt]; rfl
      obtain ⟨x, hx⟩ : ∃ x, l.getD k ⟨#[]⟩ = x := ⟨_, rfl⟩
      rw [hx] at c0 hsz htk
      rw [Nat.mul_one] at c0
      have hlk := hm.lookup skeyed skInj Tryd.underlying148 (skOk x hsz) (zeroInt wr) false
      unfold sk at hlk
      by_cases hin : x ∈ l.take k
      · rw [mE_in hin] at hlk
        have Hdup := Lib.hid (show ¬ l.Nodup from fun hn => by
          have h2 : (l.take (k + 1)).Nodup := hn.sublist (List.take_sublist _ _)
          rw [htk, List.nodup_append] at h2
          exact h2.2.2 x hin x (by simp) rfl)
        have Hc := Lib.hid hc
        simp only [Option.getD_some, Bool.false_eq_true, if_false] at hlk
        clear hm hc hnd hin htk hx hsz
        go_wp2_with fail
        go_ret
        exact ⟨by rw [decide_eq_true Hdup.out]; rfl, Hc.out⟩
      · rw [mE_no hin] at hlk
        obtain ⟨o, hup, hmu⟩ := hm.update skeyed skInj Tryd.underlying148 (skOk x hsz) (.int .i64 1)
        rw [mE_ups _ _ hin, ← htk] at hmu
        unfold sk at hup
        have HN := Lib.hid (And.intro hmu (And.intro (hc.setBlock (b := w.heap.size) (Or.inr (Nat.le_refl _)) o) (show (l.take (k + 1)).Nodup by rw [htk]; exact nodup_snoc hnd hin)))
        simp only [Option.getD_none, Bool.false_eq_true, if_false] at hlk
        clear hmu hm hc hnd hin htk hx hsz
        go_wp2_with fail
        exact ⟨⟨k + 1, by omega, by go_num, HN.out.1, HN.out.2.1, HN.out.2.2⟩, by simp [intOf]; omega⟩
    · obtain rfl : k = l.length := by omega
      rw [List.take_length] at hnd
      have Hnd := Lib.hid (And.intro hnd hc)
      clear hm hc hnd
      go_wp2_with fail
      go_ret
      exact ⟨by rw [decide_eq_false (by simp [Hnd.out.1])]; rfl, Hnd.out.2⟩
end Go.Proofs.YtiklgipcgdgkoaaDoor.Jv
