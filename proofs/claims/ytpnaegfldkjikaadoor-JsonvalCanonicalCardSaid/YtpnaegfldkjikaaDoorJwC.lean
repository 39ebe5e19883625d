/- JSON texts: a value. -/
import Derived.Test.YtpnaegfldkjikaaDoorJwB
namespace Go.Proofs.YtpnaegfldkjikaaDoor.Jv
open Go.RowKit Go.ChangeMaps Go.MapKept
set_option linter.unusedVariables false
set_option linter.unusedSimpArgs false
theorem wf_parts {u : ByteArray → Bool} {k n : Int} {t : ByteArray} {ns : List ByteArray} {len : Nat} (h : wf u k n t ns len = true) :
    ((if k = 2 then -9007199254740991 else 0) ≤ n ∧ n ≤ (if k = 1 then 1 else if k = 2 then 9007199254740991 else 0)) ∧ (t ≠ ⟨#[]⟩ → k = 3) ∧ (0 < len → k = 4 ∨ k = 5) ∧ (k = 5 → ns.length = len ∧ ns.Nodup) ∧ (k ≠ 5 → ns = []) ∧ u t = true ∧ ∀ s ∈ ns, u s = true := by
  unfold wf at h
  simp only [Bool.and_eq_true, decide_eq_true_eq, List.all_eq_true] at h
  obtain ⟨⟨⟨⟨⟨⟨h1, h2⟩, h3⟩, h4⟩, h5⟩, h6⟩, h7⟩ := h
  exact ⟨h1, h2, h3, h4, h5, h6, h7⟩
/-- the contract of 'value', spaces ahead -/
def VWs (db : Nat) (s : ByteArray) (f : Nat) (j : J) : Prop := ∀ (w : World) (o0 o : Nat) (r : List UInt8), DS w db s o0 → (o0 ≤ s.size ∧ skip (s.data.toList.drop o0) = s.data.toList.drop o) → Tb w → s.data.toList.drop o = j.enc ++ r → (peekL r < 48 ∨ 57 < peekL r) → Calls Tryd.prog 25 #[.pointer (some ⟨db, 0, none⟩)] w (VPost db s (o + j.enc.length) f j w)
theorem VWs.ok {db f : Nat} {s : ByteArray} {j : J} (h : VWs db s f j) : VOk db s f j := fun w o r hd hT hr hrd => by
  obtain ⟨c, l, h1, h2, _⟩ := enc_head j
  have h3 : s.data.toList.drop o = c :: (l ++ r) := by rw [hr, h1]; rfl
  have hp := (peek_cons h3).2.1
  exact h w o o r hd ⟨by omega, by rw [h3, skip, h2]; rfl⟩ hT hr hrd
theorem value_ws (db : Nat) (s : ByteArray) (hs : s.size ≤ 100000) (hTd : Tryd.laysValid_ren.g 3 ≠ db ∧ Tryd.laysValid_ren.g 4 ≠ db) : ∀ (j : J) (f : Nat), Sm j → j.depth ≤ f → VWs db s f j := by
  refine J.ind fun k n t ns es ih f hj hd w o0 o r h hsk hT hr hrd => ?_
  obtain ⟨h1, hw, h3⟩ := vd_zero.1 hj.1
  obtain ⟨hn, ht, hl, h5, h5', hu, hus⟩ := wf_parts hw
  rw [J.depth] at hd
  have hlen := hj.len
  rcases (by omega : k = 0 ∨ k = 1 ∨ k = 2 ∨ k = 3 ∨ k = 4 ∨ k = 5) with rfl | rfl | rfl | rfl | rfl | rfl
  · obtain rfl : es = [] := List.eq_nil_of_length_eq_zero (by omega)
    obtain rfl : ns = [] := h5' (by decide)
    obtain rfl : t = ⟨#[]⟩ := Decidable.byContradiction fun h => by have := ht h; omega
    obtain rfl : n = 0 := by simp at hn; omega
    exact val_null db f s hs w o0 o r h hsk hr
  · obtain rfl : es = [] := List.eq_nil_of_length_eq_zero (by omega)
    obtain rfl : ns = [] := h5' (by decide)
    obtain rfl : t = ⟨#[]⟩ := Decidable.byContradiction fun h => by have := ht h; omega
    have hn2 : n = 0 ∨ n = 1 := by simp at hn; omega
    rcases hn2 with rfl | rfl
    · exact val_false db f s hs w o0 o r h hsk hr
    · exact val_true db f s hs w o0 o r h hsk hr
  · obtain rfl : es = [] := List.eq_nil_of_length_eq_zero (by omega)
    obtain rfl : ns = [] := h5' (by decide)
    obtain rfl : t = ⟨#[]⟩ := Decidable.byContradiction fun h => by have := ht h; omega
    exact val_num db f s hs n (by simp at hn; omega) (by simp at hn; omega) w o0 o r h hsk hr hrd
  · obtain rfl : es = [] := List.eq_nil_of_length_eq_zero (by omega)
    obtain rfl : ns = [] := h5' (by decide)
    obtain rfl : n = 0 := by simp at hn; omega
    exact val_text db f s t hs hTd hu w o0 o r h hsk hT hr
  · obtain rfl : ns = [] := h5' (by decide)
    obtain rfl : t = ⟨#[]⟩ := Decidable.byContradiction fun h => by have := ht h; omega
    obtain rfl : n = 0 := by simp at hn; omega
    obtain ⟨f', rfl⟩ : ∃ f', f = f' + 1 := ⟨f - 1, by omega⟩
    have he : (J.mk 4 0 ⟨#[]⟩ [] es).enc = 91 :: (encL 4 0 [] es ++ [93]) := rfl
    rw [he] at hr ⊢
    have hx := val_arr db f' s hs [] es rfl (by simp) hlen.2 (fun e hm => ih e hm f' (hj.elem hm) (by have := depthL_mem hm; omega) |>.ok) hTd w o0 o r h hsk hT (by rw [hr]; simp)
    rw [show o + (91 :: (encL 4 0 [] es ++ [93])).length = o + 1 + (encL 4 0 [] es).length + 1 by simp; omega]
    exact hx
  · obtain rfl : t = ⟨#[]⟩ := Decidable.byContradiction fun h => by have := ht h; omega
    obtain rfl : n = 0 := by simp at hn; omega
    obtain ⟨f', rfl⟩ : ∃ f', f = f' + 1 := ⟨f - 1, by omega⟩
    have he : (J.mk 5 0 ⟨#[]⟩ ns es).enc = 123 :: (encL 5 0 ns es ++ [125]) := rfl
    rw [he] at hr ⊢
    have hx := val_obj db f' s hs ns es (h5 rfl) hus hlen.2 (fun e hm => ih e hm f' (hj.elem hm) (by have := depthL_mem hm; omega) |>.ok) hTd w o0 o r h hsk hT (by rw [hr]; simp)
    rw [show o + (123 :: (encL 5 0 ns es ++ [125])).length = o + 1 + (encL 5 0 ns es).length + 1 by simp; omega]
    exact hx
theorem value_yes (db : Nat) (s : ByteArray) (hs : s.size ≤ 100000) (hTd : Tryd.laysValid_ren.g 3 ≠ db ∧ Tryd.laysValid_ren.g 4 ≠ db) (j : J) (f : Nat) (hj : Sm j) (hd : j.depth ≤ f) : VOk db s f j := (value_ws db s hs hTd j f hj hd).ok
#print axioms value_yes
end Go.Proofs.YtpnaegfldkjikaaDoor.Jv
