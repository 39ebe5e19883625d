/- The document's named: documents with distinct names. -/
import Derived.Test.YticfigfipbcmhaaGreatDoorWiS
namespace Go.Proofs.YticfigfipbcmhaaGreatDoor
open Go.RowKit Go.ChangeMaps Go.MapKept Go.Shelf
set_option linter.unusedVariables false
set_option linter.unusedSimpArgs false
def digits : ByteArray := ⟨#[48, 49, 50, 51, 52, 53, 54, 55, 56, 57]⟩
def dec (n : Nat) : ByteArray := digits.extract n (n + 1)
set_option maxHeartbeats 1000000 in
theorem decimal_any (n : Nat) (w : World) (hn : n < 10) : Calls Tryz.prog 14 #[.int .i64 (n : Nat)] w fun e w' => e = .returned (.string (dec n)) ∧ w' = w := by
  have h1 : ¬ ((n : Int) < 0) := by omega
  have h2 : (n : Int) < 10 := by omega
  have h3 : (0 : Int) ≤ (n : Int) := by omega
  have h4 : (n : Int) ≤ (n : Int) + 1 := by omega
  have h5 : (n : Int) + 1 ≤ 10 := by omega
  have h6 : ((n : Int) + 1).toNat = n + 1 := by omega
  go_enter Tryz.func14, Tryz.ntmps14
  go_wp2_with fail
  go_ret
  exact ⟨by rfl, rfl⟩
/-- documents of the call's own -/
def encD (d : Dc) : List Value := [.string d.1, .int .i64 d.2.1, .string d.2.2]
def dcCells (l : List Dc) : List Value := l.flatMap encD
theorem dcCells_len (l : List Dc) : (dcCells l).length = l.length * 3 := by
  induction l with
  | nil => rfl
  | cons x r ih =>
    have : dcCells (x :: r) = encD x ++ dcCells r := by simp [dcCells]
    rw [this, List.length_append, ih]
    simp only [encD, List.length_cons, List.length_nil]
    omega
theorem dcCells_append (l m : List Dc) : dcCells (l ++ m) = dcCells l ++ dcCells m := by simp [dcCells, List.flatMap_append]
theorem dcCells_one (e : Dc) : dcCells [e] = encD e := by simp [dcCells]
theorem dcCells_oneCell (l : List Dc) : ∀ u ∈ dcCells l, u.oneCell' = true := by
  intro u hu
  simp only [dcCells, encD, List.mem_flatMap, List.mem_cons, List.not_mem_nil, or_false] at hu
  obtain ⟨e, _, h | h | h⟩ := hu <;> subst h <;> rfl
theorem dcCells_get (xs : List Dc) : ∀ (j : Nat) (h : j < xs.length) (c : Nat) (hc : c < 3), (dcCells xs)[j * 3 + c]? = (encD xs[j])[c]? := by
  induction xs with
  | nil => intro j h; simp at h
  | cons x r ih =>
    intro j h c hc
    have e : dcCells (x :: r) = encD x ++ dcCells r := by simp [dcCells]
    rw [e]
    cases j with
    | zero => rw [List.getElem?_append_left (by simp [encD]; omega)]; simp
    | succ j =>
      have h' := ih j (by simpa using h) c hc
      rw [List.getElem?_append_right (by simp [encD]; omega)]
      have : (j + 1) * 3 + c - (encD x).length = j * 3 + c := by simp only [encD, List.length_cons, List.length_nil]; omega
      rw [this, h']
      simp
def OwnD (w : World) (base : Nat) (v : Value) (l : List Dc) : Prop := w.ownsRow base 34 3 v l.length (dcCells l)
theorem OwnD.nil (w : World) (base : Nat) : OwnD w base (.slice none 0 0) [] := ⟨rfl, .inl ⟨rfl, rfl⟩⟩
theorem OwnD.kept {w w' : World} {base : Nat} {v : Value} {xs : List Dc} {S : Nat → Prop} (h : OwnD w base v xs) (hc : ChgP S w w') (hS : ∀ g, v.ownBlock = some g → ¬ S g) : OwnD w' base v xs :=
  ownsRow_kept h fun g hg hl => hc.block g hl (hS g hg)
theorem OwnD.same {w w' : World} {base : Nat} {v : Value} {xs : List Dc} (h : OwnD w base v xs) (hc : Chg [] w w') : OwnD w' base v xs := h.kept (hc.p (S := fun _ => False)) fun _ _ h => h
theorem OwnD.read {w : World} {base : Nat} {v : Value} {l : List Dc} (h : OwnD w base v l) : DcP (fun g => base ≤ g ∧ g < w.heap.size ∧ v.ownBlock = some g) w v l := by
  obtain ⟨a, cap, rfl⟩ := ownsRow_shape h
  rcases h.2 with ⟨hv, hx⟩ | ⟨g, cap', cur', hv, hge, hh, h3, h4, h5, h6⟩
  · have hk : l = [] := List.eq_nil_of_length_eq_zero hx
    subst hk
    simp only [List.length_nil, Value.slice.injEq] at hv
    obtain ⟨rfl, _, rfl⟩ := hv
    exact SlR.nil _ _ _ _
  · cases hv
    refine ⟨_, cap, rfl, by omega, by omega, fun _ => ⟨g, 0, rfl, ⟨hge, lt_of_obj hh, rfl⟩, fun j hj => ?_⟩⟩
    have hcell : ∀ d u, (encD l[j])[d]? = some u → d < 3 → w.cell? ⟨g, 0 + j * 3 + d, none⟩ = some u := by
      intro d u hu hd
      rw [← dcCells_get l j hj d hd] at hu
      have := World.ownsRow.cells h (g := g) rfl _ _ hu
      rw [Addr.add_lit] at this
      rw [show 0 + j * 3 + d = 0 + (j * 3 + d) by omega]
      exact this
    exact ⟨hcell 0 _ rfl (by decide), hcell 1 _ rfl (by decide), hcell 2 _ rfl (by decide)⟩
theorem infoDc : (Tryz.prog.info? 34).map (fun i => (i.zero, i.size, i.bytes)) = some (some (.agg #[.string ⟨#[]⟩, .int .i64 0, .string ⟨#[]⟩]), 3, 40) := by kernel_rfl
theorem run_append_doc (w : World) (ty : TypeId) (B : Nat) (v : Value) (l : List Dc) (e : Dc) (n : Nat) (hv : OwnD w B v l) (hb : w.heap[n]? = some (.cells #[.string e.1, .int .i64 e.2.1, .string e.2.2] 34 (0, 0))) (hlen : l.length ≤ 1000) (hB : B ≤ w.heap.size) :
    ∃ v' w', (Builtin.append_ #[24, 24] ty #[v, .slice (some ⟨n, 0, none⟩) 1 1]).run Tryz.prog w = .ok v' w' ∧ OwnD w' B v' (l ++ [e]) ∧ Chg v.ownBlock.toList w w' := by
  obtain ⟨i0, hi, hz0, hz1, hz2⟩ := info_parts infoDc
  obtain ⟨v', w', hr, h2, h3, _, h5⟩ := run_append_own_at (P := Tryz.prog) w B 24 ty 34 i0 (.agg #[.string ⟨#[]⟩, .int .i64 0, .string ⟨#[]⟩]) 3 40 Tryz.underlying24 hi hz0 hz1 hz2 rfl (by decide) v l.length (dcCells l) hv ⟨n, 0, none⟩ 1 1 (encD e) rfl (fun j u hj => by
    rw [Addr.add_lit, Nat.zero_add]
    refine cell_of_heap hb ?_
    match j with
    | 0 => simpa [encD] using hj
    | 1 => simpa [encD] using hj
    | 2 => simpa [encD] using hj
    | j + 3 => simp [encD] at hj) (fun u hu => dcCells_oneCell [e] u (by rw [dcCells_one]; exact hu)) (by unfold maxLen; omega) (by omega) hB
  refine ⟨v', w', hr, ?_, (Chg.refl _ w).grown h3 (by intro k hk; left; simp [hk])⟩
  unfold OwnD
  rw [dcCells_append, dcCells_one, List.length_append]
  exact h2
end Go.Proofs.YticfigfipbcmhaaGreatDoor
