/- File events in memory; validKind, Merge, validate. -/
import Derived.Test.YtdekngkcojfhmaaFwPlain
import Derived.Test.YtdekngkcojfhmaaMem
import Derived.Test.YtdekngkcojfhmaaStill
import Derived.Test.YtdekngkcojfhmaaProg
import Derived.Shelf.Small.Wraps
namespace Go.Proofs.Ytdekngkcojfhmaa
open Go.RowKit Go.ChangeMaps Go.MapKept Go.Lib Go.Shelf
set_option linter.unusedVariables false
set_option linter.unusedSimpArgs false
/-- an event's three cells -/
def rdEv (w : World) (ad : Addr) (e : FEv) : Prop := w.cell? ad = some (.int .i64 e.1) ∧ w.cell? ⟨ad.block, ad.off + 1, none⟩ = some (.string e.2.1) ∧ w.cell? ⟨ad.block, ad.off + 2, none⟩ = some (.int .i64 e.2.2)
theorem rdEv.kept {S : Nat → Prop} {w w' : World} {ad : Addr} {x : FEv} (h : rdEv w ad x) (hc : ChgP S w w') (hS : ¬ S ad.block) : rdEv w' ad x := by
  have l := lt_of_cell h.1
  exact ⟨(hc.cell l hS).trans h.1, (hc.cell (p := ⟨ad.block, ad.off + 1, none⟩) l hS).trans h.2.1, (hc.cell (p := ⟨ad.block, ad.off + 2, none⟩) l hS).trans h.2.2⟩
def EvsP (p : Nat → Prop) (w : World) (v : Value) (xs : List FEv) : Prop := SlR p 3 rdEv w v xs
theorem EvsP.kept {p S : Nat → Prop} {w w' : World} {v : Value} {xs : List FEv} (h : EvsP p w v xs) (hc : ChgP S w w') (hS : ∀ k, p k → ¬ S k) : EvsP p w' v xs :=
  SlR.imp h (fun _ h => h) fun ad x hp hx => hx.kept hc (hS _ hp)
theorem EvsP.imp {p q : Nat → Prop} {w : World} {v : Value} {xs : List FEv} (h : EvsP p w v xs) (hp : ∀ g, p g → q g) : EvsP q w v xs := SlR.imp h hp fun _ _ _ h => h
/-- with a frame that names no old block, every slice lives on -/
theorem EvsP.same {p : Nat → Prop} {w w' : World} {v : Value} {xs : List FEv} (h : EvsP p w v xs) (hc : Chg [] w w') : EvsP p w' v xs :=
  EvsP.kept h (hc.p (S := fun _ => False)) fun _ _ h => h
def ev0 : FEv := (0, ⟨#[]⟩, 0)
def evV (e : FEv) : Value := .agg #[.int .i64 e.1, .string e.2.1, .int .i64 e.2.2]
def evO (e : FEv) : Obj := .cells #[.int .i64 e.1, .string e.2.1, .int .i64 e.2.2] 33
def evCells (xs : List FEv) : List Value := xs.flatMap fun e => [.int .i64 e.1, .string e.2.1, .int .i64 e.2.2]
theorem evCells_len (xs : List FEv) : (evCells xs).length = xs.length * 3 := by
  induction xs with
  | nil => rfl
  | cons x r ih => simp [evCells, List.flatMap_cons] at ih ⊢; omega
theorem evCells_snoc (xs : List FEv) (e : FEv) : evCells (xs ++ [e]) = evCells xs ++ [.int .i64 e.1, .string e.2.1, .int .i64 e.2.2] := by simp [evCells, List.flatMap_append]
theorem evCells_append (xs ys : List FEv) : evCells (xs ++ ys) = evCells xs ++ evCells ys := by simp [evCells, List.flatMap_append]
theorem evCells_get (xs : List FEv) (j : Nat) (h : j < xs.length) : (evCells xs)[j * 3]? = some (.int .i64 xs[j].1) ∧ (evCells xs)[j * 3 + 1]? = some (.string xs[j].2.1) ∧ (evCells xs)[j * 3 + 2]? = some (.int .i64 xs[j].2.2) := by
  induction xs generalizing j with
  | nil => simp at h
  | cons x r ih =>
    cases j with
    | zero => simp [evCells, List.flatMap_cons]
    | succ j =>
      have := ih j (by simpa using h)
      simp only [evCells, List.flatMap_cons] at this ⊢
      rw [show (j + 1) * 3 = j * 3 + 3 by omega, show j * 3 + 3 + 1 = j * 3 + 1 + 3 by omega, show j * 3 + 3 + 2 = j * 3 + 2 + 3 by omega]
      simpa using this
/-- events of the call's own -/
def OwnEv (w : World) (base : Nat) (v : Value) (xs : List FEv) : Prop := w.ownsRow base 33 3 v xs.length (evCells xs)
theorem OwnEv.nil (w : World) (base : Nat) : OwnEv w base (.slice none 0 0) [] := ⟨rfl, .inl ⟨rfl, rfl⟩⟩
theorem OwnEv.evs {w : World} {base : Nat} {v : Value} {xs : List FEv} (h : OwnEv w base v xs) : EvsP (fun g => base ≤ g ∧ g < w.heap.size ∧ v.ownBlock = some g) w v xs := by
  obtain ⟨a, cap, rfl⟩ := ownsRow_shape h
  rcases h.2 with ⟨hv, hx⟩ | ⟨g, cap', cur', hv, hge, hh, h3, h4, h5, h6⟩
  · have hk : xs = [] := List.eq_nil_of_length_eq_zero hx
    subst hk
    simp only [List.length_nil, Value.slice.injEq] at hv
    obtain ⟨rfl, _, rfl⟩ := hv
    exact SlR.nil _ _ _ _
  · cases hv
    refine ⟨_, cap, rfl, by omega, by omega, fun _ => ⟨g, 0, rfl, ⟨hge, lt_of_obj hh, rfl⟩, fun j hj => ?_⟩⟩
    obtain ⟨e0, e1, e2⟩ := evCells_get xs j hj
    have hc : ∀ k u, (evCells xs)[k]? = some u → w.cell? ⟨g, k, none⟩ = some u := by
      intro k u hk
      have := World.ownsRow.cells h (g := g) rfl k u hk
      rwa [Addr.add_lit, Nat.zero_add] at this
    unfold rdEv
    rw [Nat.zero_add]
    exact ⟨hc _ _ e0, hc _ _ e1, hc _ _ e2⟩
theorem OwnEv.kept {w w' : World} {base : Nat} {v : Value} {xs : List FEv} {S : Nat → Prop} (h : OwnEv w base v xs) (hc : ChgP S w w') (hS : ∀ g, v.ownBlock = some g → ¬ S g) : OwnEv w' base v xs :=
  ownsRow_kept h fun g hg hl => hc.block g hl (hS g hg)
theorem OwnEv.same {w w' : World} {base : Nat} {v : Value} {xs : List FEv} (h : OwnEv w base v xs) (hc : Chg [] w w') : OwnEv w' base v xs := h.kept (hc.p (S := fun _ => False)) fun _ _ h => h
theorem EvsP.shape {p : Nat → Prop} {w : World} {v : Value} {xs : List FEv} (h : EvsP p w v xs) : ∃ a cap, v = .slice a xs.length cap ∧ xs.length ≤ maxLen ∧ xs.length ≤ cap := SlR.shape h
/-- the cells of the i-th event -/
theorem EvsP.cells {p : Nat → Prop} {w : World} {a : Option Addr} {n cap : Nat} {xs : List FEv} (h : EvsP p w (.slice a n cap) xs) (i : Nat) (hi : i < xs.length) :
    ∃ g off, a = some ⟨g, off, none⟩ ∧ p g ∧ w.cell? ⟨g, off + i * 3, none⟩ = some (.int .i64 (xs.getD i ev0).1) ∧ w.cell? ⟨g, off + i * 3 + 1, none⟩ = some (.string (xs.getD i ev0).2.1) ∧ w.cell? ⟨g, off + i * 3 + 2, none⟩ = some (.int .i64 (xs.getD i ev0).2.2) := by
  obtain ⟨g, off, rfl, hp, h1, h2, h3⟩ := SlR.at h i hi ev0
  exact ⟨g, off, rfl, hp, h1, h2, h3⟩
set_option maxHeartbeats 1000000 in
theorem validKind_any (k : Int) (w : World) : Calls Try.prog 21 #[.int .i64 k] w fun e w' => e = .returned (.bool (vk k)) ∧ w' = w := by
  go_enter Try.func21, Try.ntmps21
  by_cases h1 : 1 ≤ k
  · by_cases h3 : k ≤ 3
    · have hv : vk k = true := by unfold vk; simp [h1, h3]
      go_wp2_with fail
      go_ret
      exact ⟨by first | rfl | (rw [hv]; rfl), rfl⟩
    · have hv : vk k = false := by unfold vk; simp [h3]
      go_wp2_with fail
      go_ret
      exact ⟨by first | rfl | (rw [hv]; rfl), rfl⟩
  · have hv : vk k = false := by unfold vk; simp [h1]
    go_wp2_with fail
    go_ret
    exact ⟨by first | rfl | (rw [hv]; rfl), rfl⟩
set_option maxHeartbeats 2000000 in
theorem merge_any (a b : Int) (w : World) : Calls Try.prog 27 #[.int .i64 a, .int .i64 b] w fun e w' => e = .returned (.int .i64 (mrg a b)) ∧ w' = w := by
  have HV := fun k w => Lib.hid (validKind_any k w)
  go_enter Try.func27, Try.ntmps27
  cases ha : vk a with
  | false =>
    cases hb : vk b with
    | false =>
      have hm : mrg a b = 0 := by unfold mrg; simp [ha, hb]
      go_wp2_with (fail)
      refine (HV _ _).out.mono ?_
      rw [ha]
      rintro e w' ⟨rfl, rfl⟩
      go_wp2_with (fail)
      refine (HV _ _).out.mono ?_
      rw [hb]
      rintro e w' ⟨rfl, rfl⟩
      go_wp2_with (fail)
      go_ret
      exact ⟨by first | rfl | (rw [hm]; rfl), rfl⟩
    | true =>
      have hm : mrg a b = b := by unfold mrg; simp [ha, hb]
      go_wp2_with (fail)
      refine (HV _ _).out.mono ?_
      rw [ha]
      rintro e w' ⟨rfl, rfl⟩
      go_wp2_with (fail)
      refine (HV _ _).out.mono ?_
      rw [hb]
      rintro e w' ⟨rfl, rfl⟩
      go_wp2_with (fail)
      refine (HV _ _).out.mono ?_
      rw [hb]
      rintro e w' ⟨rfl, rfl⟩
      go_wp2_with (fail)
      refine (HV _ _).out.mono ?_
      rw [ha]
      rintro e w' ⟨rfl, rfl⟩
      go_wp2_with (fail)
      go_ret
      exact ⟨by first | rfl | (rw [hm]; rfl), rfl⟩
  | true =>
    cases hb : vk b with
    | false =>
      have hm : mrg a b = a := by unfold mrg; simp [ha, hb]
      go_wp2_with (fail)
      refine (HV _ _).out.mono ?_
      rw [ha]
      rintro e w' ⟨rfl, rfl⟩
      go_wp2_with (fail)
      refine (HV _ _).out.mono ?_
      rw [hb]
      rintro e w' ⟨rfl, rfl⟩
      go_wp2_with (fail)
      go_ret
      exact ⟨by first | rfl | (rw [hm]; rfl), rfl⟩
    | true =>
      go_wp2_with (fail)
      refine (HV _ _).out.mono ?_
      rw [ha]
      rintro e w' ⟨rfl, rfl⟩
      go_wp2_with (fail)
      refine (HV _ _).out.mono ?_
      rw [hb]
      rintro e w' ⟨rfl, rfl⟩
      go_wp2_with (fail)
      refine (HV _ _).out.mono ?_
      rw [ha]
      rintro e w' ⟨rfl, rfl⟩
      by_cases a1 : a = 1
      · by_cases b3 : b = 3
        · have hm : mrg a b = 0 := by unfold mrg; simp [ha, hb, a1, b3, show vk 1 = true from rfl, show vk 3 = true from rfl]
          have e1 : (a == 1) = true := by simp [a1]
          have e2 : (b == 3) = true := by simp [b3]
          go_wp2_with (fail)
          go_ret
          exact ⟨by first | rfl | (rw [hm]; rfl), rfl⟩
        · have hm : mrg a b = 1 := by unfold mrg; simp [ha, hb, a1, b3, show vk 1 = true from rfl, show vk 3 = true from rfl]
          have e1 : (a == 1) = true := by simp [a1]
          have e2 : (b == 3) = false := by simp [b3]
          go_wp2_with (fail)
          go_ret
          exact ⟨by first | rfl | (rw [hm]; rfl), rfl⟩
      · have e1 : (a == 1) = false := by simp [a1]
        by_cases b3 : b = 3
        · have hm : mrg a b = 3 := by unfold mrg; simp [ha, hb, a1, b3, show vk 1 = true from rfl, show vk 3 = true from rfl]
          have e2 : (b == 3) = true := by simp [b3]
          go_wp2_with (fail)
          go_ret
          exact ⟨by first | rfl | (rw [hm]; rfl), rfl⟩
        · have hm : mrg a b = 2 := by unfold mrg; simp [ha, hb, a1, b3, show vk 1 = true from rfl, show vk 3 = true from rfl]
          have e2 : (b == 3) = false := by simp [b3]
          go_wp2_with (fail)
          go_ret
          exact ⟨by first | rfl | (rw [hm]; rfl), rfl⟩
end Go.Proofs.Ytdekngkcojfhmaa
