/- Part of the proof of topCrashedLaw_holds. -/
import Derived.Shelf.Small.Wraps
import Derived.Test.YtjlknaahpjiibaaGreatDoorProg
import Derived.Test.YtjlknaahpjiibaaGreatDoorQaa
import Derived.Test.YtjlknaahpjiibaaGreatDoorQab
import Derived.Test.YtjlknaahpjiibaaGreatDoorQae
namespace Go.Proofs.YtjlknaahpjiibaaGreatDoor.F
open Go.RowKit Go.ChangeMaps Go.MapKept Go.Lib Go.Shelf
set_option linter.unusedVariables false
set_option linter.unusedSimpArgs false
def rdEv (w : World) (ad : Addr) (e : FEv) : Prop := w.cell? ad = some (.int .i64 e.1) ∧ w.cell? ⟨ad.block, ad.off + 1, none⟩ = some (.string e.2.1) ∧ w.cell? ⟨ad.block, ad.off + 2, none⟩ = some (.int .i64 e.2.2)
theorem rdEv.kept {S : Nat → Prop} {w w' : World} {ad : Addr} {x : FEv} (h : rdEv w ad x) (hc : ChgP S w w') (hS : ¬ S ad.block) : rdEv w' ad x := by
 have l := lt_of_cell h.1
 exact ⟨(hc.cell l hS).trans h.1, (hc.cell (p := ⟨ad.block, ad.off + 1, none⟩) l hS).trans h.2.1, (hc.cell (p := ⟨ad.block, ad.off + 2, none⟩) l hS).trans h.2.2⟩
def EvsP (p : Nat → Prop) (w : World) (v : Value) (xs : List FEv) : Prop := SlR p 3 rdEv w v xs
theorem EvsP.kept {p S : Nat → Prop} {w w' : World} {v : Value} {xs : List FEv} (h : EvsP p w v xs) (hc : ChgP S w w') (hS : ∀ k, p k → ¬ S k) : EvsP p w' v xs :=
 SlR.imp h (fun _ h => h) fun ad x hp hx => hx.kept hc (hS _ hp)
theorem EvsP.imp {p q : Nat → Prop} {w : World} {v : Value} {xs : List FEv} (h : EvsP p w v xs) (hp : ∀ g, p g → q g) : EvsP q w v xs := SlR.imp h hp fun _ _ _ h => h
theorem EvsP.same {p : Nat → Prop} {w w' : World} {v : Value} {xs : List FEv} (h : EvsP p w v xs) (hc : Chg [] w w') : EvsP p w' v xs :=
 EvsP.kept h (hc.p (S := fun _ => False)) fun _ _ h => h
def ev0 : FEv := (0, ⟨#[]⟩, 0)
def evV (e : FEv) : Value := .agg #[.int .i64 e.1, .string e.2.1, .int .i64 e.2.2]
def evCells (xs : List FEv) : List Value := xs.flatMap fun e => [.int .i64 e.1, .string e.2.1, .int .i64 e.2.2]
theorem evCells_snoc (xs : List FEv) (e : FEv) : evCells (xs ++ [e]) = evCells xs ++ [.int .i64 e.1, .string e.2.1, .int .i64 e.2.2] := by simp [evCells, List.flatMap_append]
theorem evCells_append (xs ys : List FEv) : evCells (xs ++ ys) = evCells xs ++ evCells ys := by simp [evCells, List.flatMap_append]
theorem evCells_get (xs : List FEv) (j : Nat) (h : j < xs.length) : (evCells xs)[j * 3]? = some (.int .i64 xs[j].1) ∧ (evCells xs)[j * 3 + 1]? = some (.string xs[j].2.1) ∧ (evCells xs)[j * 3 + 2]? = some (.int .i64 xs[j].2.2) := by
 induction xs generalizing j with
 | nil => simp at h
 | cons x r ih =>
   cases j with
   | zero => simp [evCells, List.flatMap_cons]
   | succ j =>
     have := ih j (by simpa using h)
     simp only [evCells, List.flatMap_cons] at this ⊢
     rw [show (j + 1) * 3 = j * 3 + 3 by omega, show j * 3 + 3 + 1 = j * 3 + 1 + 3 by omega, show j * 3 + 3 + 2 = j * 3 + 2 + 3 by omega]
     simpa using this
def OwnEv (w : World) (base : Nat) (v : Value) (xs : List FEv) : Prop := w.ownsRow base 36 3 v xs.length (evCells xs)
theorem OwnEv.nil (w : World) (base : Nat) : OwnEv w base (.slice none 0 0) [] := ⟨rfl, .inl ⟨rfl, rfl⟩⟩
theorem OwnEv.evs {w : World} {base : Nat} {v : Value} {xs : List FEv} (h : OwnEv w base v xs) : EvsP (fun g => base ≤ g ∧ g < w.heap.size ∧ v.ownBlock = some g) w v xs := by
 obtain ⟨a, cap, rfl⟩ := ownsRow_shape h
 rcases h.2 with ⟨hv, hx⟩ | ⟨g, cap', cur', hv, hge, hh, h3, h4, h5, h6⟩
 · have hk : xs = [] := List.eq_nil_of_length_eq_zero hx
   subst hk
   simp only [List.length_nil, Value.slice.injEq] at hv
   obtain ⟨rfl, _, rfl⟩ := hv
   exact SlR.nil _ _ _ _
 · cases hv
   refine ⟨_, cap, rfl, by omega, by omega, fun _ => ⟨g, 0, rfl, ⟨hge, lt_of_obj hh, rfl⟩, fun j hj => ?_⟩⟩
   obtain ⟨e0, e1, e2⟩ := evCells_get xs j hj
   have hc : ∀ k u, (evCells xs)[k]? = some u → w.cell? ⟨g, k, none⟩ = some u := by
    intro k u hk
    have := World.ownsRow.cells h (g := g) rfl k u hk
    rwa [Addr.add_lit, Nat.zero_add] at this
   unfold rdEv
   rw [Nat.zero_add]
   exact ⟨hc _ _ e0, hc _ _ e1, hc _ _ e2⟩
theorem OwnEv.kept {w w' : World} {base : Nat} {v : Value} {xs : List FEv} {S : Nat → Prop} (h : OwnEv w base v xs) (hc : ChgP S w w') (hS : ∀ g, v.ownBlock = some g → ¬ S g) : OwnEv w' base v xs :=
 ownsRow_kept h fun g hg hl => hc.block g hl (hS g hg)
theorem OwnEv.same {w w' : World} {base : Nat} {v : Value} {xs : List FEv} (h : OwnEv w base v xs) (hc : Chg [] w w') : OwnEv w' base v xs := h.kept (hc.p (S := fun _ => False)) fun _ _ h => h
theorem EvsP.shape {p : Nat → Prop} {w : World} {v : Value} {xs : List FEv} (h : EvsP p w v xs) : ∃ a cap, v = .slice a xs.length cap ∧ xs.length ≤ maxLen ∧ xs.length ≤ cap := SlR.shape h
theorem EvsP.cells {p : Nat → Prop} {w : World} {a : Option Addr} {n cap : Nat} {xs : List FEv} (h : EvsP p w (.slice a n cap) xs) (i : Nat) (hi : i < xs.length) :
 ∃ g off, a = some ⟨g, off, none⟩ ∧ p g ∧ w.cell? ⟨g, off + i * 3, none⟩ = some (.int .i64 (xs.getD i ev0).1) ∧ w.cell? ⟨g, off + i * 3 + 1, none⟩ = some (.string (xs.getD i ev0).2.1) ∧ w.cell? ⟨g, off + i * 3 + 2, none⟩ = some (.int .i64 (xs.getD i ev0).2.2) := by
 obtain ⟨g, off, rfl, hp, h1, h2, h3⟩ := SlR.at h i hi ev0
 exact ⟨g, off, rfl, hp, h1, h2, h3⟩
set_option maxHeartbeats 1000000 in
theorem validKind_any (k : Int) (w : World) : Calls Tryz.prog 30 #[.int .i64 k] w fun e w' => e = .returned (.bool (vk k)) ∧ w' = w := by
 go_enter Tryz.func30, Tryz.ntmps30
 by_cases h1 : 1 ≤ k
 · by_cases h3 : k ≤ 3
   · have hv : vk k = true := by unfold vk; simp [h1, h3]
     go_wp2_with fail
     go_ret
     exact ⟨by first | rfl | (rw [hv]; rfl), rfl⟩
   · have hv : vk k = false := by unfold vk; simp [h3]
     go_wp2_with fail
     go_ret
     exact ⟨by first | rfl | (rw [hv]; rfl), rfl⟩
 · have hv : vk k = false := by unfold vk; simp [h1]
   go_wp2_with fail
   go_ret
   exact ⟨by first | rfl | (rw [hv]; rfl), rfl⟩
set_option maxHeartbeats 2000000 in
theorem merge_any (a b : Int) (w : World) : Calls Tryz.prog 63 #[.int .i64 a, .int .i64 b] w fun e w' => e = .returned (.int .i64 (mrg a b)) ∧ w' = w := by
 have HV := fun k w => Lib.hid (validKind_any k w)
 go_enter Tryz.func63, Tryz.ntmps63
 cases ha : vk a with
 | false =>
   cases hb : vk b with
   | false =>
     have hm : mrg a b = 0 := by unfold mrg; simp [ha, hb]
     go_wp2_with (fail)
     refine (HV _ _).out.mono ?_
     rw [ha]
     rintro e w' ⟨rfl, rfl⟩
     go_wp2_with (fail)
     refine (HV _ _).out.mono ?_
     rw [hb]
     rintro e w' ⟨rfl, rfl⟩
     go_wp2_with (fail)
     go_ret
     exact ⟨by first | rfl | (rw [hm]; rfl), rfl⟩
   | true =>
     have hm : mrg a b = b := by unfold mrg; simp [ha, hb]
     go_wp2_with (fail)
     refine (HV _ _).out.mono ?_
     rw [ha]
     rintro e w' ⟨rfl, rfl⟩
     go_wp2_with (fail)
     refine (HV _ _).out.mono ?_
     rw [hb]
     rintro e w' ⟨rfl, rfl⟩
     go_wp2_with (fail)
     refine (HV _ _).out.mono ?_
     rw [hb]
     rintro e w' ⟨rfl, rfl⟩
     go_wp2_with (fail)
     refine (HV _ _).out.mono ?_
     rw [ha]
     rintro e w' ⟨rfl, rfl⟩
     go_wp2_with (fail)
     go_ret
     exact ⟨by first | rfl | (rw [hm]; rfl), rfl⟩
 | true =>
   cases hb : vk b with
   | false =>
     have hm : mrg a b = a := by unfold mrg; simp [ha, hb]
     go_wp2_with (fail)
     refine (HV _ _).out.mono ?_
     rw [ha]
     rintro e w' ⟨rfl, rfl⟩
     go_wp2_with (fail)
     refine (HV _ _).out.mono ?_
     rw [hb]
     rintro e w' ⟨rfl, rfl⟩
     go_wp2_with (fail)
     go_ret
     exact ⟨by first | rfl | (rw [hm]; rfl), rfl⟩
   | true =>
     go_wp2_with (fail)
     refine (HV _ _).out.mono ?_
     rw [ha]
     rintro e w' ⟨rfl, rfl⟩
     go_wp2_with (fail)
     refine (HV _ _).out.mono ?_
     rw [hb]
     rintro e w' ⟨rfl, rfl⟩
     go_wp2_with (fail)
     refine (HV _ _).out.mono ?_
     rw [ha]
     rintro e w' ⟨rfl, rfl⟩
     by_cases a1 : a = 1
     · by_cases b3 : b = 3
       · have hm : mrg a b = 0 := by unfold mrg; simp [ha, hb, a1, b3, show vk 1 = true from rfl, show vk 3 = true from rfl]
         have e1 : (a == 1) = true := by simp [a1]
         have e2 : (b == 3) = true := by simp [b3]
         go_wp2_with (fail)
         go_ret
         exact ⟨by first | rfl | (rw [hm]; rfl), rfl⟩
       · have hm : mrg a b = 1 := by unfold mrg; simp [ha, hb, a1, b3, show vk 1 = true from rfl, show vk 3 = true from rfl]
         have e1 : (a == 1) = true := by simp [a1]
         have e2 : (b == 3) = false := by simp [b3]
         go_wp2_with (fail)
         go_ret
         exact ⟨by first | rfl | (rw [hm]; rfl), rfl⟩
     · have e1 : (a == 1) = false := by simp [a1]
       by_cases b3 : b = 3
       · have hm : mrg a b = 3 := by unfold mrg; simp [ha, hb, a1, b3, show vk 1 = true from rfl, show vk 3 = true from rfl]
         have e2 : (b == 3) = true := by simp [b3]
         go_wp2_with (fail)
         go_ret
         exact ⟨by first | rfl | (rw [hm]; rfl), rfl⟩
       · have hm : mrg a b = 2 := by unfold mrg; simp [ha, hb, a1, b3, show vk 1 = true from rfl, show vk 3 = true from rfl]
         have e2 : (b == 3) = false := by simp [b3]
         go_wp2_with (fail)
         go_ret
         exact ⟨by first | rfl | (rw [hm]; rfl), rfl⟩
end Go.Proofs.YtjlknaahpjiibaaGreatDoor.F
namespace Go.Proofs.YtjlknaahpjiibaaGreatDoor.F
open Go.RowKit Go.ChangeMaps Go.MapKept Go.Shelf
set_option linter.unusedVariables false
set_option linter.unusedSimpArgs false
theorem valid1_any (e : FEv) (w : World) (h : vk e.2.2 = true) : Calls Tryz.prog 62 #[evV e] w fun x w' => x = .returned (.bool false) ∧ Chg [] w w' := by
 obtain ⟨t, p, k⟩ := e
 have HV := fun w => Lib.hid (validKind_any k w)
 have Hk := Lib.hid (show vk k = true from h)
 clear h
 unfold evV
 go_enter Tryz.func62, Tryz.ntmps62
 go_wp2_with fail
 refine (HV _).out.mono ?_
 rintro e w1 ⟨rfl, rfl⟩
 rw [Hk.out]
 go_wp2_with fail
 go_ret
 exact ⟨rfl, (Chg.refl [] w).alloc _⟩
structure EvOk (E : List FEv) : Prop where
 len : E.length ≤ 1000
 kind : ∀ e ∈ E, vk e.2.2 = true
 time : ∀ e ∈ E, 0 ≤ e.1 ∧ e.1 ≤ 1000000000000
 ord : E.Pairwise fun a b => a.1 ≤ b.1
 path : ∀ e ∈ E, e.2.1.size ≤ maxLen
theorem getD_memE {E : List FEv} {k : Nat} (h : k < E.length) : E.getD k ev0 ∈ E := by
 rw [List.getD_eq_getElem?_getD, List.getElem?_eq_getElem h]
 simp
set_option maxHeartbeats 2000000 in
theorem idxV_any (p : Nat → Prop) (w : World) (v : Value) (E : List FEv) (h : EvsP p w v E) (hE : EvOk E) :
 Calls Tryz.prog 103 #[v, .func (.func 62) #[] #[]] w fun e w' => e = .returned (.int .i64 (-1)) ∧ Chg [] w w' := by
 obtain ⟨a, cap, rfl, hml, hcp⟩ := h.shape
 have H := Lib.hid h
 have HE := Lib.hid hE
 have hl := hE.len
 clear h hE hml
 go_enter Tryz.func103, Tryz.ntmps103
 go_wp2_with fail
 go_loopw [8] (fun i wr => ∃ k : Nat, k ≤ E.length ∧ i = .int .i64 (k : Nat) ∧ Chg [] w wr) (fun i _ => E.length - (intOf i).toNat)
 case atStart => exact ⟨0, by omega, rfl, Chg.refl _ _⟩
 case round =>
  obtain ⟨k, hk, rfl, hc⟩ := hrel
  by_cases hlt : k < E.length
  · obtain ⟨g, off, rfl, hp, c0, c1, c2⟩ := (H.out.same hc).cells k hlt
    have hm := HE.out.kind _ (getD_memE hlt)
    obtain ⟨⟨t, pa, kd⟩, hr⟩ : ∃ r, E.getD k ev0 = r := ⟨_, rfl⟩
    rw [hr] at c0 c1 c2 hm
    simp only at c0 c1 c2
    have Hm := Lib.hid hm
    have Hc := Lib.hid hc
    clear hm hr hc
    have hk1 : (k : Int) < E.length := by omega
    go_wp2_with fail
    refine (valid1_any (t, pa, kd) wr Hm.out).mono ?_
    rintro e w1 ⟨rfl, h1⟩
    have Hc1 := Lib.hid (Hc.out.trans h1)
    clear h1
    go_wp2_with fail
    exact ⟨⟨k + 1, by omega, by go_num, Hc1.out⟩, by simp [intOf]; omega⟩
  · obtain rfl : k = E.length := by omega
    have Hc := Lib.hid hc
    clear hc
    go_wp2_with fail
    go_ret
    exact ⟨rfl, Hc.out⟩
theorem containsV_any (p : Nat → Prop) (w : World) (v : Value) (E : List FEv) (h : EvsP p w v E) (hE : EvOk E) :
 Calls Tryz.prog 61 #[v, .func (.func 62) #[] #[]] w fun e w' => e = .returned (.bool false) ∧ Chg [] w w' := by
 have Hi := Lib.hid (idxV_any p w v E h hE)
 clear h hE
 go_enter Tryz.func61, Tryz.ntmps61
 go_wp2_with fail
 refine Hi.out.mono ?_
 rintro e w1 ⟨rfl, hc⟩
 have Hc := Lib.hid hc
 clear hc
 go_wp2_with fail
 go_ret
 exact ⟨rfl, Hc.out⟩
set_option maxRecDepth 100000 in
set_option maxHeartbeats 4000000 in
theorem validate_any (p : Nat → Prop) (w : World) (v : Value) (E : List FEv) (d : Int) (h : EvsP p w v E) (hE : EvOk E) (h0 : 0 ≤ d) (h1 : d ≤ 1000000) :
 Calls Tryz.prog 31 #[v, .int .i64 d] w fun e w' => e = .returned (.int .i64 0) ∧ Chg [] w w' := by
 obtain ⟨a, cap, rfl, hml, hcp⟩ := h.shape
 have H := Lib.hid h
 have HE := Lib.hid hE
 have Hcf := Lib.hid (containsV_any p w _ E h hE)
 have hl := hE.len
 clear h hE hml
 have d1 : ¬ d < 0 := by omega
 have d2 : ¬ (1000000 : Int) < d := by omega
 have d3 : ¬ (1000 : Int) < E.length := by omega
 go_enter Tryz.func31, Tryz.ntmps31
 go_wp2_with fail
 refine Hcf.out.mono ?_
 rintro e w1 ⟨rfl, hc1⟩
 have Hc1 := Lib.hid hc1
 clear hc1
 go_wp2_with fail
 go_loopw [23] (fun i wr => ∃ k : Nat, k ≤ E.length ∧ i = .int .i64 (k : Nat) ∧ Chg [] w wr) (fun i _ => E.length - (intOf i).toNat)
 case atStart => exact ⟨0, by omega, rfl, Hc1.out⟩
 case round =>
  obtain ⟨k, hk, rfl, hc⟩ := hrel
  by_cases hlt : k < E.length
  · obtain ⟨g, off, rfl, hp, c0, c1, c2⟩ := (H.out.same hc).cells k hlt
    have hm := HE.out.time _ (getD_memE hlt)
    have hord : 0 < k → (E.getD (k - 1) ev0).1 ≤ (E.getD k ev0).1 := by
     intro hk0
     have := List.pairwise_iff_getElem.1 HE.out.ord (k - 1) k (by omega) hlt (by omega)
     rw [List.getD_eq_getElem?_getD, List.getD_eq_getElem?_getD, List.getElem?_eq_getElem hlt, List.getElem?_eq_getElem (show k - 1 < E.length by omega)]
     exact this
    obtain ⟨⟨t, pa, kd⟩, hr⟩ : ∃ r, E.getD k ev0 = r := ⟨_, rfl⟩
    rw [hr] at c0 c1 c2 hm hord
    simp only at c0 c1 c2 hm hord
    have t0 : decide (t < 0) = false := decide_eq_false (by omega)
    have t1 : decide ((1000000000000 : Int) < t) = false := decide_eq_false (by omega)
    have hk1 : (k : Int) < E.length := by omega
    by_cases hk0 : 0 < k
    · have hord := hord hk0
      obtain ⟨g', off', ha', hp', b0, b1, b2⟩ := (H.out.same hc).cells (k - 1) (by omega)
      simp only [Option.some.injEq, Addr.mk.injEq, and_true] at ha'
      obtain ⟨rfl, rfl⟩ := ha'
      obtain ⟨⟨t', pa', kd'⟩, hr'⟩ : ∃ r, E.getD (k - 1) ev0 = r := ⟨_, rfl⟩
      rw [hr'] at b0 hord
      simp only at b0 hord
      have hto : decide (t < t') = false := decide_eq_false (by omega)
      have e1 : ((k : Int) - 1) = ((k - 1 : Nat) : Int) := by omega
      have hk2 : decide ((0 : Int) < k) = true := decide_eq_true (by omega)
      have Hc := Lib.hid hc
      clear hr hc hord hr' b1 b2 hm
      have l0 := lt_of_cell c0
      have hka : (k : Int) - 1 < E.length := by omega
      have hkb : (0 : Int) ≤ (k : Int) - 1 := by omega
      have hkn : ((k : Int) - 1).toNat = k - 1 := by omega
      go_wp2_with fail
      go_quiet (fail)
      go_wp2_with fail
      exact ⟨⟨k + 1, by omega, by go_num, (Hc.out.alloc _).drewN _⟩, by simp [intOf]; omega⟩
    · obtain rfl : k = 0 := by omega
      simp only [Nat.zero_mul, Nat.add_zero, Nat.zero_add] at c0 c1 c2
      have Hc := Lib.hid hc
      clear hr hc hord
      have l0 := lt_of_cell c0
      go_wp2_with fail
      go_quiet (fail)
      go_wp2_with fail
      exact ⟨⟨1, by omega, rfl, (Hc.out.alloc _).drewN _⟩, by simp [intOf]; omega⟩
  · obtain rfl : k = E.length := by omega
    have Hc := Lib.hid hc
    clear hc
    go_wp2_with fail
    go_ret
    exact ⟨rfl, Hc.out⟩
end Go.Proofs.YtjlknaahpjiibaaGreatDoor.F
