/- Entries of the index; their order; slices.SortFunc at entries. -/
import Derived.Test.YticfigfipbcmhaaGreatDoorWiE
import Derived.Test.YticfigfipbcmhaaGreatDoorWiShelf2
namespace Go.Proofs.YticfigfipbcmhaaGreatDoor
open Go.RowKit Go.ChangeMaps Go.MapKept Go.Shelf Go.Lib Go.Sort
set_option linter.unusedVariables false
set_option linter.unusedSimpArgs false
theorem cb_neg : ∀ (a b : List UInt8), Lib.compareBytes b a = - Lib.compareBytes a b := by
  intro a
  induction a with
  | nil => intro b; cases b <;> rfl
  | cons x a ih =>
    intro b
    cases b with
    | nil => rfl
    | cons y b =>
      unfold Lib.compareBytes
      by_cases h : x < y
      · have h2 : ¬ y < x := fun h' => by rw [UInt8.lt_iff_toNat_lt] at h h'; omega
        rw [if_neg h2, if_pos h, if_pos h]; rfl
      · by_cases h2 : y < x
        · rw [if_pos h2, if_neg h, if_pos h2]
        · rw [if_neg h2, if_neg h, if_neg h, if_neg h2]; exact ih b
theorem cb_eq : ∀ (a b : List UInt8), Lib.compareBytes a b = 0 ↔ a = b := by
  intro a
  induction a with
  | nil => intro b; cases b <;> simp [Lib.compareBytes]
  | cons x a ih =>
    intro b
    cases b with
    | nil => simp [Lib.compareBytes]
    | cons y b =>
      unfold Lib.compareBytes
      rw [List.cons.injEq]
      by_cases h : x < y
      · rw [if_pos h]
        exact ⟨fun h' => by omega, fun ⟨e, _⟩ => by subst e; rw [UInt8.lt_iff_toNat_lt] at h; omega⟩
      · by_cases h2 : y < x
        · rw [if_neg h, if_pos h2]
          exact ⟨fun h' => by omega, fun ⟨e, _⟩ => by subst e; rw [UInt8.lt_iff_toNat_lt] at h2; omega⟩
        · rw [if_neg h, if_neg h2, ih]
          have e : x = y := by
            rw [UInt8.lt_iff_toNat_lt] at h h2
            exact UInt8.toNat_inj.1 (by omega)
          exact ⟨fun h' => ⟨e, h'⟩, fun h' => h'.2⟩
theorem cb_trans : ∀ (a b c : List UInt8), Lib.compareBytes a b < 0 → Lib.compareBytes b c < 0 → Lib.compareBytes a c < 0 := by
  intro a
  induction a with
  | nil => intro b c h1 h2; cases b <;> cases c <;> simp_all [Lib.compareBytes]
  | cons x a ih =>
    intro b c h1 h2
    cases b with
    | nil => simp [Lib.compareBytes] at h1
    | cons y b =>
      cases c with
      | nil => simp [Lib.compareBytes] at h2
      | cons z c =>
        unfold Lib.compareBytes at h1 h2 ⊢
        simp only [UInt8.lt_iff_toNat_lt] at h1 h2 ⊢
        by_cases e1 : x.toNat < y.toNat
        · by_cases e2 : y.toNat < z.toNat
          · rw [if_pos (by omega)]; decide
          · by_cases e3 : z.toNat < y.toNat
            · rw [if_neg e2, if_pos e3] at h2; omega
            · rw [if_pos (by omega)]; decide
        · by_cases e1' : y.toNat < x.toNat
          · rw [if_neg e1, if_pos e1'] at h1; omega
          · rw [if_neg e1, if_neg e1'] at h1
            by_cases e2 : y.toNat < z.toNat
            · rw [if_pos (by omega)]; decide
            · by_cases e3 : z.toNat < y.toNat
              · rw [if_neg e2, if_pos e3] at h2; omega
              · rw [if_neg e2, if_neg e3] at h2
                rw [if_neg (by omega), if_neg (by omega)]
                exact ih b c h1 h2
set_option maxHeartbeats 1000000 in
set_option maxRecDepth 100000 in
theorem cmpString_any (a b : ByteArray) (w : World) : Calls Tryz.prog 61 #[.string a, .string b] w fun e w' => e = .returned (.int .i64 (Lib.compareBytes a.data.toList b.data.toList)) ∧ w' = w := by
  go_enter Tryz.func61, Tryz.ntmps61
  go_wp2
  rw [run_callFunc_extern Tryz.func80 (by kernel_rfl) (by kernel_rfl) (by kernel_rfl) (e := Extern.BytealgCompare.compare) (by kernel_rfl), Lib.run_compareString]
  simp only [Result.andThen]
  rw [Oper.upon_value]
  go_wp2
  go_ret
  exact ⟨rfl, rfl⟩
theorem compare_any (a b : ByteArray) (w : World) : Calls Tryz.prog 36 #[.string a, .string b] w fun e w' => e = .returned (.int .i64 (Lib.compareBytes a.data.toList b.data.toList)) ∧ w' = w := by
  go_enter Tryz.func36, Tryz.ntmps36
  go_wp2_with (go_at_call 61; refine (cmpString_any _ _ _).mono ?_; rintro e w' ⟨rfl, rfl⟩)
  go_ret
  exact ⟨rfl, rfl⟩
theorem sortW_chg {α : Type} [Inhabited α] (enc : α → List Value) (k : Nat) (w : World) (blk off m : Nat) (dk : Array α) (os : Array Obj) : Chg [blk] w (sortWorldK enc k w blk off m dk os) := by
  refine ⟨rfl, rfl, rfl, ?_, fun g hg hn => ?_⟩
  · simp [sortWorldK, grow, putRowK, putRow, mapBlock, ahead]
  · show (((w.heap.modify blk (onCells (putCells id off (flatK enc k dk))))) ++ os)[g]? = w.heap[g]?
    rw [Array.getElem?_append_left (by simpa using hg)]
    simp [Array.getElem?_modify, Ne.symm (by simpa using hn : g ≠ blk)]

/-- an entry in memory: name, checksum, where its words lie -/
structure Ent where
  nm : ByteArray
  sum : Int
  wa : Option Addr
  wn : Nat
  wc : Nat
def ent0 : Ent := ⟨⟨#[]⟩, 0, none, 0, 0⟩
instance : Inhabited Ent := ⟨ent0⟩
def Ent.wv (e : Ent) : Value := .slice e.wa e.wn e.wc
def encE (e : Ent) : List Value := [.string e.nm, .int .u32 e.sum, e.wv]
def enCells (l : List Ent) : List Value := l.flatMap encE
theorem enCells_len (l : List Ent) : (enCells l).length = l.length * 3 := by
  induction l with
  | nil => rfl
  | cons x r ih =>
    have : enCells (x :: r) = encE x ++ enCells r := by simp [enCells]
    rw [this, List.length_append, ih]
    simp only [encE, List.length_cons, List.length_nil]
    omega
theorem enCells_append (l m : List Ent) : enCells (l ++ m) = enCells l ++ enCells m := by simp [enCells, List.flatMap_append]
theorem enCells_one (e : Ent) : enCells [e] = encE e := by simp [enCells]
theorem enCells_oneCell (l : List Ent) : ∀ u ∈ enCells l, u.oneCell' = true := by
  intro u hu
  simp only [enCells, encE, List.mem_flatMap, List.mem_cons, List.not_mem_nil, or_false] at hu
  obtain ⟨e, _, h | h | h⟩ := hu <;> subst h <;> rfl
theorem enCells_get (xs : List Ent) : ∀ (j : Nat) (h : j < xs.length) (c : Nat) (hc : c < 3), (enCells xs)[j * 3 + c]? = (encE xs[j])[c]? := by
  induction xs with
  | nil => intro j h; simp at h
  | cons x r ih =>
    intro j h c hc
    have e : enCells (x :: r) = encE x ++ enCells r := by simp [enCells]
    rw [e]
    cases j with
    | zero => rw [List.getElem?_append_left (by simp [encE]; omega)]; simp
    | succ j =>
      have h' := ih j (by simpa using h) c hc
      rw [List.getElem?_append_right (by simp [encE]; omega)]
      have : (j + 1) * 3 + c - (encE x).length = j * 3 + c := by simp only [encE, List.length_cons, List.length_nil]; omega
      rw [this, h']
      simp
/-- entries of the call's own -/
def OwnEn (w : World) (base : Nat) (v : Value) (l : List Ent) : Prop := w.ownsRow base 40 3 v l.length (enCells l)
theorem OwnEn.nil (w : World) (base : Nat) : OwnEn w base (.slice none 0 0) [] := ⟨rfl, .inl ⟨rfl, rfl⟩⟩
theorem OwnEn.kept {w w' : World} {base : Nat} {v : Value} {xs : List Ent} {S : Nat → Prop} (h : OwnEn w base v xs) (hc : ChgP S w w') (hS : ∀ g, v.ownBlock = some g → ¬ S g) : OwnEn w' base v xs :=
  ownsRow_kept h fun g hg hl => hc.block g hl (hS g hg)
theorem OwnEn.same {w w' : World} {base : Nat} {v : Value} {xs : List Ent} (h : OwnEn w base v xs) (hc : Chg [] w w') : OwnEn w' base v xs := h.kept (hc.p (S := fun _ => False)) fun _ _ h => h
theorem infoEn : (Tryz.prog.info? 40).map (fun i => (i.zero, i.size, i.bytes)) = some (some (.agg #[.string ⟨#[]⟩, .int .u32 0, .slice none 0 0]), 3, 48) := by kernel_rfl
theorem run_append_ent (w : World) (ty : TypeId) (B : Nat) (v : Value) (l : List Ent) (e : Ent) (n : Nat) (hv : OwnEn w B v l) (hb : w.heap[n]? = some (.cells #[.string e.nm, .int .u32 e.sum, .slice e.wa e.wn e.wc] 40 (0, 0))) (hlen : l.length ≤ 1000) (hB : B ≤ w.heap.size) :
    ∃ v' w', (Builtin.append_ #[26, 26] ty #[v, .slice (some ⟨n, 0, none⟩) 1 1]).run Tryz.prog w = .ok v' w' ∧ OwnEn w' B v' (l ++ [e]) ∧ Chg v.ownBlock.toList w w' ∧ (∀ g, v'.ownBlock = some g → v.ownBlock = some g ∨ w.heap.size ≤ g) := by
  obtain ⟨i0, hi, hz0, hz1, hz2⟩ := info_parts infoEn
  obtain ⟨v', w', hr, h2, h3, _, h5⟩ := run_append_own_at (P := Tryz.prog) w B 26 ty 40 i0 (.agg #[.string ⟨#[]⟩, .int .u32 0, .slice none 0 0]) 3 48 Tryz.underlying26 hi hz0 hz1 hz2 rfl (by decide) v l.length (enCells l) hv ⟨n, 0, none⟩ 1 1 (encE e) rfl (fun j u hj => by
    rw [Addr.add_lit, Nat.zero_add]
    refine cell_of_heap hb ?_
    match j with
    | 0 => simpa [encE] using hj
    | 1 => simpa [encE] using hj
    | 2 => simpa [encE, Ent.wv] using hj
    | j + 3 => simp [encE] at hj) (fun u hu => enCells_oneCell [e] u (by rw [enCells_one]; exact hu)) (by unfold maxLen; omega) (by omega) hB
  refine ⟨v', w', hr, ?_, (Chg.refl _ w).grown h3 (by intro k hk; left; simp [hk]), fun g hg => ?_⟩
  · unfold OwnEn
    rw [enCells_append, enCells_one, List.length_append]
    exact h2
  · rcases h5 with h5 | h5
    · exact Or.inl (by rw [← h5]; exact hg)
    · right
      rw [h5] at hg
      cases hg
      exact Nat.le_refl _
def enO (e : Ent) : Obj := .cells #[.string e.nm, .int .u32 e.sum, .slice e.wa e.wn e.wc] 40
def cfE (a b : Ent) : Int := Lib.compareBytes a.nm.data.toList b.nm.data.toList
set_option maxHeartbeats 1000000 in
set_option maxRecDepth 100000 in
theorem cmpNames_any (a b : Ent) (W : World) :
    Calls Tryz.prog 18 #[.agg #[.string a.nm, .int .u32 a.sum, .slice a.wa a.wn a.wc], .agg #[.string b.nm, .int .u32 b.sum, .slice b.wa b.wn b.wc]] W fun e w' => e = .returned (.int .i64 (cfE a b)) ∧ w' = (W.alloc (enO a)).alloc (enO b) := by
  go_enter Tryz.func18, Tryz.ntmps18
  go_wp2_with fail
  refine (compare_any _ _ _).mono ?_
  rintro e w' ⟨rfl, rfl⟩
  go_wp2_with fail
  go_ret
  exact ⟨rfl, rfl⟩
theorem swoE : SWO (ltOf cfE) where
  irrefl x := by unfold ltOf cfE; have := (cb_eq x.nm.data.toList x.nm.data.toList).2 rfl; simp [this]
  trans x y z h1 h2 := by
    unfold ltOf cfE at *
    simp only [decide_eq_true_eq] at *
    exact cb_trans _ _ _ h1 h2
  ntrans x y z h1 h2 := by
    unfold ltOf cfE at *
    simp only [decide_eq_false_iff_not] at *
    intro h3
    have n1 := cb_neg x.nm.data.toList y.nm.data.toList
    by_cases e1 : Lib.compareBytes x.nm.data.toList y.nm.data.toList = 0
    · have k := (cb_eq _ _).1 e1
      rw [← k] at h2
      exact h2 h3
    · have h4 : Lib.compareBytes y.nm.data.toList x.nm.data.toList < 0 := by omega
      exact h2 (cb_trans _ _ _ h4 h3)
theorem growE (W : World) (o1 o2 : Obj) : (W.alloc o1).alloc o2 = Go.Sort.grow (W.drewN 0) #[o1, o2] := by
  rw [alloc_eq_grow, alloc_eq_grow, grow_grow]
  rfl
theorem cmpLaysE {blk off size : Nat} {w : World} : CmpLays Tryz.prog 18 #[] encE 3 cfE blk off size w := by
  rintro m os dk _ x y
  refine (cmpNames_any x y _).mono ?_
  rintro e w' ⟨rfl, rfl⟩
  exact ⟨rfl, 0, _, growE _ _ _⟩
theorem enterCmpE (args : Array Value) (w : World) : (callFunc 18 args).run Tryz.prog w = .ok (.enter 18 args) w := by go_simp
theorem sortEnts_any {blk cap : Nat} {w : World} (a : Array Ent) (hH : HoldsK encE 3 w blk 0 a) (hblk : blk < w.heap.size) (hsz : a.size < 4611686018427387904) :
    Calls Tryz.prog 17 #[.slice (some ⟨blk, 0, none⟩) a.size cap, .func (.func 18) #[] #[]] w fun e w' =>
      e = .returned (.tuple #[]) ∧ ∃ a' : Array Ent, a'.size = a.size ∧ a'.toList.Perm a.toList ∧ (∀ i j, i < j → j < a.size → ¬ cfE a'[j]! a'[i]! < 0) ∧ HoldsK encE 3 w' blk 0 a' ∧ Chg [blk] w w' := by
  have hcon := AnyQ.slices_SortFunc Tryz.laysSlF06_f22 3 (fun w => by kernel_rfl) (fun w => by kernel_rfl) encE (fun _ => rfl) (fun x v hv => by simp [encE] at hv; rcases hv with rfl | rfl | rfl <;> rfl) cfE swoE 18 #[] blk 0 cap a w enterCmpE cmpLaysE hH hblk hsz
  refine hcon.mono ?_
  rintro e w' ⟨rfl, a', n, os, ⟨hs, _, hp⟩, hso, rfl⟩
  refine ⟨rfl, a', hs, ?_, fun i j hij hj => ?_, ?_, sortW_chg _ _ _ _ _ _ _ _⟩
  · have e1 : a'.extract 0 a.size = a' := by rw [← hs]; simp
    have e2 : a.extract 0 a.size = a := by simp
    rw [e1, e2] at hp
    exact hp
  · have := hso i j (Nat.zero_le _) hij hj
    unfold ltOf at this
    simpa using this
  · exact holdsK_grow _ _ _ _ _ _ _ (by simp [putRowK, putRow, mapBlock, ahead]; exact hblk) (holdsK_putRowK _ _ _ _ _ a a' (holdsK_ahead _ _ _ _ _ _ _ hH) hs)
end Go.Proofs.YticfigfipbcmhaaGreatDoor
