/- Part of the proof of topCrashedLaw_holds. -/
import Derived.StillTailTactics
import Derived.Test.YtjlknaahpjiibaaGreatDoorQae
import Derived.Test.YtjlknaahpjiibaaGreatDoorQaf
import Derived.Test.YtjlknaahpjiibaaGreatDoorQag
namespace Go.Proofs.YtjlknaahpjiibaaGreatDoor
open Go.RowKit Go.ChangeMaps Go.MapKept Go.Shelf Go.Lib Go.Sort
set_option linter.unusedVariables false
set_option linter.unusedSimpArgs false
theorem cb_neg : ∀ (a b : List UInt8), Lib.compareBytes b a = - Lib.compareBytes a b := by
 intro a
 induction a with
 | nil => intro b; cases b <;> rfl
 | cons x a ih =>
   intro b
   cases b with
   | nil => rfl
   | cons y b =>
     unfold Lib.compareBytes
     by_cases h : x < y
     · have h2 : ¬ y < x := fun h' => by rw [UInt8.lt_iff_toNat_lt] at h h'; omega
       rw [if_neg h2, if_pos h, if_pos h]; rfl
     · by_cases h2 : y < x
       · rw [if_pos h2, if_neg h, if_pos h2]
       · rw [if_neg h2, if_neg h, if_neg h, if_neg h2]; exact ih b
theorem cb_eq : ∀ (a b : List UInt8), Lib.compareBytes a b = 0 ↔ a = b := by
 intro a
 induction a with
 | nil => intro b; cases b <;> simp [Lib.compareBytes]
 | cons x a ih =>
   intro b
   cases b with
   | nil => simp [Lib.compareBytes]
   | cons y b =>
     unfold Lib.compareBytes
     rw [List.cons.injEq]
     by_cases h : x < y
     · rw [if_pos h]
       exact ⟨fun h' => by omega, fun ⟨e, _⟩ => by subst e; rw [UInt8.lt_iff_toNat_lt] at h; omega⟩
     · by_cases h2 : y < x
       · rw [if_neg h, if_pos h2]
         exact ⟨fun h' => by omega, fun ⟨e, _⟩ => by subst e; rw [UInt8.lt_iff_toNat_lt] at h2; omega⟩
       · rw [if_neg h, if_neg h2, ih]
         have e : x = y := by
          rw [UInt8.lt_iff_toNat_lt] at h h2
          exact UInt8.toNat_inj.1 (by omega)
         exact ⟨fun h' => ⟨e, h'⟩, fun h' => h'.2⟩
theorem cb_trans : ∀ (a b c : List UInt8), Lib.compareBytes a b < 0 → Lib.compareBytes b c < 0 → Lib.compareBytes a c < 0 := by
 intro a
 induction a with
 | nil => intro b c h1 h2; cases b <;> cases c <;> simp_all [Lib.compareBytes]
 | cons x a ih =>
   intro b c h1 h2
   cases b with
   | nil => simp [Lib.compareBytes] at h1
   | cons y b =>
     cases c with
     | nil => simp [Lib.compareBytes] at h2
     | cons z c =>
       unfold Lib.compareBytes at h1 h2 ⊢
       simp only [UInt8.lt_iff_toNat_lt] at h1 h2 ⊢
       by_cases e1 : x.toNat < y.toNat
       · by_cases e2 : y.toNat < z.toNat
         · rw [if_pos (by omega)]; decide
         · by_cases e3 : z.toNat < y.toNat
           · rw [if_neg e2, if_pos e3] at h2; omega
           · rw [if_pos (by omega)]; decide
       · by_cases e1' : y.toNat < x.toNat
         · rw [if_neg e1, if_pos e1'] at h1; omega
         · rw [if_neg e1, if_neg e1'] at h1
           by_cases e2 : y.toNat < z.toNat
           · rw [if_pos (by omega)]; decide
           · by_cases e3 : z.toNat < y.toNat
             · rw [if_neg e2, if_pos e3] at h2; omega
             · rw [if_neg e2, if_neg e3] at h2
               rw [if_neg (by omega), if_neg (by omega)]
               exact ih b c h1 h2
set_option maxHeartbeats 1000000 in
set_option maxRecDepth 100000 in
theorem cmpString_any (a b : ByteArray) (w : World) : Calls Tryz.prog 102 #[.string a, .string b] w fun e w' => e = .returned (.int .i64 (Lib.compareBytes a.data.toList b.data.toList)) ∧ w' = w := by
 go_enter Tryz.func102, Tryz.ntmps102
 go_wp2
 rw [run_callFunc_extern Tryz.func145 (by kernel_rfl) (by kernel_rfl) (by kernel_rfl) (e := Extern.BytealgCompare.compare) (by kernel_rfl), Lib.run_compareString]
 simp only [Result.andThen]
 rw [Oper.upon_value]
 go_wp2
 go_ret
 exact ⟨rfl, rfl⟩
theorem compare_any (a b : ByteArray) (w : World) : Calls Tryz.prog 55 #[.string a, .string b] w fun e w' => e = .returned (.int .i64 (Lib.compareBytes a.data.toList b.data.toList)) ∧ w' = w := by
 go_enter Tryz.func55, Tryz.ntmps55
 go_wp2_with (go_at_call 102; refine (cmpString_any _ _ _).mono ?_; rintro e w' ⟨rfl, rfl⟩)
 go_ret
 exact ⟨rfl, rfl⟩
theorem sortW_chg {α : Type} [Inhabited α] (enc : α → List Value) (k : Nat) (w : World) (blk off m : Nat) (dk : Array α) (os : Array Obj) : Chg [blk] w (sortWorldK enc k w blk off m dk os) := by
 refine ⟨rfl, rfl, rfl, ?_, fun g hg hn => ?_⟩
 · simp [sortWorldK, grow, putRowK, putRow, mapBlock, ahead]
 · show (((w.heap.modify blk (onCells (putCells id off (flatK enc k dk))))) ++ os)[g]? = w.heap[g]?
   rw [Array.getElem?_append_left (by simpa using hg)]
   simp [Array.getElem?_modify, Ne.symm (by simpa using hn : g ≠ blk)]
structure Ent where
 nm : ByteArray
 sum : Int
 wa : Option Addr
 wn : Nat
 wc : Nat
def ent0 : Ent := ⟨⟨#[]⟩, 0, none, 0, 0⟩
instance : Inhabited Ent := ⟨ent0⟩
def Ent.wv (e : Ent) : Value := .slice e.wa e.wn e.wc
def encE (e : Ent) : List Value := [.string e.nm, .int .u32 e.sum, e.wv]
def enCells (l : List Ent) : List Value := l.flatMap encE
theorem enCells_append (l m : List Ent) : enCells (l ++ m) = enCells l ++ enCells m := by simp [enCells, List.flatMap_append]
theorem enCells_one (e : Ent) : enCells [e] = encE e := by simp [enCells]
theorem enCells_oneCell (l : List Ent) : ∀ u ∈ enCells l, u.oneCell' = true := by
 intro u hu
 simp only [enCells, encE, List.mem_flatMap, List.mem_cons, List.not_mem_nil, or_false] at hu
 obtain ⟨e, _, h | h | h⟩ := hu <;> subst h <;> rfl
theorem enCells_get (xs : List Ent) : ∀ (j : Nat) (h : j < xs.length) (c : Nat) (hc : c < 3), (enCells xs)[j * 3 + c]? = (encE xs[j])[c]? := by
 induction xs with
 | nil => intro j h; simp at h
 | cons x r ih =>
   intro j h c hc
   have e : enCells (x :: r) = encE x ++ enCells r := by simp [enCells]
   rw [e]
   cases j with
   | zero => rw [List.getElem?_append_left (by simp [encE]; omega)]; simp
   | succ j =>
     have h' := ih j (by simpa using h) c hc
     rw [List.getElem?_append_right (by simp [encE]; omega)]
     have : (j + 1) * 3 + c - (encE x).length = j * 3 + c := by simp only [encE, List.length_cons, List.length_nil]; omega
     rw [this, h']
     simp
def OwnEn (w : World) (base : Nat) (v : Value) (l : List Ent) : Prop := w.ownsRow base 70 3 v l.length (enCells l)
theorem OwnEn.nil (w : World) (base : Nat) : OwnEn w base (.slice none 0 0) [] := ⟨rfl, .inl ⟨rfl, rfl⟩⟩
theorem OwnEn.kept {w w' : World} {base : Nat} {v : Value} {xs : List Ent} {S : Nat → Prop} (h : OwnEn w base v xs) (hc : ChgP S w w') (hS : ∀ g, v.ownBlock = some g → ¬ S g) : OwnEn w' base v xs :=
 ownsRow_kept h fun g hg hl => hc.block g hl (hS g hg)
theorem OwnEn.same {w w' : World} {base : Nat} {v : Value} {xs : List Ent} (h : OwnEn w base v xs) (hc : Chg [] w w') : OwnEn w' base v xs := h.kept (hc.p (S := fun _ => False)) fun _ _ h => h
theorem infoEn : (Tryz.prog.info? 70).map (fun i => (i.zero, i.size, i.bytes)) = some (some (.agg #[.string ⟨#[]⟩, .int .u32 0, .slice none 0 0]), 3, 48) := by kernel_rfl
theorem run_append_ent (w : World) (ty : TypeId) (B : Nat) (v : Value) (l : List Ent) (e : Ent) (n : Nat) (hv : OwnEn w B v l) (hb : w.heap[n]? = some (.cells #[.string e.nm, .int .u32 e.sum, .slice e.wa e.wn e.wc] 70 (0, 0))) (hlen : l.length ≤ 1000) (hB : B ≤ w.heap.size) :
 ∃ v' w', (Builtin.append_ #[29, 29] ty #[v, .slice (some ⟨n, 0, none⟩) 1 1]).run Tryz.prog w = .ok v' w' ∧ OwnEn w' B v' (l ++ [e]) ∧ Chg v.ownBlock.toList w w' ∧ (∀ g, v'.ownBlock = some g → v.ownBlock = some g ∨ w.heap.size ≤ g) := by
 obtain ⟨i0, hi, hz0, hz1, hz2⟩ := info_parts infoEn
 obtain ⟨v', w', hr, h2, h3, _, h5⟩ := run_append_own_at (P := Tryz.prog) w B 29 ty 70 i0 (.agg #[.string ⟨#[]⟩, .int .u32 0, .slice none 0 0]) 3 48 Tryz.underlying29 hi hz0 hz1 hz2 rfl (by decide) v l.length (enCells l) hv ⟨n, 0, none⟩ 1 1 (encE e) rfl (fun j u hj => by
  rw [Addr.add_lit, Nat.zero_add]
  refine cell_of_heap hb ?_
  match j with
  | 0 => simpa [encE] using hj
  | 1 => simpa [encE] using hj
  | 2 => simpa [encE, Ent.wv] using hj
  | j + 3 => simp [encE] at hj) (fun u hu => enCells_oneCell [e] u (by rw [enCells_one]; exact hu)) (by unfold maxLen; omega) (by omega) hB
 refine ⟨v', w', hr, ?_, (Chg.refl _ w).grown h3 (by intro k hk; left; simp [hk]), fun g hg => ?_⟩
 · unfold OwnEn
   rw [enCells_append, enCells_one, List.length_append]
   exact h2
 · rcases h5 with h5 | h5
   · exact Or.inl (by rw [← h5]; exact hg)
   · right
     rw [h5] at hg
     cases hg
     exact Nat.le_refl _
def enO (e : Ent) : Obj := .cells #[.string e.nm, .int .u32 e.sum, .slice e.wa e.wn e.wc] 70
def cfE (a b : Ent) : Int := Lib.compareBytes a.nm.data.toList b.nm.data.toList
set_option maxHeartbeats 1000000 in
set_option maxRecDepth 100000 in
theorem cmpNames_any (a b : Ent) (W : World) :
 Calls Tryz.prog 26 #[.agg #[.string a.nm, .int .u32 a.sum, .slice a.wa a.wn a.wc], .agg #[.string b.nm, .int .u32 b.sum, .slice b.wa b.wn b.wc]] W fun e w' => e = .returned (.int .i64 (cfE a b)) ∧ w' = (W.alloc (enO a)).alloc (enO b) := by
 go_enter Tryz.func26, Tryz.ntmps26
 go_wp2_with fail
 refine (compare_any _ _ _).mono ?_
 rintro e w' ⟨rfl, rfl⟩
 go_wp2_with fail
 go_ret
 exact ⟨rfl, rfl⟩
theorem swoE : SWO (ltOf cfE) where
 irrefl x := by unfold ltOf cfE; have := (cb_eq x.nm.data.toList x.nm.data.toList).2 rfl; simp [this]
 trans x y z h1 h2 := by
  unfold ltOf cfE at *
  simp only [decide_eq_true_eq] at *
  exact cb_trans _ _ _ h1 h2
 ntrans x y z h1 h2 := by
  unfold ltOf cfE at *
  simp only [decide_eq_false_iff_not] at *
  intro h3
  have n1 := cb_neg x.nm.data.toList y.nm.data.toList
  by_cases e1 : Lib.compareBytes x.nm.data.toList y.nm.data.toList = 0
  · have k := (cb_eq _ _).1 e1
    rw [← k] at h2
    exact h2 h3
  · have h4 : Lib.compareBytes y.nm.data.toList x.nm.data.toList < 0 := by omega
    exact h2 (cb_trans _ _ _ h4 h3)
theorem growE (W : World) (o1 o2 : Obj) : (W.alloc o1).alloc o2 = Go.Sort.grow (W.drewN 0) #[o1, o2] := by
 rw [alloc_eq_grow, alloc_eq_grow, grow_grow]
 rfl
theorem cmpLaysE {blk off size : Nat} {w : World} : CmpLays Tryz.prog 26 #[] encE 3 cfE blk off size w := by
 rintro m os dk _ x y
 refine (cmpNames_any x y _).mono ?_
 rintro e w' ⟨rfl, rfl⟩
 exact ⟨rfl, 0, _, growE _ _ _⟩
theorem enterCmpE (args : Array Value) (w : World) : (callFunc 26 args).run Tryz.prog w = .ok (.enter 26 args) w := by go_simp
theorem sortEnts_any {blk cap : Nat} {w : World} (a : Array Ent) (hH : HoldsK encE 3 w blk 0 a) (hblk : blk < w.heap.size) (hsz : a.size < 4611686018427387904) :
 Calls Tryz.prog 25 #[.slice (some ⟨blk, 0, none⟩) a.size cap, .func (.func 26) #[] #[]] w fun e w' =>
  e = .returned (.tuple #[]) ∧ ∃ a' : Array Ent, a'.size = a.size ∧ a'.toList.Perm a.toList ∧ (∀ i j, i < j → j < a.size → ¬ cfE a'[j]! a'[i]! < 0) ∧ HoldsK encE 3 w' blk 0 a' ∧ Chg [blk] w w' := by
 have hcon := AnyQ.slices_SortFunc Tryz.laysSlF06_f22 3 (fun w => by kernel_rfl) (fun w => by kernel_rfl) encE (fun _ => rfl) (fun x v hv => by simp [encE] at hv; rcases hv with rfl | rfl | rfl <;> rfl) cfE swoE 26 #[] blk 0 cap a w enterCmpE cmpLaysE hH hblk hsz
 refine hcon.mono ?_
 rintro e w' ⟨rfl, a', n, os, ⟨hs, _, hp⟩, hso, rfl⟩
 refine ⟨rfl, a', hs, ?_, fun i j hij hj => ?_, ?_, sortW_chg _ _ _ _ _ _ _ _⟩
 · have e1 : a'.extract 0 a.size = a' := by rw [← hs]; simp
   have e2 : a.extract 0 a.size = a := by simp
   rw [e1, e2] at hp
   exact hp
 · have := hso i j (Nat.zero_le _) hij hj
   unfold ltOf at this
   simpa using this
 · exact holdsK_grow _ _ _ _ _ _ _ (by simp [putRowK, putRow, mapBlock, ahead]; exact hblk) (holdsK_putRowK _ _ _ _ _ a a' (holdsK_ahead _ _ _ _ _ _ _ hH) hs)
theorem OwnEn.bound {w : World} {B : Nat} {a : Option Addr} {l : List Ent} {n cap : Nat} (h : OwnEn w B (.slice a n cap) l) : n = l.length ∧ l.length ≤ cap ∧ cap ≤ maxLen := by
 rcases h.2 with ⟨hv, hx⟩ | ⟨g, cap', cur', hv, hge, hh, h3, h4, h5, h6⟩
 · cases hv
   exact ⟨hx.symm, by omega, Nat.zero_le _⟩
 · cases hv
   exact ⟨rfl, by omega, by omega⟩
theorem holds_ents {w : World} {B blk cap : Nat} {l : List Ent} (h : OwnEn w B (.slice (some ⟨blk, 0, none⟩) l.length cap) l) : HoldsK encE 3 w blk 0 l.toArray := by
 intro t ht
 rw [size_flatK] at ht
 have hq : t / 3 < l.length := by simp at ht; omega
 have hfr : w.frozen? ⟨blk, 0 + t, none⟩ = false := by
  rcases h.2 with ⟨e, _⟩ | ⟨g', cap', cur', hv, _, hh, _⟩
  · cases e
  · cases hv; exact frozen_of_heap hh
 refine ⟨?_, hfr⟩
 rw [get_flatK _ _ _ _ ht]
 have f := enCells_get l (t / 3) hq (t % 3) (Nat.mod_lt _ (by decide))
 rw [show t / 3 * 3 + t % 3 = t by omega] at f
 have hk : l.toArray[t / 3]! = l[t / 3] := by rw [getElem!_pos _ _ (by simpa using hq)]; simp
 have hl : t % 3 < (encE l[t / 3]).length := Nat.mod_lt _ (by decide)
 have hv : (encE l[t / 3])[t % 3]! = (encE l[t / 3])[t % 3]'hl := getElem!_pos (encE l[t / 3]) (t % 3) hl
 rw [hk]
 rw [List.getElem?_eq_getElem hl] at f
 have hc := World.ownsRow.cells h (g := blk) rfl _ _ f
 rw [Addr.add_lit] at hc
 show w.cell? _ = some (encE l[t / 3])[t % 3]!
 rw [hv]
 exact hc
abbrev Ie := ByteArray × Int × List ByteArray
def ie0 : Ie := (⟨#[]⟩, 0, [])
def rdIe (q : Nat → Prop) (w : World) (ad : Addr) (x : Ie) : Prop := w.cell? ad = some (.string x.1) ∧ w.cell? ⟨ad.block, ad.off + 1, none⟩ = some (.int .u32 x.2.1) ∧ ∃ u, w.cell? ⟨ad.block, ad.off + 2, none⟩ = some u ∧ StrsP q w u x.2.2
def IxP (p q : Nat → Prop) (w : World) (v : Value) (I : List Ie) : Prop := SlR p 3 (rdIe q) w v I
theorem rdIe.kept {S : Nat → Prop} {q : Nat → Prop} {w w' : World} {ad : Addr} {x : Ie} (hx : rdIe q w ad x) (hc : ChgP S w w') (hS : ¬ S ad.block) (hQ : ∀ k, q k → ¬ S k) : rdIe q w' ad x := by
 have l := lt_of_cell hx.1
 obtain ⟨h0, h1, u, h2, h3⟩ := hx
 exact ⟨(hc.cell l hS).trans h0, (hc.cell (p := ⟨ad.block, ad.off + 1, none⟩) l hS).trans h1, u, (hc.cell (p := ⟨ad.block, ad.off + 2, none⟩) l hS).trans h2, h3.kept hc hQ⟩
theorem IxP.kept {p q : Nat → Prop} {S : Nat → Prop} {w w' : World} {v : Value} {I : List Ie} (h : IxP p q w v I) (hc : ChgP S w w') (hS : ∀ k, p k → ¬ S k) (hQ : ∀ k, q k → ¬ S k) : IxP p q w' v I :=
 SlR.imp h (fun _ h => h) fun ad x hp hx => hx.kept hc (hS _ hp) hQ
theorem IxP.same {p q : Nat → Prop} {w w' : World} {v : Value} {I : List Ie} (h : IxP p q w v I) (hc : Chg [] w w') : IxP p q w' v I := h.kept (hc.p (S := fun _ => False)) (fun _ _ h => h) (fun _ _ h => h)
theorem IxP.imp {p q p' q' : Nat → Prop} {w : World} {v : Value} {I : List Ie} (h : IxP p q w v I) (hp : ∀ g, p g → p' g) (hq : ∀ g, q g → q' g) : IxP p' q' w v I :=
 SlR.imp h hp fun ad x _ ⟨h0, h1, u, h2, h3⟩ => ⟨h0, h1, u, h2, h3.imp hq⟩
theorem IxP.shape {p q : Nat → Prop} {w : World} {v : Value} {I : List Ie} (h : IxP p q w v I) : ∃ a cap, v = .slice a I.length cap ∧ I.length ≤ maxLen ∧ I.length ≤ cap := SlR.shape h
theorem IxP.cells {p q : Nat → Prop} {w : World} {a : Option Addr} {n cap : Nat} {I : List Ie} (h : IxP p q w (.slice a n cap) I) (i : Nat) (hi : i < I.length) :
 ∃ g off, a = some ⟨g, off, none⟩ ∧ p g ∧ w.cell? ⟨g, off + i * 3, none⟩ = some (.string (I.getD i ie0).1) ∧ w.cell? ⟨g, off + i * 3 + 1, none⟩ = some (.int .u32 (I.getD i ie0).2.1) ∧ ∃ ua uc, w.cell? ⟨g, off + i * 3 + 2, none⟩ = some (.slice ua (I.getD i ie0).2.2.length uc) ∧ StrsP q w (.slice ua (I.getD i ie0).2.2.length uc) (I.getD i ie0).2.2 := by
 obtain ⟨g, off, rfl, hp, h1, h2, u, h3, h4⟩ := SlR.at h i hi ie0
 obtain ⟨ua, uc, rfl, _⟩ := h4.shape
 exact ⟨g, off, rfl, hp, h1, h2, ua, uc, h3, h4⟩
def entO (d : Dc) : Ie := (d.1, (ck d.2.2.data.toList : Nat), words d.2.2)
def ltN (a b : ByteArray) : Prop := Lib.compareBytes (bl a) (bl b) < 0
structure IsIdx (D : List Dc) (I : List Ie) : Prop where
 perm : I.Perm (D.map entO)
 lt : I.Pairwise fun a b => ltN a.1 b.1
def dOf (D : List Dc) (nm : ByteArray) : Dc := (D.find? fun d => decide (d.1 = nm)).getD dc0
theorem dOf_eq {D : List Dc} (hn : (D.map (·.1)).Nodup) {d : Dc} (hd : d ∈ D) : dOf D d.1 = d := by
 induction D with
 | nil => cases hd
 | cons x r ih =>
   rw [List.map_cons, List.nodup_cons] at hn
   unfold dOf
   rw [List.find?_cons]
   by_cases e : x.1 = d.1
   · rw [decide_eq_true e]
     rcases List.mem_cons.1 hd with h | h
     · rw [h]; rfl
     · exact absurd (List.mem_map.2 ⟨d, h, e.symm⟩) hn.1
   · rw [decide_eq_false e]
     rcases List.mem_cons.1 hd with h | h
     · exact absurd (by rw [h]) e
     · exact ih hn.2 h
def EnOk (D : List Dc) (p : Nat → Prop) (w : World) (e : Ent) : Prop := ∃ d ∈ D, e.nm = d.1 ∧ e.sum = (ck d.2.2.data.toList : Nat) ∧ StrsP p w e.wv (words d.2.2)
theorem EnOk.mono {D : List Dc} {p q : Nat → Prop} {S : Nat → Prop} {w w' : World} {e : Ent} (h : EnOk D p w e) (hc : ChgP S w w') (hS : ∀ g, p g → ¬ S g) (hq : ∀ g, p g → q g) : EnOk D q w' e := by
 obtain ⟨d, h1, h2, h3, h4⟩ := h
 exact ⟨d, h1, h2, h3, (h4.kept hc hS).imp hq⟩
theorem ents_read {D : List Dc} {p : Nat → Prop} {w : World} {blk cap : Nat} {a : Array Ent} (hn : (D.map (·.1)).Nodup) (h : HoldsK encE 3 w blk 0 a) (hp : p blk) (h1 : a.size ≤ cap) (h2 : cap ≤ maxLen) (ho : ∀ e ∈ a.toList, EnOk D p w e) : IxP p p w (.slice (some ⟨blk, 0, none⟩) a.size cap) (a.toList.map fun e => entO (dOf D e.nm)) := by
 refine ⟨_, cap, by simp, by simpa using h1, by simpa using h2, fun _ => ⟨blk, 0, rfl, hp, fun i hi => ?_⟩⟩
 have hi' : i < a.size := by simpa using hi
 have c0 := (h.cell (i := i) (c := 0) hi' (by decide)).1
 have c1 := (h.cell (i := i) (c := 1) hi' (by decide)).1
 have c2 := (h.cell (i := i) (c := 2) hi' (by decide)).1
 have e : a[i]! = a.toList[i] := by rw [getElem!_pos a i hi']; simp
 rw [e] at c0 c1 c2
 rw [List.getElem_map]
 obtain ⟨d, hd, g1, g2, g3⟩ := ho _ (List.getElem_mem (h := by simpa using hi'))
 have hdo : dOf D (a.toList[i]).nm = d := by rw [g1]; exact dOf_eq hn hd
 rw [hdo]
 refine ⟨?_, ?_, _, c2, g3⟩
 · exact c0.trans (congrArg (fun x => some (Value.string x)) g1)
 · exact c1.trans (congrArg (fun x => some (Value.int .u32 x)) g2)
theorem isIdx_of {D : List Dc} {es es' : List Ent} (hn : (D.map (·.1)).Nodup) (hm : es.map (·.nm) = D.map (·.1)) (hp : es'.Perm es) (ho : ∀ e ∈ es', ∃ d ∈ D, e.nm = d.1) (hs : ∀ i j (hi : i < es'.length) (hj : j < es'.length), i < j → ¬ cfE es'[j] es'[i] < 0) : IsIdx D (es'.map fun e => entO (dOf D e.nm)) := by
 have hnn : (es'.map (·.nm)).Nodup := by
  have := hp.map (·.nm)
  rw [this.nodup_iff, hm]
  exact hn
 refine ⟨?_, ?_⟩
 · have h1 := hp.map fun e => entO (dOf D e.nm)
   have h2 : (es.map fun e => entO (dOf D e.nm)) = (D.map (·.1)).map fun n => entO (dOf D n) := by rw [← hm, List.map_map]; rfl
   have h3 : ((D.map (·.1)).map fun n => entO (dOf D n)) = D.map entO := by
    rw [List.map_map]
    exact List.map_congr_left fun d hd => by show entO (dOf D d.1) = entO d; rw [dOf_eq hn hd]
   rw [h2, h3] at h1
   exact h1
 · rw [List.pairwise_map, List.pairwise_iff_getElem]
   intro i j hi hj hij
   obtain ⟨d1, hd1, e1⟩ := ho _ (List.getElem_mem hi)
   obtain ⟨d2, hd2, e2⟩ := ho _ (List.getElem_mem hj)
   have f1 : (entO (dOf D es'[i].nm)).1 = es'[i].nm := by rw [e1, dOf_eq hn hd1]; rfl
   have f2 : (entO (dOf D es'[j].nm)).1 = es'[j].nm := by rw [e2, dOf_eq hn hd2]; rfl
   rw [f1, f2]
   have hne : es'[i].nm ≠ es'[j].nm := fun e => by
    have h1 : i < (es'.map (·.nm)).length := by simpa using hi
    have h2 : j < (es'.map (·.nm)).length := by simpa using hj
    have := (List.getElem_inj (h₀ := h1) (h₁ := h2) hnn).1 (by simpa using e)
    omega
   have h := hs i j hi hj hij
   unfold cfE at h
   unfold ltN
   have n1 := cb_neg (bl es'[i].nm) (bl es'[j].nm)
   have n2 : Lib.compareBytes (bl es'[i].nm) (bl es'[j].nm) ≠ 0 := fun e => hne (bl_inj ((cb_eq _ _).1 e))
   unfold bl at *
   omega
set_option maxHeartbeats 1000000 in
theorem sortIdx_any (w w0 : World) (D : List Dc) (v : Value) (es : List Ent) (h : OwnEn w w0.heap.size v es) (hl : es.length ≤ 1000) (hn : (D.map (·.1)).Nodup) (hm : es.map (·.nm) = D.map (·.1))
 (ho : ∀ e ∈ es, EnOk D (fun g => v.ownBlock ≠ some g ∧ w0.heap.size ≤ g ∧ g < w.heap.size) w e) :
 Calls Tryz.prog 25 #[v, .func (.func 26) #[] #[]] w fun e w' =>
  e = .returned (.tuple #[]) ∧ ∃ I, IsIdx D I ∧ IxP (fun g => w0.heap.size ≤ g ∧ g < w'.heap.size) (fun g => w0.heap.size ≤ g ∧ g < w'.heap.size) w' v I ∧ Chg v.ownBlock.toList w w' := by
 obtain ⟨a, cap, rfl⟩ := ownsRow_shape h
 by_cases h0 : es = []
 · subst h0
   refine (AnyF.slices_SortFunc_none (P := Tryz.prog) (ρ := Tryz.laysSlF06_f22_ren) { Tryz.laysSlF06_f22 with } a cap _ _).mono ?_
   rintro e w' ⟨rfl, rfl⟩
   have hD : D = [] := by simpa using hm.symm
   subst hD
   exact ⟨rfl, [], ⟨List.Perm.refl _, List.Pairwise.nil⟩, ⟨a, cap, rfl, Nat.zero_le _, (OwnEn.bound h).2.2, fun hx => absurd hx (by simp)⟩, Chg.refl _ _⟩
 · have hpos : 0 < es.length := List.length_pos_iff.2 h0
   obtain ⟨_, b1, b2⟩ := OwnEn.bound h
   obtain ⟨blk, c, hv, hge, hlt⟩ := World.ownsRow.form h hpos
   simp only [Value.slice.injEq, true_and] at hv
   obtain ⟨rfl, rfl⟩ := hv
   have hs := sortEnts_any (cap := cap) es.toArray (holds_ents h) hlt (by simp; omega)
   simp only [List.size_toArray] at hs
   refine hs.mono ?_
   rintro e w' ⟨rfl, a', hsz, hp, hso, hH, hc⟩
   have hp' : a'.toList.Perm es := by simpa using hp
   have hmem : ∀ e ∈ a'.toList, e ∈ es := fun e he => hp'.mem_iff.1 he
   refine ⟨rfl, a'.toList.map fun e => entO (dOf D e.nm), isIdx_of hn hm hp' (fun e he => ?_) (fun i j hi hj hij => ?_), ?_, by simpa [Value.ownBlock] using hc⟩
   · obtain ⟨d, h1, h2, _⟩ := ho e (hmem e he)
     exact ⟨d, h1, h2⟩
   · have hi' : i < a'.size := by simpa using hi
     have hj' : j < a'.size := by simpa using hj
     have := hso i j hij (by omega)
     rw [getElem!_pos a' i hi', getElem!_pos a' j hj'] at this
     simpa using this
   · rw [← hsz]
     have := hc.size
     refine ents_read hn hH ⟨hge, by omega⟩ (by omega) b2 fun e he => (ho e (hmem e he)).mono hc.toP (fun g hg hm => ?_) (fun g hg => ⟨hg.2.1, by have := hg.2.2; omega⟩)
     rw [List.mem_singleton] at hm
     exact hg.1 (by rw [hm]; rfl)
set_option maxRecDepth 100000 in
set_option maxHeartbeats 4000000 in
theorem build_any (p : Nat → Prop) (w : World) (v : Value) (D : List Dc) (h : DcP p w v D) (hok : DcOk D) :
 Calls Tryz.prog 6 #[v] w fun e w' => ∃ u I, e = .returned (.tuple #[u, .int .i64 0]) ∧ IsIdx D I ∧ IxP (fun g => w.heap.size ≤ g ∧ g < w'.heap.size) (fun g => w.heap.size ≤ g ∧ g < w'.heap.size) w' u I ∧ Chg [] w w' := by
 obtain ⟨a, cap, rfl, hml, hcp⟩ := SlR.shape h
 have H := Lib.hid h
 have Hok := Lib.hid hok
 have hD20 := hok.len
 unfold maxLen at hml
 clear h hok
 go_enter Tryz.func6, Tryz.ntmps6
 go_wp2_with fail
 refine (validDocs_any p w _ D H.out Hok.out).mono ?_
 rintro e w1 ⟨rfl, hc1⟩
 have H1 := Lib.hid hc1
 clear hc1
 go_wp2_with fail
 go_loopw [5, 15] (fun v5 i wr => ∃ (n : Nat) (es : List Ent) (a5 : Option Addr) (c5 : Nat), n ≤ D.length ∧ i = .int .i64 (n : Nat) ∧ v5 = .slice a5 es.length c5 ∧ Hid (es.length = n) ∧ Hid (OwnEn wr w.heap.size v5 es ∧ Chg [] w wr) ∧ Hid (es.map (·.nm) = (D.take n).map (·.1) ∧ ∀ e ∈ es, EnOk D (fun g => v5.ownBlock ≠ some g ∧ w.heap.size ≤ g ∧ g < wr.heap.size) wr e)) (fun _ i _ => D.length - (intOf i).toNat)
 case atStart => exact ⟨0, [], none, 0, by omega, rfl, rfl, Lib.hid rfl, Lib.hid ⟨OwnEn.nil _ _, H1.out⟩, Lib.hid ⟨by simp, fun _ h => absurd h (by simp)⟩⟩
 case round =>
  obtain ⟨n, es, a5, c5, hn, rfl, rfl, Hel, HO, HE⟩ := hrel
  have hes : es.length ≤ 1000 := by have := Hel.out; omega
  by_cases hlt : n < D.length
  · obtain ⟨g, off, rfl, _, q0, q1, q2⟩ := (DcP.same H.out HO.out.2).cells n hlt
    obtain ⟨x, hx⟩ : ∃ x, D.getD n dc0 = x := ⟨_, rfl⟩
    have hxm : x ∈ D := by rw [← hx]; exact getD_memb hlt _
    have hxd : D[n] = x := by rw [← hx, List.getD_eq_getElem?_getD, List.getElem?_eq_getElem hlt]; rfl
    have Hxd := Lib.hid hxd
    clear hxd
    rw [hx] at q0 q1 q2
    obtain ⟨x1, x2, x3⟩ := x
    simp only at q0 q1 q2
    have lg := lt_of_cell q0
    have hn1 : (n : Int) < D.length := by omega
    have hn0 : (0 : Int) ≤ (n : Int) := by omega
    have Hx := Lib.hid hxm
    clear hx hxm
    obtain ⟨w2, hw2⟩ : ∃ q, q = wr.alloc (.cells #[.string x1, .int .i64 x2, .string x3] 28) := ⟨_, rfl⟩
    obtain ⟨n2, hn2⟩ : ∃ q, q = wr.heap.size := ⟨_, rfl⟩
    have hc2 : Chg [] wr w2 := by rw [hw2]; exact (Chg.refl [] _).alloc _
    have hb2 : w2.heap[n2]? = some (.cells #[.string x1, .int .i64 x2, .string x3] 28 (0, 0)) := by rw [hw2, hn2]; exact heap_at _ _ _ rfl
    have d0 : w2.cell? ⟨n2, 0, none⟩ = some (.string x1) := cell_of_heap hb2 rfl
    have d1 : w2.cell? ⟨n2, 1, none⟩ = some (.int .i64 x2) := cell_of_heap hb2 rfl
    have d2 : w2.cell? ⟨n2, 2, none⟩ = some (.string x3) := cell_of_heap hb2 rfl
    have ld := lt_of_cell d0
    have HW2 := Lib.hid (And.intro hw2 hn2)
    have Hc2 := Lib.hid hc2
    clear hw2 hn2 hc2 hb2
    have Hne := Lib.hid (newEntry_any x1 x2 x3 w2 (Hok.out.ok _ Hx.out).2.2)
    go_upto_region 8 with (fail)
    rw [← HW2.out.1, ← HW2.out.2]
    go_wp2_with fail
    refine Hne.out.mono ?_
    rintro e w3 ⟨a3, c3, rfl, hs3, hc3⟩
    have ho3 := (HO.out.1.same Hc2.out).same hc3
    have hcw3 := HO.out.2.trans (Hc2.out.trans hc3)
    obtain ⟨en, hen⟩ : ∃ e, e = Ent.mk x1 (ck x3.data.toList : Nat) a3 (words x3).length c3 := ⟨_, rfl⟩
    obtain ⟨w4, hw4⟩ : ∃ q, q = w3.alloc (.cells #[.string x1, .int .u32 (ck x3.data.toList : Nat), .slice a3 (words x3).length c3] 70) := ⟨_, rfl⟩
    obtain ⟨n4, hn4⟩ : ∃ q, q = w3.heap.size := ⟨_, rfl⟩
    have hc4 : Chg [] w3 w4 := by rw [hw4]; exact (Chg.refl [] _).alloc _
    have hb4 : w4.heap[n4]? = some (.cells #[.string en.nm, .int .u32 en.sum, .slice en.wa en.wn en.wc] 70 (0, 0)) := by rw [hw4, hn4, hen]; exact heap_at _ _ _ rfl
    obtain ⟨v7, w7, hr7, ho7, hc7, hb7⟩ := run_append_ent w4 29 w.heap.size _ es en n4 (ho3.same hc4) hb4 hes (hcw3.trans hc4).size
    obtain ⟨a7, c7, rfl⟩ := ownsRow_shape ho7
    have hOl : (es ++ [en]).length = es.length + 1 := by simp
    have hcw7 : Chg [] w w7 := (hcw3.trans hc4).comp hc7 fun g hg => Or.inr ((ho3.same hc4).lt g (by simpa using hg)).1
    have hsz := hcw3.size
    have hs4 := hc4.size
    have hs7 := hc7.size
    have hsw := (HO.out.2.trans Hc2.out).size
    have hs3' := hc3.size
    have hown : ∀ g, (Value.slice a5 es.length c5).ownBlock = some g → g < wr.heap.size := fun g hg => (HO.out.1.lt g hg).2
    have hE7 : ∀ e ∈ es ++ [en], EnOk D (fun g => (Value.slice a7 (es ++ [en]).length c7).ownBlock ≠ some g ∧ w.heap.size ≤ g ∧ g < w7.heap.size) w7 e := by
     intro e he
     rcases List.mem_append.1 he with he | he
     · refine (HE.out.2 e he).mono ((((Hc2.out.trans hc3).trans hc4).toP.mono (T := fun g => (Value.slice a5 es.length c5).ownBlock = some g) (fun _ h => absurd h (by simp))).trans (hc7.toP.mono fun g hg => by simpa using hg)) (fun g hg hm => hg.1 hm) (fun g hg => ⟨fun h7 => ?_, hg.2.1, by have := hg.2.2; have := (Hc2.out.trans hc3).size; omega⟩)
       rcases hb7 g h7 with h | h
       · exact hg.1 h
       · have := hg.2.2; have := (Hc2.out.trans hc3).size; omega
     · rw [List.mem_singleton] at he
       rw [he]
       refine ⟨_, Hx.out, by rw [hen], by rw [hen], (((by rw [hen]; exact hs3 : StrsP _ w3 en.wv (words x3)).kept (hc4.p (S := fun g => (Value.slice a5 es.length c5).ownBlock = some g)) (fun g hg hm => ?_)).kept (hc7.toP.mono (T := fun g => (Value.slice a5 es.length c5).ownBlock = some g) fun g hg => by simpa using hg) (fun g hg hm => ?_)).imp fun g hg => ⟨fun h7 => ?_, ?_, ?_⟩⟩
       · have := hown g hm; have := Hc2.out.size; have := hg.1; omega
       · have := hown g hm; have := Hc2.out.size; have := hg.1; omega
       · rcases hb7 g h7 with h | h
         · have := hown g h; have := Hc2.out.size; have := hg.1; omega
         · have := hg.2; omega
       · have := hg.1; omega
       · have := hg.2; omega
    have H7 := Lib.hid (show OwnEn w7 w.heap.size (.slice a7 (es.length + 1) c7) (es ++ [en]) ∧ Chg [] w w7 from ⟨by rw [← hOl]; exact ho7, hcw7⟩)
    rw [hOl] at hr7 hE7
    have HE7 := Lib.hid hE7
    have Hr7 := Lib.hid hr7
    have Hen := Lib.hid hen
    have HW4 := Lib.hid (And.intro hw4 hn4)
    have HOl := Lib.hid hOl
    clear hen hown hsz hs4 hs7 hsw hs3' ho3 hcw3 hw4 hn4 hc4 hb4 hr7 ho7 hc7 hb7 hOl hcw7 hE7 hs3 hc3
    go_wp2_with (at_builtin; rw [← HW4.out.1, ← HW4.out.2]; refine wpList_append_run rfl _ _ _ rfl _ _ _ _ rfl rfl Hr7.out ?_)
    refine ⟨⟨n + 1, es ++ [en], a7, c7, by omega, by go_num, by rw [HOl.out], Lib.hid (by rw [HOl.out, Hel.out]), H7, Lib.hid ⟨?_, HE7.out⟩⟩, by simp [intOf]; omega⟩
    rw [List.map_append, HE.out.1, List.take_succ_eq_append_getElem hlt, List.map_append, Hxd.out, Hen.out]
    rfl
  · have hn1 : ¬ ((n : Int) < D.length) := by omega
    have hnl : n = D.length := by omega
    go_wp2_with fail
    have hm : es.map (·.nm) = D.map (·.1) := by have := HE.out.1; rwa [hnl, List.take_length] at this
    refine (sortIdx_any wr w D _ es HO.out.1 hes Hok.out.nd hm HE.out.2).mono ?_
    rintro e w9 ⟨rfl, I, hI, hx, hc9⟩
    have H9 := Lib.hid (And.intro hI (And.intro hx hc9))
    clear hI hx hc9
    go_wp2_with fail
    go_ret2
    exact ⟨_, I, rfl, H9.out.1, H9.out.2.1, HO.out.2.comp H9.out.2.2 fun g hg => Or.inr (HO.out.1.lt g (by simpa using hg)).1⟩
end Go.Proofs.YtjlknaahpjiibaaGreatDoor
namespace Go.Proofs.YtjlknaahpjiibaaGreatDoor
open Go.RowKit Go.ChangeMaps Go.MapKept Go.Shelf
set_option linter.unusedVariables false
set_option linter.unusedSimpArgs false
def memb (k : ByteArray) (ks : List ByteArray) : Bool := ks.any fun x => decide (k = x)
theorem memb_iff (k : ByteArray) (ks : List ByteArray) : memb k ks = true ↔ k ∈ ks := by
 unfold memb
 rw [List.any_eq_true]
 exact ⟨fun ⟨x, hx, he⟩ => by rw [of_decide_eq_true he]; exact hx, fun h => ⟨k, h, decide_eq_true rfl⟩⟩
set_option maxHeartbeats 4000000 in
theorem eqStrs_any (p q : Nat → Prop) (w : World) (v1 v2 : Value) (E : List ByteArray) (h1 : StrsP p w v1 E) (h2 : StrsP q w v2 E) :
 Calls Tryz.prog 16 #[v1, v2] w fun e w' => e = .returned (.bool true) ∧ Chg [] w w' := by
 obtain ⟨a1, cap1, rfl, hml, hcp1⟩ := h1.shape
 obtain ⟨a2, cap2, rfl, _, hcp2⟩ := h2.shape
 have H1 := Lib.hid h1
 have H2 := Lib.hid h2
 unfold maxLen at hml
 clear h1 h2
 go_enter Tryz.func16, Tryz.ntmps16
 go_wp2_with fail
 go_loopw [14] (fun i wr => ∃ k : Nat, k ≤ E.length ∧ i = .int .i64 (k : Nat) ∧ Chg [] w wr) (fun i _ => E.length - (intOf i).toNat)
 case atStart => exact ⟨0, by omega, rfl, Chg.refl _ _⟩
 case round =>
  obtain ⟨k, hk, rfl, hc⟩ := hrel
  by_cases hlt : k < E.length
  · obtain ⟨g, off, rfl, hp, c0⟩ := (H1.out.same hc).cell k hlt
    obtain ⟨g2, off2, rfl, hp2, d0⟩ := (H2.out.same hc).cell k hlt
    obtain ⟨x, hr⟩ : ∃ r, E.getD k ⟨#[]⟩ = r := ⟨_, rfl⟩
    rw [hr] at c0 d0
    have Hc := Lib.hid hc
    have hk1 : (k : Int) < E.length := by omega
    clear hr hc
    go_wp2_with fail
    exact ⟨⟨k + 1, by omega, by go_num, Hc.out⟩, by simp [intOf]; omega⟩
  · obtain rfl : k = E.length := by omega
    have hk1 : ¬ ((E.length : Int) < E.length) := by omega
    have Hc := Lib.hid hc
    clear hc
    go_wp2_with fail
    go_ret
    exact ⟨rfl, Hc.out⟩
theorem sortedW_ext {l m : List ByteArray} (hl : l.Pairwise fun a b => bl a < bl b) (hm : m.Pairwise fun a b => bl a < bl b) (h : ∀ x, x ∈ l ↔ x ∈ m) : l = m := by
 have nd : ∀ {l : List ByteArray}, (l.Pairwise fun a b => bl a < bl b) → l.Nodup := fun h => List.Pairwise.imp (fun {a b} (hab : bl a < bl b) => show a ≠ b from fun e => List.lt_irrefl (bl b) (by rw [e] at hab; exact hab)) h
 have hp : l.Perm m := (List.perm_ext_iff_of_nodup (nd hl) (nd hm)).2 h
 exact hp.eq_of_pairwise (le := fun a b => bl a < bl b) (fun a b _ _ h1 h2 => absurd (List.lt_trans h1 h2) (List.lt_irrefl _)) hl hm
end Go.Proofs.YtjlknaahpjiibaaGreatDoor
namespace Go.Proofs.YtjlknaahpjiibaaGreatDoor
open Go.RowKit Go.ChangeMaps Go.MapKept Go.Shelf
set_option linter.unusedVariables false
theorem runsA_ne : ∀ (l acc x : List UInt8), x ∈ runsA acc l → x ≠ []
 | [], acc, x, h => by
   simp only [runsA] at h
   split at h
   · cases h
   · rename_i hn
     rw [List.mem_singleton.1 h]; exact hn
 | c :: r, acc, x, h => by
   simp only [runsA] at h
   split at h
   · exact runsA_ne r _ x h
   · rcases List.mem_append.1 h with h | h
     · split at h
       · cases h
       · rename_i hn
         rw [List.mem_singleton.1 h]; exact hn
     · exact runsA_ne r _ x h
theorem runsA_isW : ∀ (l acc x : List UInt8), (∀ c ∈ acc, isW c = true) → x ∈ runsA acc l → ∀ c ∈ x, isW c = true
 | [], acc, x, ha, h => by
   simp only [runsA] at h
   split at h
   · cases h
   · rw [List.mem_singleton.1 h]; exact ha
 | c :: r, acc, x, ha, h => by
   simp only [runsA] at h
   split at h
   · rename_i hc
     refine runsA_isW r _ x (fun d hd => ?_) h
     rcases List.mem_append.1 hd with hd | hd
     · exact ha d hd
     · rw [List.mem_singleton.1 hd]; exact hc
   · rcases List.mem_append.1 h with h | h
     · split at h
       · cases h
       · rw [List.mem_singleton.1 h]; exact ha
     · exact runsA_isW r _ x (by simp) h
theorem runsA_sum : ∀ (l acc : List UInt8), ((runsA acc l).map fun x => x.length + 1).sum ≤ l.length + acc.length + 1
 | [], acc => by simp only [runsA]; split <;> simp
 | c :: r, acc => by
   simp only [runsA]
   split
   · have := runsA_sum r (acc ++ [c])
     simp only [List.length_append, List.length_cons, List.length_nil] at this ⊢
     omega
   · have := runsA_sum r []
     rw [List.map_append, List.sum_append]
     simp only [List.length_cons, List.length_nil] at this ⊢
     split <;> simp <;> omega
theorem sub_sum {l m : List Nat} (h : l.Sublist m) : l.sum ≤ m.sum := by
 induction h with
 | slnil => exact Nat.le_refl _
 | cons a _ ih => simp only [List.sum_cons]; omega
 | cons_cons a _ ih => simp only [List.sum_cons]; omega
theorem range_get (zs : List (List UInt8)) : (List.range zs.length).map (fun j => zs.toArray[j]!) = zs := by
 refine List.ext_getElem (by simp) fun i h1 h2 => ?_
 rw [List.getElem_map, List.getElem_range]
 exact get_arr zs i h2
theorem compact_sub (zs : List (List UInt8)) : (Lib.compact zs).Sublist zs := by
 have h : (Lib.compact zs).Sublist ((List.range zs.length).map (fun j => zs.toArray[j]!)) := by
  unfold Lib.compact Lib.compactUpTo
  exact List.filter_sublist.map _
 rwa [range_get] at h
def wsum (l : List ByteArray) : Nat := (l.map fun x => x.size + 1).sum
theorem wsum_take (l : List ByteArray) (k : Nat) (hk : k < l.length) : wsum (l.take (k + 1)) = wsum (l.take k) + (l[k].size + 1) := by
 unfold wsum
 rw [List.take_succ_eq_append_getElem hk, List.map_append, List.sum_append]
 simp
theorem wsum_sub {l m : List ByteArray} (h : l.Sublist m) : wsum l ≤ wsum m := sub_sum (h.map _)
theorem wsum_take_le (l : List ByteArray) (k : Nat) : wsum (l.take k) ≤ wsum l := wsum_sub (List.take_sublist k l)
theorem dd_sub (l : List ByteArray) : (dd l).Sublist l := by
 have h := (compact_sub (l.map bl)).map lb
 rw [List.map_map, show lb ∘ bl = id from funext lb_bl, List.map_id] at h
 exact h
theorem wsum_wordsD (t : ByteArray) : wsum (wordsD t) ≤ t.size + 1 := by
 refine Nat.le_trans (wsum_sub (dd_sub _)) ?_
 have hp : wsum (srt (wordsR t)) = wsum (wordsR t) := by
  unfold wsum
  exact ((srt_perm (wordsR t)).map _).sum_nat
 rw [hp]
 unfold wsum wordsR
 rw [List.map_map]
 have := runsA_sum (bl t) []
 exact this
structure WsOk (l : List ByteArray) : Prop where
 lt : l.Pairwise fun a b => bl a < bl b
 ne : ∀ x ∈ l, 0 < x.size
 isw : ∀ x ∈ l, ∀ c ∈ bl x, isW c = true
 sum : wsum l ≤ 2001
 len : l.length ≤ 400
theorem words_ok (t : ByteArray) (ht : t.size ≤ 2000) : WsOk (words t) := by
 have hm : ∀ x ∈ words t, x ∈ wordsR t := fun x hx => (wordsD_mem t x).1 (List.mem_of_mem_take hx)
 have hr : ∀ x ∈ words t, bl x ∈ runsA [] (bl t) := fun x hx => by
  obtain ⟨y, hy, rfl⟩ := List.mem_map.1 (hm x hx)
  rw [bl_lb]; exact hy
 refine ⟨(wordsD_lt t).sublist (List.take_sublist _ _), fun x hx => ?_, fun x hx => runsA_isW _ _ _ (by simp) (hr x hx), ?_, ?_⟩
 · have := runsA_ne _ _ _ (hr x hx)
   have h3 : (bl x).length = x.size := rfl
   have := List.length_pos_iff.2 this
   omega
 · have h1 := wsum_wordsD t
   have h2 := wsum_take_le (wordsD t) 400
   unfold words
   omega
 · unfold words
   rw [List.length_take]
   omega
end Go.Proofs.YtjlknaahpjiibaaGreatDoor
namespace Go.Proofs.YtjlknaahpjiibaaGreatDoor
open Go.RowKit Go.ChangeMaps Go.MapKept Go.Shelf
set_option linter.unusedVariables false
set_option linter.unusedSimpArgs false
theorem bytesLess_iff : ∀ (a b : List UInt8), Op.bytesLess a b = true ↔ a < b := by
 intro a
 induction a with
 | nil => intro b; cases b <;> simp [Op.bytesLess]
 | cons x a ih =>
   intro b
   cases b with
   | nil => simp [Op.bytesLess]
   | cons y b =>
     unfold Op.bytesLess
     rw [List.cons_lt_cons_iff, Bool.or_eq_true, Bool.and_eq_true, decide_eq_true_iff, beq_iff_eq, ih]
theorem less_of {a b : ByteArray} (h : bl a < bl b) : Op.bytesLess a.toList b.toList = true := by
 rw [bytesLess_iff, ByteArray.toList_eq, ByteArray.toList_eq]
 exact h
theorem getD_eqS {l : List ByteArray} {i : Nat} (h : i < l.length) : l.getD i ⟨#[]⟩ = l[i] := by rw [List.getD_eq_getElem?_getD, List.getElem?_eq_getElem h]; rfl
theorem ByteArray_mem (z : ByteArray) (m : Nat) (h : m < z.size) : z[m] ∈ z.data.toList := by
 have e : z.data.toList[m]'(by simpa using h) = z[m] := rfl
 rw [← e]
 exact List.getElem_mem _
set_option maxRecDepth 100000 in
set_option maxHeartbeats 4000000 in
theorem validWords_any (p : Nat → Prop) (w : World) (v : Value) (l : List ByteArray) (h : StrsP p w v l) (hok : WsOk l) :
 Calls Tryz.prog 56 #[v] w fun e w' => e = .returned (.bool true) ∧ w' = w := by
 obtain ⟨a, cap, rfl, hml, hcp⟩ := h.shape
 have H := Lib.hid h
 have Hok := Lib.hid hok
 have hl4 : (l.length : Int) ≤ 400 := by have := hok.len; omega
 unfold maxLen at hml
 clear h hok
 go_enter Tryz.func56, Tryz.ntmps56
 go_wp2_with fail
 go_loopw [3, 9] (fun s i wr => ∃ (k q : Nat), k ≤ l.length ∧ i = .int .i64 (k : Nat) ∧ s = .int .i64 (q : Nat) ∧ q ≤ 2001 ∧ Hid (q = wsum (l.take k)) ∧ Hid (wr = w)) (fun _ i _ => l.length - (intOf i).toNat)
 case atStart => exact ⟨0, 0, by omega, rfl, rfl, by omega, Lib.hid rfl, Lib.hid rfl⟩
 case round =>
  obtain ⟨k, q, hk, rfl, rfl, hq, Hq, Hw⟩ := hrel
  by_cases hlt : k < l.length
  · obtain ⟨g, off, rfl, _, c0⟩ := (show StrsP p wr _ l by rw [Hw.out]; exact H.out).cell k hlt
    obtain ⟨z, hz⟩ : ∃ r, l.getD k ⟨#[]⟩ = r := ⟨_, rfl⟩
    have Hz := Lib.hid ((getD_eqS hlt).symm.trans hz)
    rw [hz] at c0
    have lg := lt_of_cell c0
    clear hz
    have hk1 : (k : Int) < l.length := by omega
    have hk0 : (0 : Int) ≤ (k : Int) := by omega
    have hzm : z ∈ l := by rw [← Hz.out]; exact List.getElem_mem hlt
    have hq2 : q + (z.size + 1) ≤ 2001 := by
     have h1 := wsum_take l k hlt
     have h2 := wsum_take_le l (k + 1)
     have h3 := Hok.out.sum
     rw [Hz.out] at h1
     have := Hq.out
     omega
    have Hq2 := Lib.hid (show q + (z.size + 1) = wsum (l.take (k + 1)) by rw [wsum_take l k hlt, Hz.out, Hq.out])
    have Hzw := Lib.hid (Hok.out.isw z hzm)
    have hze : (z.toList == []) = false := by
     rw [beq_eq_false_iff_ne, ByteArray.toList_eq]
     intro e
     have h1 := Hok.out.ne z hzm
     have : z.data.toList.length = 0 := by rw [e]; rfl
     have h3 : z.data.toList.length = z.size := rfl
     omega
    clear hzm
    go_upto_region 6 with (fail)
    by_cases hkz : k = 0
    · have hkp : decide ((0 : Int) < (k : Int)) = false := decide_eq_false (by omega)
      have hkn : decide (0 < k) = false := decide_eq_false (by omega)
      have hkm : ¬ (0 < (k : Int)) := by omega
      clear hkz
      go_wp2_with fail
      go_loopw [36] (fun i wx => ∃ m : Nat, m ≤ z.size ∧ i = .int .i64 (m : Nat) ∧ Hid (wx = w)) (fun i _ => z.size - (intOf i).toNat)
      case atStart => exact ⟨0, by omega, rfl, Hw⟩
      case round =>
       obtain ⟨m, hm, rfl, Hwx⟩ := hrel
       by_cases hmt : m < z.size
       · have hm1 : (m : Int) < z.size := by omega
         have hm0 : (0 : Int) ≤ (m : Int) := by omega
         have hwb := isWord_any z[m]
         rw [Hzw.out _ (by unfold bl; exact ByteArray_mem z m hmt)] at hwb
         have Hwb := Lib.hid hwb
         clear hwb
         go_wp2_with fail
         refine (Hwb.out _).mono ?_
         rintro e w5 ⟨rfl, rfl⟩
         go_wp2_with fail
         exact ⟨⟨m + 1, by omega, by go_num, Hwx⟩, by simp [intOf]; omega⟩
       · have hm1 : ¬ ((m : Int) < z.size) := by omega
         go_wp2_with fail
         exact ⟨⟨k + 1, q + (z.size + 1), by omega, by go_num, by go_num, hq2, Hq2, Hwx⟩, by simp [intOf]; omega⟩
    · have hkp : (0 : Int) < (k : Int) := by omega
      have hkn : decide (0 < k) = true := decide_eq_true (by omega)
      obtain ⟨j, hj⟩ : ∃ j : Nat, (k : Int) - 1 = (j : Int) := ⟨k - 1, by omega⟩
      have hjl : j < l.length := by omega
      obtain ⟨g', off', he, _, c1⟩ := (show StrsP p wr _ l by rw [Hw.out]; exact H.out).cell j hjl
      cases he
      obtain ⟨y, hy⟩ : ∃ r, l.getD j ⟨#[]⟩ = r := ⟨_, rfl⟩
      rw [hy] at c1
      have hyz : Op.bytesLess y.toList z.toList = true := by
       refine less_of ?_
       rw [← hy, ← Hz.out, getD_eqS hjl]
       exact (List.pairwise_iff_getElem.1 Hok.out.lt) j k hjl hlt (by omega)
      have hj1 : (j : Int) < l.length := by omega
      have hj0 : (0 : Int) ≤ (j : Int) := by omega
      have hjw : IntKind.i64.wrap ((k : Int) - 1) = (j : Int) := by rw [IntWalk.i64_in _ (by omega), hj]
      clear hy hkz
      go_wp2_with fail
      go_loopw [36] (fun i wx => ∃ m : Nat, m ≤ z.size ∧ i = .int .i64 (m : Nat) ∧ Hid (wx = w)) (fun i _ => z.size - (intOf i).toNat)
      case atStart => exact ⟨0, by omega, rfl, Hw⟩
      case round =>
       obtain ⟨m, hm, rfl, Hwx⟩ := hrel
       by_cases hmt : m < z.size
       · have hm1 : (m : Int) < z.size := by omega
         have hm0 : (0 : Int) ≤ (m : Int) := by omega
         have hwb := isWord_any z[m]
         rw [Hzw.out _ (by unfold bl; exact ByteArray_mem z m hmt)] at hwb
         have Hwb := Lib.hid hwb
         clear hwb
         go_wp2_with fail
         refine (Hwb.out _).mono ?_
         rintro e w5 ⟨rfl, rfl⟩
         go_wp2_with fail
         exact ⟨⟨m + 1, by omega, by go_num, Hwx⟩, by simp [intOf]; omega⟩
       · have hm1 : ¬ ((m : Int) < z.size) := by omega
         go_wp2_with fail
         exact ⟨⟨k + 1, q + (z.size + 1), by omega, by go_num, by go_num, hq2, Hq2, Hwx⟩, by simp [intOf]; omega⟩
  · have hk1 : ¬ ((k : Int) < l.length) := by omega
    have hkl : k = l.length := by omega
    have hq3 : (q : Int) ≤ 2001 := by omega
    clear hkl
    go_wp2_with fail
    go_ret
    exact ⟨rfl, Hw.out⟩
theorem cb_less : ∀ (a b : List UInt8), Lib.compareBytes a b < 0 → Op.bytesLess a b = true := by
 intro a
 induction a with
 | nil => intro b h; cases b <;> simp_all [Lib.compareBytes, Op.bytesLess]
 | cons x a ih =>
   intro b h
   cases b with
   | nil => simp [Lib.compareBytes] at h
   | cons y b =>
     unfold Lib.compareBytes at h
     unfold Op.bytesLess
     rw [Bool.or_eq_true, Bool.and_eq_true, decide_eq_true_iff, beq_iff_eq]
     by_cases h1 : x < y
     · exact Or.inl h1
     · rw [if_neg h1] at h
       by_cases h2 : y < x
       · rw [if_pos h2] at h; omega
       · rw [if_neg h2] at h
         rw [UInt8.lt_iff_toNat_lt] at h1 h2
         exact Or.inr ⟨UInt8.toNat_inj.1 (by omega), ih b h⟩
theorem ltN_less {a b : ByteArray} (h : ltN a b) : Op.bytesLess a.toList b.toList = true := by
 rw [ByteArray.toList_eq, ByteArray.toList_eq]
 exact cb_less _ _ h
structure IxOk (I : List Ie) : Prop where
 len : I.length ≤ 20
 lt : I.Pairwise fun a b => ltN a.1 b.1
 ok : ∀ x ∈ I, 0 < x.1.size ∧ x.1.size ≤ 60 ∧ WsOk x.2.2
theorem getD_eqI {l : List Ie} {i : Nat} (h : i < l.length) : l.getD i ie0 = l[i] := by rw [List.getD_eq_getElem?_getD, List.getElem?_eq_getElem h]; rfl
theorem ne_toList {z : ByteArray} (h : 0 < z.size) : (z.toList == []) = false := by
 rw [beq_eq_false_iff_ne, ByteArray.toList_eq]
 intro e
 have : z.data.toList.length = 0 := by rw [e]; rfl
 have h3 : z.data.toList.length = z.size := rfl
 omega
set_option maxRecDepth 100000 in
set_option maxHeartbeats 4000000 in
theorem valid_any (p q : Nat → Prop) (w : World) (v : Value) (I : List Ie) (h : IxP p q w v I) (hok : IxOk I) :
 Calls Tryz.prog 27 #[v] w fun e w' => e = .returned (.bool true) ∧ Chg [] w w' := by
 obtain ⟨a, cap, rfl, hml, hcp⟩ := h.shape
 have H := Lib.hid h
 have Hok := Lib.hid hok
 have hl4 : (I.length : Int) ≤ 20 := by have := hok.len; omega
 unfold maxLen at hml
 clear h hok
 go_enter Tryz.func27, Tryz.ntmps27
 go_wp2_with fail
 go_loopw [7] (fun i wr => ∃ (k : Nat), k ≤ I.length ∧ i = .int .i64 (k : Nat) ∧ Hid (Chg [] w wr)) (fun i _ => I.length - (intOf i).toNat)
 case atStart => exact ⟨0, by omega, rfl, Lib.hid (Chg.refl _ _)⟩
 case round =>
  obtain ⟨k, hk, rfl, Hw⟩ := hrel
  by_cases hlt : k < I.length
  · obtain ⟨g, off, rfl, _, c0, c1, ua, uc, c2, hs⟩ := (H.out.same Hw.out).cells k hlt
    obtain ⟨x, hx⟩ : ∃ r, I.getD k ie0 = r := ⟨_, rfl⟩
    have Hx := Lib.hid ((getD_eqI hlt).symm.trans hx)
    rw [hx] at c0 c1 c2 hs
    clear hx
    have hxm : x ∈ I := by rw [← Hx.out]; exact List.getElem_mem hlt
    have Hxo := Lib.hid (Hok.out.ok x hxm)
    clear hxm
    obtain ⟨nm, sm, ws⟩ := x
    simp only at c0 c1 c2 hs
    have lg := lt_of_cell c0
    have hk1 : (k : Int) < I.length := by omega
    have hk0 : (0 : Int) ≤ (k : Int) := by omega
    have hze : (nm.toList == []) = false := ne_toList Hxo.out.1
    have h60 : decide ((60 : Int) < (nm.size : Int)) = false := decide_eq_false (by have := Hxo.out.2.1; simp only at this; omega)
    have h60n : decide (60 < nm.size) = false := decide_eq_false (by have := Hxo.out.2.1; simp only at this; omega)
    obtain ⟨w2, hw2⟩ : ∃ q, q = wr.alloc (.cells #[.string nm, .int .u32 sm, .slice ua ws.length uc] 70) := ⟨_, rfl⟩
    obtain ⟨n2, hn2⟩ : ∃ q, q = wr.heap.size := ⟨_, rfl⟩
    have hc2 : Chg [] wr w2 := by rw [hw2]; exact (Chg.refl [] _).alloc _
    have hb2 : w2.heap[n2]? = some (.cells #[.string nm, .int .u32 sm, .slice ua ws.length uc] 70 (0, 0)) := by rw [hw2, hn2]; exact heap_at _ _ _ rfl
    have d0 : w2.cell? ⟨n2, 0, none⟩ = some (.string nm) := cell_of_heap hb2 rfl
    have d2 : w2.cell? ⟨n2, 2, none⟩ = some (.slice ua ws.length uc) := cell_of_heap hb2 rfl
    have ld := lt_of_cell d0
    have Hvw := Lib.hid (fun (W : World) (hW : Chg [] wr W) => validWords_any q W _ ws (hs.same hW) Hxo.out.2.2)
    have HW2 := Lib.hid (And.intro hw2 hn2)
    have Hc2 := Lib.hid hc2
    have Hc02 := Lib.hid (Hw.out.trans hc2)
    clear hw2 hn2 hc2 hb2 hs
    go_upto_region 4 with (fail)
    rw [← HW2.out.1, ← HW2.out.2]
    by_cases hkz : k = 0
    · have hkp : decide ((0 : Int) < (k : Int)) = false := decide_eq_false (by omega)
      have hkn : decide (0 < k) = false := decide_eq_false (by omega)
      clear hkz
      go_quiet ((go_at_call 56; (refine Calls.quiet_of_same (Hvw.out _ ?_)); first | exact Hc2.out.drewN _ | exact Hc2.out.drew | exact Hc2.out))
      go_wp2_with fail
      exact ⟨⟨k + 1, by omega, by go_num, Lib.hid (Hc02.out.drewN _)⟩, by simp [intOf]; omega⟩
    · have hkp : (0 : Int) < (k : Int) := by omega
      have hkn : decide (0 < k) = true := decide_eq_true (by omega)
      obtain ⟨j, hj⟩ : ∃ j : Nat, (k : Int) - 1 = (j : Int) := ⟨k - 1, by omega⟩
      have hjl : j < I.length := by omega
      obtain ⟨g', off', he, _, b0, _⟩ := (H.out.same Hc02.out).cells j hjl
      cases he
      obtain ⟨y, hy⟩ : ∃ r, (I.getD j ie0).1 = r := ⟨_, rfl⟩
      rw [hy] at b0
      have hyz : Op.bytesLess y.toList nm.toList = true := by
       refine ltN_less ?_
       have := (List.pairwise_iff_getElem.1 Hok.out.lt) j k hjl hlt (by omega)
       rw [Hx.out] at this
       rw [← hy, getD_eqI hjl]
       exact this
      have hj1 : (j : Int) < I.length := by omega
      have hj0 : (0 : Int) ≤ (j : Int) := by omega
      have hjw : IntKind.i64.wrap ((k : Int) - 1) = (j : Int) := by rw [IntWalk.i64_in _ (by omega), hj]
      clear hy hkz hj
      go_quiet ((go_at_call 56; (refine Calls.quiet_of_same (Hvw.out _ ?_)); first | exact Hc2.out.drewN _ | exact Hc2.out.drew | exact Hc2.out))
      go_wp2_with fail
      exact ⟨⟨k + 1, by omega, by go_num, Lib.hid (Hc02.out.drewN _)⟩, by simp [intOf]; omega⟩
  · have hk1 : ¬ ((k : Int) < I.length) := by omega
    go_wp2_with fail
    go_ret
    exact ⟨rfl, Hw.out⟩
theorem row_set {w : World} {base g n cap sz i : Nat} {e : TypeId} {xs : List Value} {u : Value} (h : w.ownsRow base e sz (.slice (some ⟨g, 0, none⟩) n cap) n xs) (hi : i < n * sz) : (w.setCell ⟨g, i, none⟩ u).ownsRow base e sz (.slice (some ⟨g, 0, none⟩) n cap) n (xs.set i u) := by
 refine ⟨by rw [List.length_set]; exact h.1, ?_⟩
 rcases h.2 with ⟨h0, _⟩ | ⟨g', cap', cur, hv, h1, h2, h3, h4, h5, h6⟩
 · cases h0
 · cases hv
   refine .inr ⟨g, cap, cur.setIfInBounds i u, rfl, h1, heap_setCell_same h2 u, h3, h4, by simpa using h5, ?_⟩
   rw [Array.toList_setIfInBounds, List.take_set, h6]
set_option maxRecDepth 100000 in
set_option maxHeartbeats 4000000 in
theorem eqIx_any (p1 q1 p2 q2 : Nat → Prop) (w : World) (v1 v2 : Value) (I : List Ie) (h1 : IxP p1 q1 w v1 I) (h2 : IxP p2 q2 w v2 I) :
 Calls Tryz.prog 15 #[v1, v2] w fun e w' => e = .returned (.bool true) ∧ Chg [] w w' := by
 obtain ⟨a1, cap1, rfl, hml, hcp1⟩ := h1.shape
 obtain ⟨a2, cap2, rfl, _, hcp2⟩ := h2.shape
 have H1 := Lib.hid h1
 have H2 := Lib.hid h2
 unfold maxLen at hml
 clear h1 h2
 go_enter Tryz.func15, Tryz.ntmps15
 go_wp2_with fail
 go_loopw [13] (fun i wr => ∃ k : Nat, k ≤ I.length ∧ i = .int .i64 (k : Nat) ∧ Hid (Chg [] w wr)) (fun i _ => I.length - (intOf i).toNat)
 case atStart => exact ⟨0, by omega, rfl, Lib.hid (Chg.refl _ _)⟩
 case round =>
  obtain ⟨k, hk, rfl, Hc⟩ := hrel
  by_cases hlt : k < I.length
  · obtain ⟨g1, o1, rfl, _, x0, x1, ua, uc, x2, hs1⟩ := (H1.out.same Hc.out).cells k hlt
    obtain ⟨g2, o2, rfl, _, y0, y1, va, vc, y2, hs2⟩ := (H2.out.same Hc.out).cells k hlt
    obtain ⟨x, hx⟩ : ∃ x, I.getD k ie0 = x := ⟨_, rfl⟩
    rw [hx] at x0 x1 x2 hs1 y0 y1 y2 hs2
    obtain ⟨nm, sm, ws⟩ := x
    simp only at x0 x1 x2 hs1 y0 y1 y2 hs2
    have l1 := lt_of_cell x0
    have l2 := lt_of_cell y0
    have hk1 : (k : Int) < I.length := by omega
    have hk0 : (0 : Int) ≤ (k : Int) := by omega
    have hb : (nm.toList == nm.toList) = true := by rw [beqS]; exact decide_eq_true rfl
    have Heq := Lib.hid (fun (W : World) (hW : Chg [] wr W) => eqStrs_any q1 q2 W _ _ ws (hs1.same hW) (hs2.same hW))
    clear hx hs1 hs2
    go_upto_region 6 with (fail)
    go_region_held3 (fun W => W.cell? ⟨g1, o1 + k * 3, none⟩ = some (.string nm) ∧ W.cell? ⟨g1, o1 + k * 3 + 1, none⟩ = some (.int .u32 sm) ∧ W.cell? ⟨g1, o1 + k * 3 + 2, none⟩ = some (.slice ua ws.length uc) ∧ W.cell? ⟨g2, o2 + k * 3, none⟩ = some (.string nm) ∧ W.cell? ⟨g2, o2 + k * 3 + 1, none⟩ = some (.int .u32 sm) ∧ W.cell? ⟨g2, o2 + k * 3 + 2, none⟩ = some (.slice va ws.length vc))
     (first | (go_keep; done) | (exact ⟨r0, r1, r2, s0, s1, s2⟩))
     (first | (go_at_call 16; refine (Heq.out _ (Chg.refl [] wr).drew).mono ?_; rintro e w5 ⟨rfl, hc5'⟩; have hc5 : Chg [] wr w5 := ((Chg.refl [] wr).drew).trans hc5'; have r0 := (hc5.cell l1 (by simp)).trans x0; have r1 := (hc5.cell (p := ⟨g1, o1 + k * 3 + 1, none⟩) l1 (by simp)).trans x1; have r2 := (hc5.cell (p := ⟨g1, o1 + k * 3 + 2, none⟩) l1 (by simp)).trans x2; have s0 := (hc5.cell l2 (by simp)).trans y0; have s1 := (hc5.cell (p := ⟨g2, o2 + k * 3 + 1, none⟩) l2 (by simp)).trans y1; have s2 := (hc5.cell (p := ⟨g2, o2 + k * 3 + 2, none⟩) l2 (by simp)).trans y2; have H5 := Lib.hid (Hc.out.trans hc5); clear hc5 hc5'))
    all_goals
     go_wp2_with fail
     exact ⟨⟨k + 1, by omega, by go_num, H5⟩, by simp [intOf]; omega⟩
  · have hk1 : ¬ ((k : Int) < I.length) := by omega
    go_wp2_with fail
    go_ret
    exact ⟨rfl, Hc.out⟩
def digits : ByteArray := ⟨#[48, 49, 50, 51, 52, 53, 54, 55, 56, 57]⟩
def dec (n : Nat) : ByteArray := digits.extract n (n + 1)
set_option maxHeartbeats 1000000 in
theorem decimal_any (n : Nat) (w : World) (hn : n < 10) : Calls Tryz.prog 5 #[.int .i64 (n : Nat)] w fun e w' => e = .returned (.string (dec n)) ∧ w' = w := by
 have h1 : ¬ ((n : Int) < 0) := by omega
 have h2 : (n : Int) < 10 := by omega
 have h3 : (0 : Int) ≤ (n : Int) := by omega
 have h4 : (n : Int) ≤ (n : Int) + 1 := by omega
 have h5 : (n : Int) + 1 ≤ 10 := by omega
 have h6 : ((n : Int) + 1).toNat = n + 1 := by omega
 go_enter Tryz.func5, Tryz.ntmps5
 go_wp2_with fail
 go_ret
 exact ⟨by rfl, rfl⟩
def encD (d : Dc) : List Value := [.string d.1, .int .i64 d.2.1, .string d.2.2]
def dcCells (l : List Dc) : List Value := l.flatMap encD
theorem dcCells_len (l : List Dc) : (dcCells l).length = l.length * 3 := by
 induction l with
 | nil => rfl
 | cons x r ih =>
   have : dcCells (x :: r) = encD x ++ dcCells r := by simp [dcCells]
   rw [this, List.length_append, ih]
   simp only [encD, List.length_cons, List.length_nil]
   omega
theorem dcCells_append (l m : List Dc) : dcCells (l ++ m) = dcCells l ++ dcCells m := by simp [dcCells, List.flatMap_append]
theorem dcCells_one (e : Dc) : dcCells [e] = encD e := by simp [dcCells]
theorem dcCells_oneCell (l : List Dc) : ∀ u ∈ dcCells l, u.oneCell' = true := by
 intro u hu
 simp only [dcCells, encD, List.mem_flatMap, List.mem_cons, List.not_mem_nil, or_false] at hu
 obtain ⟨e, _, h | h | h⟩ := hu <;> subst h <;> rfl
theorem dcCells_get (xs : List Dc) : ∀ (j : Nat) (h : j < xs.length) (c : Nat) (hc : c < 3), (dcCells xs)[j * 3 + c]? = (encD xs[j])[c]? := by
 induction xs with
 | nil => intro j h; simp at h
 | cons x r ih =>
   intro j h c hc
   have e : dcCells (x :: r) = encD x ++ dcCells r := by simp [dcCells]
   rw [e]
   cases j with
   | zero => rw [List.getElem?_append_left (by simp [encD]; omega)]; simp
   | succ j =>
     have h' := ih j (by simpa using h) c hc
     rw [List.getElem?_append_right (by simp [encD]; omega)]
     have : (j + 1) * 3 + c - (encD x).length = j * 3 + c := by simp only [encD, List.length_cons, List.length_nil]; omega
     rw [this, h']
     simp
def OwnD (w : World) (base : Nat) (v : Value) (l : List Dc) : Prop := w.ownsRow base 28 3 v l.length (dcCells l)
theorem OwnD.nil (w : World) (base : Nat) : OwnD w base (.slice none 0 0) [] := ⟨rfl, .inl ⟨rfl, rfl⟩⟩
theorem OwnD.kept {w w' : World} {base : Nat} {v : Value} {xs : List Dc} {S : Nat → Prop} (h : OwnD w base v xs) (hc : ChgP S w w') (hS : ∀ g, v.ownBlock = some g → ¬ S g) : OwnD w' base v xs :=
 ownsRow_kept h fun g hg hl => hc.block g hl (hS g hg)
theorem OwnD.same {w w' : World} {base : Nat} {v : Value} {xs : List Dc} (h : OwnD w base v xs) (hc : Chg [] w w') : OwnD w' base v xs := h.kept (hc.p (S := fun _ => False)) fun _ _ h => h
theorem OwnD.read {w : World} {base : Nat} {v : Value} {l : List Dc} (h : OwnD w base v l) : DcP (fun g => base ≤ g ∧ g < w.heap.size ∧ v.ownBlock = some g) w v l := by
 obtain ⟨a, cap, rfl⟩ := ownsRow_shape h
 rcases h.2 with ⟨hv, hx⟩ | ⟨g, cap', cur', hv, hge, hh, h3, h4, h5, h6⟩
 · have hk : l = [] := List.eq_nil_of_length_eq_zero hx
   subst hk
   simp only [List.length_nil, Value.slice.injEq] at hv
   obtain ⟨rfl, _, rfl⟩ := hv
   exact SlR.nil _ _ _ _
 · cases hv
   refine ⟨_, cap, rfl, by omega, by omega, fun _ => ⟨g, 0, rfl, ⟨hge, lt_of_obj hh, rfl⟩, fun j hj => ?_⟩⟩
   have hcell : ∀ d u, (encD l[j])[d]? = some u → d < 3 → w.cell? ⟨g, 0 + j * 3 + d, none⟩ = some u := by
    intro d u hu hd
    rw [← dcCells_get l j hj d hd] at hu
    have := World.ownsRow.cells h (g := g) rfl _ _ hu
    rw [Addr.add_lit] at this
    rw [show 0 + j * 3 + d = 0 + (j * 3 + d) by omega]
    exact this
   exact ⟨hcell 0 _ rfl (by decide), hcell 1 _ rfl (by decide), hcell 2 _ rfl (by decide)⟩
theorem infoDc : (Tryz.prog.info? 28).map (fun i => (i.zero, i.size, i.bytes)) = some (some (.agg #[.string ⟨#[]⟩, .int .i64 0, .string ⟨#[]⟩]), 3, 40) := by kernel_rfl
theorem run_append_doc (w : World) (ty : TypeId) (B : Nat) (v : Value) (l : List Dc) (e : Dc) (n : Nat) (hv : OwnD w B v l) (hb : w.heap[n]? = some (.cells #[.string e.1, .int .i64 e.2.1, .string e.2.2] 28 (0, 0))) (hlen : l.length ≤ 1000) (hB : B ≤ w.heap.size) :
 ∃ v' w', (Builtin.append_ #[25, 25] ty #[v, .slice (some ⟨n, 0, none⟩) 1 1]).run Tryz.prog w = .ok v' w' ∧ OwnD w' B v' (l ++ [e]) ∧ Chg v.ownBlock.toList w w' := by
 obtain ⟨i0, hi, hz0, hz1, hz2⟩ := info_parts infoDc
 obtain ⟨v', w', hr, h2, h3, _, h5⟩ := run_append_own_at (P := Tryz.prog) w B 25 ty 28 i0 (.agg #[.string ⟨#[]⟩, .int .i64 0, .string ⟨#[]⟩]) 3 40 Tryz.underlying25 hi hz0 hz1 hz2 rfl (by decide) v l.length (dcCells l) hv ⟨n, 0, none⟩ 1 1 (encD e) rfl (fun j u hj => by
  rw [Addr.add_lit, Nat.zero_add]
  refine cell_of_heap hb ?_
  match j with
  | 0 => simpa [encD] using hj
  | 1 => simpa [encD] using hj
  | 2 => simpa [encD] using hj
  | j + 3 => simp [encD] at hj) (fun u hu => dcCells_oneCell [e] u (by rw [dcCells_one]; exact hu)) (by unfold maxLen; omega) (by omega) hB
 refine ⟨v', w', hr, ?_, (Chg.refl _ w).grown h3 (by intro k hk; left; simp [hk])⟩
 unfold OwnD
 rw [dcCells_append, dcCells_one, List.length_append]
 exact h2
theorem step_append_run {P : Program} {ops : Array Oper} {o : Oper} {a : Act} {w : World} {K : Act → World → Prop} {Q : Exit → Act → World → Prop} {E : Prop} (hgd : o.guard = none) (s x : Operand) (t : TypeId)
 (ho : o.op = .call { callee := .builtin .append, args := #[s, x], argTypes := #[t, t] }) (v vx v' : Value) (w' : World) (hs : a.eval s = v) (hx : a.eval x = vx)
 (hr : (Builtin.append_ #[t, t] o.type #[v, vx]).run P w = .ok v' w') (h : K (a.put o.dst v') w') : if Region.wanted o (yielded ops a.tmps) = true then Oper.wp P o a w K Q else E := by
 have hw : Region.wanted o (yielded ops a.tmps) = true := by simp [Region.wanted, hgd]
 rw [if_pos hw]
 unfold Oper.wp execOp
 simp only [ho, resolve, invoke, builtin, Sem.run_bind, Sem.run_pure, Result.andThen_ok, List.map_toArray, List.map_cons, List.map_nil, hs, hx, hr]
 exact h
def cut (n : Nat) (s : ByteArray) : ByteArray := s.extract 0 (min s.size n)
end Go.Proofs.YtjlknaahpjiibaaGreatDoor
