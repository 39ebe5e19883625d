/- derivations. -/
import Derived.Test.YtaciceaipmclgaaFxB
namespace Go.Proofs.Ytaciceaipmclgaa
open Go.RowKit
set_option linter.unusedVariables false
theorem Try.infoBool : (Try.prog.info? 4).map (fun i => (i.zero, i.size, i.bytes)) = some (some (.bool false), 1, 1) := by kernel_rfl
theorem Try.infoDer : (Try.prog.info? 59).map (fun i => (i.zero, i.size, i.bytes)) = some (some (.agg #[.int .i64 0, .int .i64 0, .int .i64 0]), 3, 24) := by kernel_rfl
/-- the cells of steps of the element e -/
def flatD (e : Nat) (Q : PS) : List Value := Q.flatMap fun s => [nv s.1, nv s.2, nv e]
theorem flatD_len (e : Nat) (Q : PS) : (flatD e Q).length = Q.length * 3 := by
  induction Q with
  | nil => rfl
  | cons s Q ih =>
    have : (flatD e (s :: Q)).length = 3 + (flatD e Q).length := by rw [flatD, List.flatMap_cons, List.length_append]; rfl
    rw [this, ih, List.length_cons]; omega
theorem flatD_append (e : Nat) (P Q : PS) : flatD e (P ++ Q) = flatD e P ++ flatD e Q := by simp [flatD]
theorem flatD_get (e : Nat) (Q : PS) : ∀ j, j < Q.length → (flatD e Q)[j * 3]? = some (nv (Q.getD j dPS).1) ∧ (flatD e Q)[j * 3 + 1]? = some (nv (Q.getD j dPS).2) ∧ (flatD e Q)[j * 3 + 2]? = some (nv e) := by
  induction Q with
  | nil => intro j h; simp at h
  | cons s Q ih =>
    intro j h
    have e1 : flatD e (s :: Q) = nv s.1 :: nv s.2 :: nv e :: flatD e Q := rfl
    rw [e1]
    cases j with
    | zero => exact ⟨rfl, rfl, rfl⟩
    | succ j =>
      have := ih j (by simp at h; omega)
      rw [show (j + 1) * 3 = j * 3 + 3 by omega]
      exact this
theorem cell_three_new (w : World) (a b c : Value) (t : TypeId) : ∀ j u, [a, b, c][j]? = some u → (w.alloc (.cells #[a, b, c] t)).cell? ((⟨w.heap.size, 0, none⟩ : Addr).add j) = some u := by
  intro j u hj
  match j, hj with
  | 0, hj => simp at hj; subst hj; simp [Addr.add]
  | 1, hj => simp at hj; subst hj; simp [Addr.add]
  | 2, hj => simp at hj; subst hj; simp [Addr.add]
  | j + 3, hj => simp at hj
/-- what the loops of derivations keep -/
structure DRel (R : Rules) (e be c gd B : Nat) (w : World) (St : PS) (v : Value) (wr : World) : Prop where
  inv : DInv R e St
  dat : DAt wr c gd R.length (dOf St)
  box : wr.cell? ⟨be, 0, none⟩ = some (nv e)
  own : wr.ownsRow B 59 3 v St.length (flatD e St)
  chg : Chg [] w wr
  sz : B ≤ wr.heap.size
theorem DRel.kept {R : Rules} {e be c gd B : Nat} {w wr w' : World} {St : PS} {v : Value} (h : DRel R e be c gd B w St v wr) (hc : Chg [] wr w') : DRel R e be c gd B w St v w' :=
  ⟨h.inv, h.dat.kept hc (by simp) (by simp), (hc.cell (p := ⟨be, 0, none⟩) (lt_of_cell h.box) (by simp)).trans h.box, ownsRow_block h.own fun g hg hl => hc.block g hl (by simp), h.chg.trans hc, Nat.le_trans h.sz hc.size⟩
theorem DRel.step {R : Rules} {e be c gd B : Nat} {w wr w2 w' : World} {St : PS} {v v' : Value} {i k : Nat} (h : DRel R e be c gd B w St v wr) (hb : be < B) (hcl : c < B) (hg : gd < B) (hne : be ≠ gd) (hne2 : c ≠ gd) (hw : w.heap.size ≤ gd) (hwB : w.heap.size ≤ B)
    (hi : i < R.length) (hd : dOf St i = false) (hk : k < (R.getD i []).length) (ha : ap e (dOf St) ((R.getD i []).getD k (0, [])) = true)
    (h2 : Chg [] (wr.setCell ⟨gd, i, none⟩ (.bool true)) w2) (hgr : w2.grownBy w' v.ownBlock) (hown : w'.ownsRow B 59 3 v' (St.length + 1) (flatD e St ++ [nv i, nv k, nv e])) :
    DRel R e be c gd B w (St ++ [(i, k)]) v' w' := by
  have hc1 : Chg [gd] wr (wr.setCell ⟨gd, i, none⟩ (.bool true)) := (Chg.refl _ _).setCell (Or.inl (by simp)) _
  have hc2 : Chg v.ownBlock.toList w2 w' := (Chg.refl _ w2).grown hgr (fun g hg => Or.inl (by simp [hg]))
  have hvb : ∀ g ∈ v.ownBlock.toList, B ≤ g := fun g hg => (ownsRow_lt h.own (by simpa using hg)).1
  have hrow : (wr.setCell ⟨gd, i, none⟩ (.bool true)).rowIs gd 4 R.length (fun j => .bool (dOf (St ++ [(i, k)]) j)) := (h.dat.row.set i (.bool true)).congr fun j hj => by
    rw [dOf_append, dOf_one]
    by_cases hji : j = i
    · subst hji; simp
    · rw [if_neg hji, show ((i, k).1 == j) = false from beq_false_of_ne (fun h => hji h.symm), Bool.or_false]
  have b1 : (wr.setCell ⟨gd, i, none⟩ (.bool true)).cell? ⟨c, 0, none⟩ = some (.slice (some ⟨gd, 0, none⟩) R.length R.length) := (hc1.cell (p := ⟨c, 0, none⟩) (lt_of_cell h.dat.box) (by simp [hne2])).trans h.dat.box
  have b2 : (wr.setCell ⟨gd, i, none⟩ (.bool true)).cell? ⟨be, 0, none⟩ = some (nv e) := (hc1.cell (p := ⟨be, 0, none⟩) (lt_of_cell h.box) (by simp [hne])).trans h.box
  have hD : DAt w' c gd R.length (dOf (St ++ [(i, k)])) :=
    ((⟨b1, hrow⟩ : DAt _ c gd R.length (dOf (St ++ [(i, k)]))).kept h2 (by simp) (by simp)).kept hc2 (fun hm => by have := hvb _ hm; omega) (fun hm => by have := hvb _ hm; omega)
  have b3 := (h2.cell (p := ⟨be, 0, none⟩) (lt_of_cell b2) (by simp)).trans b2
  have hch : Chg [] w w' := ((h.chg.setCell (Or.inr hw) (.bool true)).trans h2).grown hgr (fun g hg => Or.inr (by have := hvb g (by simp [hg]); omega))
  refine ⟨h.inv.add hi hd hk ha, hD, (hc2.cell (p := ⟨be, 0, none⟩) (lt_of_cell b3) (fun hm => by have := hvb _ hm; simp at this; omega)).trans b3, ?_, hch, ?_⟩
  · rw [List.length_append, flatD_append]
    exact hown
  · have := hc1.size
    have := h2.size
    have := hc2.size
    have := h.sz
    omega
def lenV : Value → Nat
  | .slice _ n _ => n
  | _ => 0
def trueB : Value → Nat
  | .bool true => 1
  | _ => 0
def DerPost (R : Rules) (e : Nat) (w : World) (o : Ending) (w' : World) : Prop := ∃ vs St, o = .returned vs ∧ DInv R e St ∧ DoneP R e St ∧ w'.ownsRow w.heap.size 59 3 vs St.length (flatD e St) ∧ Chg [] w w'
theorem ownsRow_le {w : World} {b b' : Nat} {e : TypeId} {size : Nat} {v : Value} {n : Nat} {xs : List Value} (h : w.ownsRow b e size v n xs) (hb : b' ≤ b) : w.ownsRow b' e size v n xs := by
  refine ⟨h.1, ?_⟩
  rcases h.2 with hn | ⟨g, cap, cur, rfl, h1, rest⟩
  · exact .inl hn
  · exact .inr ⟨g, cap, cur, rfl, by omega, rest⟩
theorem derStart (R : Rules) (w : World) (e : Nat) : DRel R e w.heap.size (w.heap.size + 2) (w.heap.size + 1) (w.heap.size + 3) w [] (.slice none 0 0)
    (((w.alloc (.cells #[.int .i64 (e : Int)] 3)).alloc (.cells (madeCells #[.bool false] R.length) 4)).alloc (.cells #[.slice (some ⟨w.heap.size + 1, 0, none⟩) R.length R.length] 61)) := by
  have hrow := World.rowIs_made (w.alloc (.cells #[.int .i64 (e : Int)] 3)) (.bool false) R.length 4
  have hs : (w.alloc (.cells #[.int .i64 (e : Int)] 3)).heap.size = w.heap.size + 1 := by simp
  rw [hs] at hrow
  have hch : Chg [] w (((w.alloc (.cells #[.int .i64 (e : Int)] 3)).alloc (.cells (madeCells #[.bool false] R.length) 4)).alloc (.cells #[.slice (some ⟨w.heap.size + 1, 0, none⟩) R.length R.length] 61)) := (((Chg.refl [] w).alloc _).alloc _).alloc _
  refine ⟨DInv.nil R e, ⟨cell_of_heap (heap_at _ _ _ (by simp)) rfl, ?_⟩, ?_, World.ownsRow_nil _ _ _ _, hch, by simp⟩
  · exact hrow.of_block (((Chg.refl [] _).alloc _).block _ hrow.lt (by simp))
  · have h0 : (w.alloc (.cells #[.int .i64 (e : Int)] 3)).cell? ⟨w.heap.size, 0, none⟩ = some (nv e) := cell_of_heap (heap_at _ _ _ rfl) rfl
    exact ((((Chg.refl [] (w.alloc (.cells #[.int .i64 (e : Int)] 3))).alloc _).alloc _).cell (p := ⟨w.heap.size, 0, none⟩) (lt_of_cell h0) (by simp)).trans h0
theorem getD_memb {α : Type} {l : List (List α)} {k : Nat} (hk : k < l.length) : l.getD k [] ∈ l := getD_mem hk []
set_option maxRecDepth 100000 in
set_option maxHeartbeats 2000000 in
theorem derivations_any (p : Nat → Prop) (w : World) (R : Rules) (v : Value) (e : Nat) (hR : RulesAt p w v R) (hok : Okr R) (he : e < 20) : Calls Try.prog 25 #[v, .int .i64 (e : Int)] w (DerPost R e w) := by
  have hn60 := hok.size
  obtain ⟨av, capv, rfl⟩ : ∃ a cap, v = .slice a R.length cap := by obtain ⟨a, cap, h, _⟩ := hR; exact ⟨a, cap, h⟩
  have Hok := Lib.hid hok
  have HR := Lib.hid hR
  obtain ⟨i0, hi0, hz0, hz1, hz2⟩ := info_parts Try.infoDer
  have Hi0 := Lib.hid hi0
  have Hz0 := Lib.hid hz0
  have Hz1 := Lib.hid hz1
  have Hz2 := Lib.hid hz2
  clear hok hR hi0 hz0 hz1 hz2
  have hmk := run_make_row' (P := Try.prog) 61 4 (.bool false) 1 Try.underlying61 Try.infoBool rfl .i64 .i64 R.length (by omega) (by omega)
  have hmk' := hmk (w.alloc (.cells #[.int .i64 (e : Int)] 3))
  clear hmk
  go_enter Try.func25, Try.ntmps25
  go_wp2
  go_loopw [7, 8] (fun v b wr => ∃ (St : PS) (pr : Bool), b = .bool pr ∧ Hid (pr = false → DoneP R e St) ∧ DRel R e w.heap.size (w.heap.size + 2) (w.heap.size + 1) (w.heap.size + 3) w St v wr) (fun v b _ => 2 * (R.length + 1 - lenV v) + trueB b)
  case atStart => exact ⟨[], true, rfl, Lib.hid (by simp), derStart R w e⟩
  case round =>
    clear hmk'
    obtain ⟨St, pr, rfl, Hpr, hrel⟩ := hrel
    obtain ⟨a1, cap1, rfl⟩ := own_shape hrel.own
    cases pr
    · go_wp2
      go_ret
      exact ⟨_, St, rfl, hrel.inv, Hpr.out trivial, ownsRow_le hrel.own (by omega), hrel.chg⟩
    · have Hrel := Lib.hid hrel
      clear hrel Hpr
      go_wp2
      go_loopw [7, 8, 19] (fun v2 b i wr => ∃ (St2 : PS) (pr2 : Bool) (k : Nat), b = .bool pr2 ∧ i = .int .i64 (k : Nat) ∧ k ≤ R.length ∧ Hid (pr2 = false → St2 = St ∧ ∀ a, a < k → dOf St2 a = true ∨ ∀ r ∈ R.getD a [], ap e (dOf St2) r = false) ∧ Hid (pr2 = true → St.length < St2.length) ∧ Hid (DRel R e w.heap.size (w.heap.size + 2) (w.heap.size + 1) (w.heap.size + 3) w St2 v2 wr)) (fun _ _ i _ => R.length - (intOf i).toNat)
      case atStart => exact ⟨St, false, 0, rfl, rfl, by omega, Lib.hid (fun _ => ⟨rfl, fun a h => absurd h (by omega)⟩), Lib.hid (by simp), Hrel.out⟩
      case round =>
        have hlm := Hrel.out.inv.len
        clear Hrel
        obtain ⟨St2, pr2, k, rfl, rfl, hk, Hf, Ht, Hrel2⟩ := hrel
        obtain ⟨a2, cap2, rfl⟩ := own_shape Hrel2.out.own
        have hlen2 := Hrel2.out.inv.len
        by_cases hlt : k < R.length
        · obtain ⟨g, off, u, rfl, q0, hl⟩ := (HR.out.kept Hrel2.out.chg (by simp)).at k hlt
          obtain ⟨au, capu, rfl, hml⟩ := hl.shape
          have hmem := getD_memb hlt
          have hmask := Hok.out.mask _ hmem
          have hidx := Hok.out.idx _ hmem
          obtain ⟨l, hle⟩ : ∃ l, R.getD k [] = l := ⟨_, rfl⟩
          rw [hle] at q0 hml hl hmask hidx
          have Hle := Lib.hid hle
          have q1 := Hrel2.out.dat.box
          have q2 := Hrel2.out.dat.row.cell hlt
          have hk1 : (k : Int) < R.length := by omega
          have hk0 : (0 : Int) ≤ (k : Int) := by omega
          have Hidx := Lib.hid (idxA_any p wr _ _ _ R.length e (dOf St2) _ l Hrel2.out.dat Hrel2.out.box he hl hmask hidx)
          clear hle hl hmask hidx hmem
          cases hd : dOf St2 k
          · rw [hd] at q2
            have Hd := Lib.hid hd
            clear hd
            go_wp2_with fail
            refine Hidx.out.mono ?_
            rintro o w1 ⟨⟨z, rfl, hz⟩, c1⟩
            rcases hz with ⟨kk, hkk, rfl, hap⟩ | ⟨rfl, hnone⟩
            · have hrel3 := Hrel2.out.kept c1
              have r1 := hrel3.dat.box
              have r2 := hrel3.dat.row.cell hlt
              have r3 := hrel3.dat.row.frozen k
              have r4 : w1.cell? ⟨w.heap.size, 0, none⟩ = some (.int .i64 (e : Int)) := hrel3.box
              have lb := lt_of_cell r1
              have hsz3 := hrel3.sz
              have hown := ownsRow_block hrel3.own (w' := w1.setCell ⟨w.heap.size + 1, k, none⟩ (.bool true)) fun g hg hl => by
                have := (ownsRow_lt hrel3.own hg).1
                exact ((Chg.refl [w.heap.size + 1] w1).setCell (Or.inl (by simp)) _).block g hl (by simp; omega)
              have Hown := Lib.hid hown
              have hnews := cell_three_new (w1.setCell ⟨w.heap.size + 1, k, none⟩ (.bool true)) (nv k) (nv kk) (nv e) 59
              have hs1 : (w1.setCell ⟨w.heap.size + 1, k, none⟩ (.bool true)).heap.size = w1.heap.size := by simp
              rw [hs1] at hnews
              have Hnews := Lib.hid hnews
              clear hnews hs1
              have Hrel3 := Lib.hid hrel3
              have Hap := Lib.hid hap
              rw [← Hle.out] at Hap hkk
              have hkk0 : (0 : Int) ≤ (kk : Int) := by omega
              clear hown hrel3 hap Hidx q0 q1 q2
              go_wp2_with (at_builtin; refine wpList_append_own _ rfl _ _ 41 rfl (w.heap.size + 3) 59 i0 (.agg #[.int .i64 0, .int .i64 0, .int .i64 0]) 3 24 Try.underlying41 Hi0.out Hz0.out Hz1.out Hz2.out rfl (by decide) (.slice a2 St2.length cap2) St2.length (flatD e St2) rfl (Hown.out.alloc _) ⟨w1.heap.size, 0, none⟩ 1 1 [nv k, nv kk, nv e] rfl rfl Hnews.out (by simp [nv, Value.oneCell']) (by unfold maxLen; omega) (by omega) (by simp; omega) ?_; intro v8 w8 hown8 hgr8 hnil8; obtain ⟨a8, cap8, rfl⟩ := own_shape hown8; have Hown8 := Lib.hid hown8; have Hgr8 := Lib.hid hgr8; clear hown8 hgr8 hnil8)
              have hr := Hrel3.out.step (by omega) (by omega) (by omega) (by omega) (by omega) (by omega) (by omega) hlt Hd.out hkk Hap.out ((Chg.refl [] _).alloc _) Hgr8.out Hown8.out
              have Hr := Lib.hid hr
              clear hr
              go_wp2
              exact ⟨⟨St2 ++ [(k, kk)], true, k + 1, rfl, by go_num, by omega, Lib.hid (by simp), Lib.hid (fun _ => by
                rw [List.length_append, List.length_singleton]
                cases pr2
                · rw [(Hf.out rfl).1]; omega
                · have := Ht.out rfl; omega), Hr⟩, by simp [intOf]; omega⟩
            · have Hn := Lib.hid hnone
              have Hr := Lib.hid (Hrel2.out.kept c1)
              rw [← Hle.out] at Hn
              clear hnone Hidx
              go_wp2
              exact ⟨⟨St2, pr2, k + 1, rfl, by go_num, by omega, Lib.hid (fun h => ⟨(Hf.out h).1, fun a ha => by
                by_cases hak : a < k
                · exact (Hf.out h).2 a hak
                · obtain rfl : a = k := by omega
                  exact .inr Hn.out⟩), Ht, Hr⟩, by simp [intOf]; omega⟩
          · rw [hd] at q2
            have Hd := Lib.hid hd
            clear hd Hidx
            go_wp2
            exact ⟨⟨St2, pr2, k + 1, rfl, by go_num, by omega, Lib.hid (fun h => ⟨(Hf.out h).1, fun a ha => by
              by_cases hak : a < k
              · exact (Hf.out h).2 a hak
              · obtain rfl : a = k := by omega
                exact .inl Hd.out⟩), Ht, Hrel2⟩, by simp [intOf]; omega⟩
        · obtain rfl : k = R.length := by omega
          go_wp2
          refine ⟨⟨St2, pr2, rfl, Lib.hid (fun h => fun a ha => (Hf.out h).2 a ha), Hrel2.out⟩, ?_⟩
          cases pr2
          · have := (Hf.out rfl).1
            subst this
            simp [lenV, trueB]
          · have := Ht.out rfl
            simp [lenV, trueB]
            omega
end Go.Proofs.Ytaciceaipmclgaa
