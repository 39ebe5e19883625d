/- propagate: the walk. -/
import Derived.Test.YtaciceaipmclgaaFixD
namespace Go.Proofs.Ytaciceaipmclgaa
open Go.RowKit
set_option linter.unusedVariables false
def RdRel (R : Rules) (w : World) (gr : Nat) (i k m : Nat) (wr : World) : Prop := ∃ rd, Rd wr gr R.length rd ∧ RdOk R rd i k m ∧ Chg [] w wr
theorem RulesAt.at {p : Nat → Prop} {w : World} {a : Option Addr} {n cap : Nat} {R : Rules} (h : RulesAt p w (.slice a n cap) R) (i : Nat) (hi : i < R.length) :
    ∃ g off u, a = some ⟨g, off, none⟩ ∧ w.cell? ⟨g, off + i, none⟩ = some u ∧ RuleL p w u (R.getD i []) := by
  obtain ⟨a', cap', hv, h1, h2, h3⟩ := h
  simp only [Value.slice.injEq] at hv
  obtain ⟨rfl, _, _⟩ := hv
  obtain ⟨g, off, rfl, _, hc⟩ := h3 (by omega)
  obtain ⟨u, e1, e2⟩ := hc i hi
  exact ⟨g, off, u, rfl, e1, e2⟩
theorem RuleL.at {p : Nat → Prop} {w : World} {a : Option Addr} {n cap : Nat} {l : List Rule} (h : RuleL p w (.slice a n cap) l) (i : Nat) (hi : i < l.length) :
    ∃ g off u, a = some ⟨g, off, none⟩ ∧ w.cell? ⟨g, off + i * 2, none⟩ = some (.int .i64 (l.getD i (0, [])).1) ∧ w.cell? ⟨g, off + i * 2 + 1, none⟩ = some u ∧ Ints p w u (l.getD i (0, [])).2 := by
  obtain ⟨a', cap', hv, h1, h2, h3⟩ := h
  simp only [Value.slice.injEq] at hv
  obtain ⟨rfl, _, _⟩ := hv
  obtain ⟨g, off, rfl, _, hc⟩ := h3 (by omega)
  obtain ⟨e0, u, e1, e2⟩ := hc i hi
  exact ⟨g, off, u, rfl, e0, e1, e2⟩
theorem RuleL.shape {p : Nat → Prop} {w : World} {v : Value} {l : List Rule} (h : RuleL p w v l) : ∃ a cap, v = .slice a l.length cap ∧ l.length ≤ maxLen := by
  obtain ⟨a, cap, h, _, h2, _⟩ := h
  exact ⟨a, cap, h, h2⟩
theorem SlF.shape {p : Nat → Prop} {w : World} {v : Value} {n : Nat} {f : Nat → Value} (h : SlF p w v n f) : ∃ a cap, v = .slice a n cap := by
  obtain ⟨a, cap, h, _⟩ := h
  exact ⟨a, cap, h⟩
/-- the work list's loop: the sets, what is to be done, and the number of rounds that are to come at most -/
structure WkRel (R : Rules) (S0 : List Nat) (gs gp : Nat) (w4 : World) (k : Nat) (v : Value) (wr : World) (S P : List Nat) : Prop where
  wk : Wk R S0 S P
  bd : ∀ x ∈ S, x ≤ univ
  row : wr.rowIs gs 3 R.length (fun j => nv (S.getD j 0))
  que : Que wr 0 v P
  nodup : P.Nodup
  lt : ∀ x ∈ P, x < R.length
  blk : v.ownBlock = some gp ∨ ∃ g, v.ownBlock = some g ∧ w4.heap.size ≤ g
  chg : Chg [gs, gp] w4 wr
  meas : lack S * (R.length + 1) + P.length ≤ k
theorem Que.base0 {w : World} {base : Nat} {v : Value} {xs : List Nat} (h : Que w base v xs) : Que w 0 v xs := by
  obtain ⟨g, off, cap, cur, h0, h1, h2⟩ := h
  exact ⟨g, off, cap, cur, h0, Nat.zero_le _, h2⟩
theorem RdV.kept {w w' : World} {gr n : Nat} {rd : Nat → List Nat} {V : Nat → Value} (h : RdV w gr n rd V) (hc : Chg [] w w') : RdV w' gr n rd V :=
  ⟨h.row.of_block (hc.block gr h.row.lt (by simp)), fun j hj => ownsRow_block (h.own j hj) fun g hg hl => hc.block g hl (by simp), h.apart⟩
theorem RdV.row' {w w' : World} {gr n : Nat} {rd : Nat → List Nat} {V : Nat → Value} (h : RdV w gr n rd V) {j : Nat} (hj : j < n) (hg : w.grownBy w' (V j).ownBlock) : w'.rowIs gr 23 n V ∧ Chg (V j).ownBlock.toList w w' ∧ ∀ g ∈ (V j).ownBlock.toList, gr + 1 ≤ g := by
  have hch : Chg (V j).ownBlock.toList w w' := (Chg.refl _ w).grown hg (fun k hk => Or.inl (by simp [hk]))
  have hge : ∀ g ∈ (V j).ownBlock.toList, gr + 1 ≤ g := fun g hm => (ownsRow_lt (h.own j hj) (by simpa using hm)).1
  exact ⟨h.row.of_block (hch.block gr h.row.lt (fun hm => by have := hge _ hm; omega)), hch, hge⟩
theorem own_shape {w : World} {base : Nat} {e : TypeId} {size : Nat} {v : Value} {n : Nat} {xs : List Value} (h : w.ownsRow base e size v n xs) : ∃ a cap, v = .slice a n cap := by
  rcases h.2 with ⟨rfl, rfl⟩ | ⟨g, cap, cur, rfl, _⟩
  · exact ⟨none, 0, rfl⟩
  · exact ⟨_, cap, rfl⟩
theorem news_one (w : World) (x : Nat) : ∀ j u, [nv x][j]? = some u → (w.alloc (.cells #[.int .i64 (x : Int)] 3)).cell? ((⟨w.heap.size, 0, none⟩ : Addr).add j) = some u := cell_one_new w (nv x) 3
theorem SlF.len {p : Nat → Prop} {w : World} {v : Value} {n : Nat} {f : Nat → Value} (h : SlF p w v n f) : n ≤ maxLen := by
  obtain ⟨a, cap, _, _, h, _⟩ := h
  exact h
/-- append, out of its run's equation -/
theorem wpList_append_run {P : Program} {ops : Array Oper} {rest : List Oper} {o : Oper} {a : Act} {w : World} {Q : Exit → Act → World → Prop} (hgd : o.guard = none) (s x : Operand) (t : TypeId)
    (ho : o.op = .call { callee := .builtin .append, args := #[s, x], argTypes := #[t, t] }) (v vx v' : Value) (w' : World) (hs : a.eval s = v) (hx : a.eval x = vx)
    (hr : (Builtin.append_ #[t, t] o.type #[v, vx]).run P w = .ok v' w') (h : wpList P ops Q rest (a.put o.dst v') w') : wpList P ops Q (o :: rest) a w := by
  refine wpList_plain hgd fun K hK => ?_
  unfold Oper.wp execOp
  simp only [ho, resolve, invoke, builtin, Sem.run_bind, Sem.run_pure, Result.andThen_ok, List.map_toArray, List.map_cons, List.map_nil, hs, hx, hr]
  exact hK _ _ h
theorem RdV.keptT {w w' : World} {gr n : Nat} {rd : Nat → List Nat} {V : Nat → Value} {T : List Nat} (h : RdV w gr n rd V) (hc : Chg T w w') (hT : ∀ g ∈ T, g < gr) : RdV w' gr n rd V :=
  ⟨h.row.of_block (hc.block gr h.row.lt (fun hm => absurd (hT _ hm) (by omega))), fun j hj => ownsRow_block (h.own j hj) fun g hg hl => hc.block g hl (fun hm => by
    have := (ownsRow_lt (h.own j hj) hg).1
    have := hT _ hm
    omega), h.apart⟩
theorem Que.nums {w : World} {base : Nat} {v : Value} {xs : List Nat} (h : Que w base v xs) : Nums (fun _ => True) w v xs := by
  obtain ⟨g, off, cap, cur, rfl, h1, h2, h3, h4, h5, h6⟩ := h
  exact ⟨_, cap, rfl, h3, by omega, fun _ => ⟨g, off, rfl, trivial, fun j hj => cell_of_heap h2 (h6 j hj)⟩⟩
theorem WkRel.skip {R : Rules} {S0 S P : List Nat} {gs gp k i : Nat} {v v2 : Value} {w4 wr w5 : World} (h : WkRel R S0 gs gp w4 k v wr S (i :: P)) (hs : S.getD i 0 ||| dAll S (R.getD i []) = S.getD i 0)
    (hq : Que wr 0 v2 P) (hb : v2.ownBlock = v.ownBlock) (hc : Chg [] wr w5) : WkRel R S0 gs gp w4 (lack S * (R.length + 1) + P.length) v2 w5 S P :=
  ⟨h.wk.skip hs, h.bd, h.row.of_block (hc.block gs h.row.lt (by simp)), hq.kept hc (by simp), (List.nodup_cons.1 h.nodup).2, fun x hx => h.lt x (by simp [hx]), by rw [hb]; exact h.blk, h.chg.new hc, Nat.le_refl _⟩
/-- the readers' loop: what is in the work list when the first m readers have been seen -/
structure GrRel (R : Rules) (S : List Nat) (gs gp : Nat) (w4 : World) (L P : List Nat) (m : Nat) (v : Value) (wr : World) (P' : List Nat) : Prop where
  row : wr.rowIs gs 3 R.length (fun j => nv (S.getD j 0))
  que : Que wr 0 v P'
  nodup : P'.Nodup
  lt : ∀ x ∈ P', x < R.length
  sup : ∀ x ∈ P, x ∈ P'
  got : ∀ x ∈ L.take m, x ∈ P'
  blk : v.ownBlock = some gp ∨ ∃ g, v.ownBlock = some g ∧ w4.heap.size ≤ g
  chg : Chg [gs, gp] w4 wr
theorem GrRel.seen {R : Rules} {S L P P' : List Nat} {gs gp m : Nat} {v : Value} {w4 wr : World} (h : GrRel R S gs gp w4 L P m v wr P') (hm : m < L.length) (hi : L.getD m 0 ∈ P') : GrRel R S gs gp w4 L P (m + 1) v wr P' :=
  ⟨h.row, h.que, h.nodup, h.lt, h.sup, fun x hx => by
    rw [take_snoc L m hm 0, List.mem_append, List.mem_singleton] at hx
    rcases hx with hx | rfl
    · exact h.got x hx
    · exact hi, h.blk, h.chg⟩
theorem GrRel.add {R : Rules} {S L P P' : List Nat} {gs gp m x : Nat} {v v' : Value} {w4 wr w' : World} {o : Obj} (h : GrRel R S gs gp w4 L P m v wr P') (hm : m < L.length) (hx : L.getD m 0 = x) (hxR : x < R.length) (hn : x ∉ P')
    (hne : gp ≠ gs) (hgs : gs < w4.heap.size) (hq : Que w' 0 v' (P' ++ [x])) (hc : Chg v.ownBlock.toList (wr.alloc o) w') (hb : v'.ownBlock = v.ownBlock ∨ v'.ownBlock = some (wr.heap.size + 1)) : GrRel R S gs gp w4 L P (m + 1) v' w' (P' ++ [x]) := by
  have hT : ∀ g ∈ v.ownBlock.toList, g ∈ [gs, gp] ∨ w4.heap.size ≤ g := fun g hg => by
    rcases h.blk with e | ⟨g', e, hl⟩
    · rw [e] at hg; simp at hg; exact Or.inl (by simp [hg])
    · rw [e] at hg; simp at hg; exact Or.inr (by omega)
  have hgs' : gs ∉ v.ownBlock.toList := fun hg => by
    rcases h.blk with e | ⟨g', e, hl⟩
    · rw [e] at hg; simp at hg; exact hne hg.symm
    · rw [e] at hg; simp at hg; omega
  have hc' : Chg v.ownBlock.toList wr w' := ((Chg.refl _ wr).alloc o).trans hc
  refine ⟨h.row.of_block (hc'.block gs h.row.lt hgs'), hq, ?_, ?_, fun y hy => List.mem_append_left _ (h.sup y hy), ?_, ?_, h.chg.comp hc' hT⟩
  · rw [List.nodup_append]
    exact ⟨h.nodup, by simp, fun a ha b hb e => by rw [List.mem_singleton.1 hb] at e; subst e; exact hn ha⟩
  · intro y hy
    rcases List.mem_append.1 hy with hy | hy
    · exact h.lt y hy
    · rw [List.mem_singleton.1 hy]; exact hxR
  · intro y hy
    rw [take_snoc L m hm 0, List.mem_append, List.mem_singleton] at hy
    rcases hy with hy | rfl
    · exact List.mem_append_left _ (h.got y hy)
    · rw [hx]; simp
  · rcases hb with e | e
    · rw [e]; exact h.blk
    · exact Or.inr ⟨_, e, by have := h.chg.size; omega⟩
theorem WkRel.grow {R : Rules} {S0 S P P' : List Nat} {gs gp k i m : Nat} {v v' : Value} {w4 wr w' : World} {rd : Nat → List Nat} (h : WkRel R S0 gs gp w4 k v wr S (i :: P)) (hi : i < R.length) (hok : Okr R) (hs : S.getD i 0 ||| dAll S (R.getD i []) ≠ S.getD i 0)
    (hrd : ∀ b c, b < R.length → (∃ r ∈ R.getD b [], ∃ j ∈ r.2, j.toNat = c) → b ∈ rd c) (hm : (rd i).length ≤ m)
    (hg : GrRel R (S.set i (S.getD i 0 ||| dAll S (R.getD i []))) gs gp w4 (rd i) P m v' w' P') :
    lack (S.set i (S.getD i 0 ||| dAll S (R.getD i []))) * (R.length + 1) + P'.length < k ∧
    WkRel R S0 gs gp w4 (lack (S.set i (S.getD i 0 ||| dAll S (R.getD i []))) * (R.length + 1) + P'.length) v' w' (S.set i (S.getD i 0 ||| dAll S (R.getD i []))) P' := by
  have hiS : i < S.length := by rw [h.wk.len]; exact hi
  have hsi : S.getD i 0 ≤ univ := h.bd _ (by simp [hiS])
  have hu : S.getD i 0 ||| dAll S (R.getD i []) ≤ univ := or_univ hsi (dAll_univ (fun r hr => ((hok.okl i hi).mask r hr).2) S)
  have hl := lack_set S i _ hiS (or_ne_lt hs) hu
  have hP := nodup_len R.length hg.nodup hg.lt
  have hmeas := h.meas
  refine ⟨?_, h.wk.grow hi hg.sup fun b hb hx => hg.got b (by rw [List.take_of_length_le hm]; exact hrd b i hb hx), ?_, hg.row, hg.que, hg.nodup, hg.lt, hg.blk, hg.chg, Nat.le_refl _⟩
  · have : (lack (S.set i (S.getD i 0 ||| dAll S (R.getD i []))) + 1) * (R.length + 1) ≤ lack S * (R.length + 1) := Nat.mul_le_mul_right _ hl
    rw [Nat.add_mul] at this
    simp only [List.length_cons] at hmeas
    omega
  · intro x hx
    rcases List.mem_or_eq_of_mem_set hx with hx | rfl
    · exact h.bd x hx
    · exact hu
set_option maxRecDepth 100000 in
set_option maxHeartbeats 4000000 in
theorem propagate_any (p : Nat → Prop) (w : World) (R : Rules) (v vp : Value) (S0 P0 : List Nat) (gs gp base : Nat) (hR : RulesAt p w v R) (hok : Okr R) (hlen : S0.length = R.length) (hS0 : ∀ x ∈ S0, x ≤ univ)
    (hs : w.rowIs gs 3 R.length (fun j => nv (S0.getD j 0))) (hq : Que w base vp P0) (hgp : vp.ownBlock = some gp) (hne : gp ≠ gs) (hnd : P0.Nodup) (hlt : ∀ x ∈ P0, x < R.length)
    (hp : ∀ k, p k → k < w.heap.size) (hps : ¬ p gs) (hpp : ¬ p gp) (hdone : ∀ i, i < R.length → i ∉ P0 → sub (dAll S0 (R.getD i [])) (S0.getD i 0)) :
    Calls Try.prog 19 #[v, .slice (some ⟨gs, 0, none⟩) R.length R.length, vp] w fun e w' => e = .returned (.tuple #[]) ∧ (∃ S, Wk R S0 S [] ∧ (∀ x ∈ S, x ≤ univ) ∧ w'.rowIs gs 3 R.length (fun j => nv (S.getD j 0))) ∧ Chg [gs, gp] w w' := by
  have hn60 := hok.size
  have Hok := Lib.hid hok
  have HR := Lib.hid hR
  have Hs := Lib.hid hs
  have Hq := Lib.hid hq
  have Hrest := Lib.hid (And.intro hlen (And.intro hS0 (And.intro hgp (And.intro hne (And.intro hnd (And.intro hlt (And.intro hps (And.intro hpp hdone))))))))
  clear hok hR hs hq hlen hS0 hgp hne hnd hlt hps hpp hdone
  obtain ⟨av, capv, rfl⟩ : ∃ a cap, v = .slice a R.length cap := by obtain ⟨a, cap, h, _⟩ := HR.out; exact ⟨a, cap, h⟩
  have hmk := run_make_row' (P := Try.prog) 71 23 (.slice none 0 0) 24 Try.underlying71 Try.infoInts rfl .i64 .i64 R.length (by omega) (by omega)
  have hmk' := hmk w
  clear hmk
  obtain ⟨i0, hi0, hz0, hz1, hz2⟩ := info_parts Try.infoInt
  have Hi0 := Lib.hid hi0
  have Hz0 := Lib.hid hz0
  have Hz1 := Lib.hid hz1
  have Hz2 := Lib.hid hz2
  clear hi0 hz0 hz1 hz2
  go_enter Try.func19, Try.ntmps19
  go_wp2
  go_loopw [22] (fun i wr => ∃ k : Nat, k ≤ R.length ∧ i = .int .i64 (k : Nat) ∧ RdRel R w w.heap.size k 0 0 wr) (fun i _ => R.length - (intOf i).toNat)
  case atStart => exact ⟨0, by omega, rfl, _, Rd.start (World.rowIs_made w (.slice none 0 0) R.length 23), RdOk.start R, (Chg.refl _ _).alloc _⟩
  case round =>
    obtain ⟨i, hi, rfl, hrl⟩ := hrel
    by_cases hlt : i < R.length
    · have hcw : Chg [] w wr := by obtain ⟨_, _, _, h⟩ := hrl; exact h
      obtain ⟨g, off, u, rfl, q0w, hl⟩ := HR.out.at i hlt
      have q0 := (hcw.cell (p := ⟨g, off + i, none⟩) (lt_of_cell q0w) (by simp)).trans q0w
      obtain ⟨au, capu, rfl, hml⟩ := hl.shape
      have Hl := Lib.hid hl
      clear hl q0w
      have Hrl := Lib.hid hrl
      clear hrl hmk'
      have hokl := Hok.out.okl i hlt
      obtain ⟨l, hle⟩ : ∃ l, R.getD i [] = l := ⟨_, rfl⟩
      rw [hle] at q0 hml Hl hokl
      have Hokl := Lib.hid hokl
      have Hle := Lib.hid hle
      clear hle hokl
      have hi1 : (i : Int) < R.length := by omega
      unfold maxLen at hml
      go_wp2
      go_loopw [29] (fun j wr => ∃ k : Nat, k ≤ l.length ∧ j = .int .i64 (k : Nat) ∧ RdRel R w w.heap.size i k 0 wr) (fun j _ => l.length - (intOf j).toNat)
      case atStart => exact ⟨0, by omega, rfl, Hrl.out⟩
      case round =>
        obtain ⟨k, hk, rfl, hrl⟩ := hrel
        by_cases hlt2 : k < l.length
        · have hcw2 : Chg [] w wr := by obtain ⟨_, _, _, h⟩ := hrl; exact h
          obtain ⟨g2, off2, u2, rfl, q1w, q2w, hints⟩ := Hl.out.at k hlt2
          have lg2 := lt_of_cell q1w
          have q1 := (hcw2.cell (p := ⟨g2, off2 + k * 2, none⟩) lg2 (by simp)).trans q1w
          have q2 := (hcw2.cell (p := ⟨g2, off2 + k * 2 + 1, none⟩) lg2 (by simp)).trans q2w
          clear q1w q2w
          have lg2' := lt_of_cell q1
          obtain ⟨a3, cap3, rfl⟩ := SlF.shape hints
          have hidx := Hokl.out.idx (l.getD k (0, [])) (by simp [hlt2])
          obtain ⟨r, hre⟩ : ∃ r, l.getD k (0, []) = r := ⟨_, rfl⟩
          rw [hre] at q1 q2 hints hidx
          have Hints := Lib.hid hints
          have Hidx := Lib.hid hidx
          have Hre := Lib.hid hre
          have Hrl2 := Lib.hid hrl
          have hml3 : r.2.length ≤ maxLen := SlF.len hints
          unfold maxLen at hml3
          clear hints hidx hre hrl
          have hk1 : (k : Int) < l.length := by omega
          go_wp2
          go_loopw [36] (fun j wr => ∃ m : Nat, m ≤ r.2.length ∧ j = .int .i64 (m : Nat) ∧ RdRel R w w.heap.size i k m wr) (fun j _ => r.2.length - (intOf j).toNat)
          case atStart =>
            obtain ⟨rd, h1, h2, h3⟩ := Hrl2.out
            exact ⟨0, by omega, rfl, rd, h1.kept ((Chg.refl [] _).alloc _) (by simp), h2, h3.alloc _⟩
          case round =>
            obtain ⟨m, hm, rfl, hrl⟩ := hrel
            by_cases hlt3 : m < r.2.length
            · obtain ⟨rd, ⟨V, hV⟩, h2, h3⟩ := hrl
              obtain ⟨a', cap', hv', _, _, hc3⟩ := Hints.out
              simp only [Value.slice.injEq] at hv'
              obtain ⟨rfl, _, rfl⟩ := hv'
              obtain ⟨g3, off3, rfl, _, hc3'⟩ := hc3 (by omega)
              have q3w : w.cell? ⟨g3, off3 + m, none⟩ = some (.int .i64 (r.2.getD m 0)) := hc3' m hlt3
              have q3 := (h3.cell (p := ⟨g3, off3 + m, none⟩) (lt_of_cell q3w) (by simp)).trans q3w
              clear hc3 hc3' q3w
              obtain ⟨c, hc, hcR⟩ : ∃ c : Nat, r.2.getD m 0 = (c : Int) ∧ c < R.length := by
                have hmem : r.2.getD m 0 ∈ r.2 := by simp [hlt3]
                obtain ⟨z1, z2⟩ := Hidx.out _ hmem
                obtain ⟨c, hc⟩ := Int.eq_ofNat_of_zero_le z1
                exact ⟨c, hc, by omega⟩
              rw [hc] at q3
              have Hc := Lib.hid hc
              clear hc
              have q4 := hV.row.cell hcR
              have hnums := nums_of_own (hV.own c hcR)
              obtain ⟨ac, capc, hvc⟩ := SlF.shape hnums
              have lg4 := lt_of_cell q4
              have hm1 : (m : Int) < r.2.length := by omega
              have hcR1 : (c : Int) < R.length := by omega
              have hszw : w.heap.size < wr.heap.size := lg4
              rw [hvc] at q4
              have HV := Lib.hid hV
              have H2 := Lib.hid h2
              have Hvc := Lib.hid hvc
              clear hV h2 hvc
              have hsnd : ((R.getD i []).getD k (0, [])).2 = r.2 := by rw [Hle.out, Hre.out]
              have Hsnd := Lib.hid hsnd
              clear hsnd
              go_wp2_with fail
              refine (contains_any _ _ _ (rd c) i (by rw [← Hvc.out]; exact hnums)).mono ?_
              rintro e w1 ⟨rfl, rfl⟩
              by_cases hin : i ∈ rd c
              · rw [decide_eq_true hin]
                go_wp2
                exact ⟨⟨m + 1, by omega, by go_num, rd, ⟨V, HV.out⟩, H2.out.seen (by rw [Hsnd.out]; exact hlt3) (by rw [Hsnd.out, Hc.out]; exact hin), h3⟩, by simp [intOf]; omega⟩
              · rw [decide_eq_false hin]
                have hV1 := HV.out.kept ((Chg.refl [] w1).alloc (.cells #[.int .i64 (i : Int)] 3))
                have hlr : (rd c).length ≤ 60 := by
                  have := nodup_len R.length (H2.out.nodup c) (H2.out.lt c)
                  omega
                have hown1 : (w1.alloc (.cells #[.int .i64 (i : Int)] 3)).ownsRow (w.heap.size + 1) 3 1 (.slice ac (rd c).length capc) (rd c).length ((rd c).map nv) := by rw [← Hvc.out]; exact hV1.own c hcR
                have HV1 := Lib.hid hV1
                have Hown1 := Lib.hid hown1
                have hszw1 : w.heap.size < w1.heap.size + 1 := by omega
                clear hV1 hown1
                go_wp2_with (at_builtin; refine wpList_append_own_at _ rfl _ _ 23 rfl (w.heap.size + 1) 3 i0 (.int .i64 0) 1 8 Try.underlying23 Hi0.out Hz0.out Hz1.out Hz2.out rfl (by decide) (.slice ac (rd c).length capc) (rd c).length ((rd c).map nv) rfl Hown1.out ⟨w1.heap.size, 0, none⟩ 1 1 [nv i] rfl rfl (news_one _ _) (by simp [nv, Value.oneCell']) (by unfold maxLen; omega) (by omega) (by simp; omega) ?_; intro v8 w8 hown8 hgr8 hnil8 hat8; obtain ⟨a8, cap8, e8⟩ := own_shape hown8; subst e8; rw [← Hvc.out] at hgr8 hat8; have Hown8 := Lib.hid hown8; have Hgr8 := Lib.hid hgr8; have Hat8 := Lib.hid hat8; obtain ⟨row8, ch8, ge8⟩ := HV1.out.row' hcR hgr8; have kc := row8.cell hcR; have kf := row8.frozen c; have Ch8 := Lib.hid (And.intro ch8 ge8); clear hnil8 hat8 hown8 hgr8 row8 ch8 ge8)
                have hst := HV1.out.step hcR i Hown8.out Hgr8.out Hat8.out
                have hcw8 : Chg [] w w8 := (h3.alloc (.cells #[.int .i64 (i : Int)] 3)).comp Ch8.out.1 (fun g hg => Or.inr (by have := Ch8.out.2 g hg; omega))
                have Hst := Lib.hid hst
                clear hst
                go_wp2
                exact ⟨⟨m + 1, by omega, by go_num, _, Hst.out, H2.out.add hlt (by rw [Hsnd.out]; exact hlt3) c (by rw [Hsnd.out, Hc.out]; rfl) hin, hcw8.setCell (Or.inr (Nat.le_refl _)) _⟩, by simp [intOf]; omega⟩
            · obtain rfl : m = r.2.length := by omega
              have Hrl3 := Lib.hid hrl
              clear hrl
              go_wp2
              refine ⟨⟨k + 1, by omega, by go_num, ?_⟩, by simp [intOf]; omega⟩
              obtain ⟨rd, h1, h2, h3⟩ := Hrl3.out
              exact ⟨rd, h1, h2.rule (by rw [Hle.out]; exact hlt2) (by rw [Hle.out, Hre.out]; exact Nat.le_refl _), h3⟩
        · obtain rfl : k = l.length := by omega
          have Hrl2 := Lib.hid hrl
          clear hrl
          go_wp2
          refine ⟨⟨i + 1, by omega, by go_num, ?_⟩, by simp [intOf]; omega⟩
          obtain ⟨rd, h1, h2, h3⟩ := Hrl2.out
          exact ⟨rd, h1, h2.set (by rw [Hle.out]; exact Nat.le_refl _), h3⟩
    · obtain rfl : i = R.length := by omega
      have Hrl := Lib.hid hrl
      clear hrl hmk'
      obtain ⟨w4, rfl⟩ : ∃ x, x = wr := ⟨_, rfl⟩
      obtain ⟨rd, ⟨V, hV⟩, h2, h3⟩ := Hrl.out
      obtain ⟨hlen, hS0, hgp, hne, hnd, hltP, hps, hpp, hdone⟩ := Hrest.out
      have hst : WkRel R S0 gs gp w4 (lack S0 * (R.length + 1) + P0.length) vp w4 S0 P0 :=
        ⟨⟨hlen, subs_refl _, fun T _ h => h, hdone⟩, hS0, Hs.out.of_block (h3.block gs Hs.out.lt (by simp)), (Hq.out.kept h3 (by simp)).base0, hnd, hltP, Or.inl hgp, Chg.refl _ _, Nat.le_refl _⟩
      have Hst := Lib.hid hst
      have Hlen := Lib.hid (And.intro hgp hne)
      have HV := Lib.hid hV
      have H2 := Lib.hid h2
      clear hst hV h2 hlen hS0 hgp hne hnd hltP hps hpp hdone
      go_wp2
      go_loopg [2] (lack S0 * (R.length + 1) + P0.length) (fun k vq wq => ∃ S P, WkRel R S0 gs gp w4 k vq wq S P)
      case atStart => exact ⟨S0, P0, Hst.out⟩
      case round =>
        obtain ⟨S, P, hw⟩ := hrel
        have Hw := Lib.hid hw
        obtain ⟨g, off, cap, cur, rfl, _, _, _, _, _, _⟩ := hw.que
        have hq2 := hw.que
        clear hw
        cases P with
        | nil =>
          clear hq2
          go_wp2
          obtain ⟨wk, bd, row, _, _, _, _, chg, _⟩ := Hw.out
          refine bodyPost_end (results_none rfl _ _ _) rfl ⟨rfl, ⟨S, wk, bd, row⟩, h3.nil.trans chg⟩
        | cons i P =>
          have hpl : (0 : Int) < ((i :: P).length : Int) := by simp
          have q0 := hq2.cell 0 (by simp)
          rw [List.getD_cons_zero, Nat.add_zero] at q0
          have lg0 := lt_of_cell q0
          obtain ⟨v2, hsl, hq3, hob⟩ := hq2.tail
          rw [List.length_cons] at hsl
          have Hq3 := Lib.hid hq3
          have Hob := Lib.hid hob
          clear hq2 hq3 hob
          unfold nv at q0
          have hiR : i < R.length := Hw.out.lt i (by simp)
          have hS1 : S.length = R.length := Hw.out.wk.len
          have hcq := Hw.out.chg
          have Hall : Chg [gs, gp] w wr := h3.nil.trans hcq
          obtain ⟨_, _, _, _, _, _, hps, hpp, _⟩ := Hrest.out
          have hR' := HR.out.kept Hall (fun k hk => by
            simp only [List.mem_cons, List.not_mem_nil, or_false] at hk
            rcases hk with rfl | rfl
            · exact hps
            · exact hpp)
          obtain ⟨gR, offR, uR, rfl, qR, hl⟩ := hR'.at i hiR
          obtain ⟨au, capu, rfl, hml⟩ := hl.shape
          have hl' := hl.imp (q := fun _ => True) (fun _ _ => trivial)
          have hnums : Nums (fun _ => True) wr (.slice (some ⟨gs, 0, none⟩) R.length R.length) S := by
            rw [← hS1]
            exact ⟨_, _, rfl, Nat.le_refl _, by unfold maxLen; omega, fun _ => ⟨gs, 0, rfl, trivial, fun j hj => by rw [Nat.zero_add]; exact Hw.out.row.cell (by omega)⟩⟩
          have qS := Hw.out.row.cell hiR
          have Hl := Lib.hid hl'
          have Hnums := Lib.hid hnums
          clear hR' hl hl' hnums hcq
          have hiR1 : (i : Int) < R.length := by omega
          have hokl := Hok.out.okl i hiR
          obtain ⟨l, hle⟩ : ∃ l, R.getD i [] = l := ⟨_, rfl⟩
          rw [hle] at qR hml Hl hokl
          rw [← hS1] at hokl
          have Hokl := Lib.hid hokl
          have Hle := Lib.hid hle
          have HS1 := Lib.hid hS1
          clear hokl hle hS1
          obtain ⟨sx, hsx⟩ : ∃ sx, S.getD i 0 = sx := ⟨_, rfl⟩
          rw [hsx] at qS
          have hsb : sx ≤ 1048575 := by rw [← hsx]; exact Hw.out.bd _ (by rw [List.getD_eq_getElem?_getD]; simp [show i < S.length by rw [HS1.out]; exact hiR])
          have Hsx := Lib.hid hsx
          clear hsx
          have lgS := lt_of_cell qS
          have lgR := lt_of_cell qR
          unfold nv at qS
          have hdu : dAll S l ≤ 1048575 := dAll_univ (fun r hr => (Hokl.out.mask r hr).2) S
          have hor : bits .or .i64 (sx : Int) (dAll S l : Int) = ((sx ||| dAll S l : Nat) : Int) := i64_or_nat _ _ (by omega) (by omega)
          go_wp2_with fail
          go_region_held3 (fun w' => w'.cell? ⟨gs, i, none⟩ = some (.int .i64 (sx : Int)) ∧ w'.cell? ⟨gR, offR + i, none⟩ = some (.slice au l.length capu))
            (first | (go_keep; done) | (refine ⟨?_, ?_⟩ <;> (simp [go_sem, *]; done)) | (refine ⟨?_, ?_⟩ <;> (rw [hc5.cell (by simp; omega) (by simp)]; simp [go_sem, *]; done)))
            ((go_at_call 36; refine (deriveAll_any (fun _ => True) _ l _ _ S (Hl.out.kept (((Chg.refl [] wr).drew)) (by simp)) (Hnums.out.kept (((Chg.refl [] wr).drew)) (by simp)) Hokl.out Hw.out.bd).mono ?_; rintro e w5 ⟨rfl, hc5⟩; unfold nv))
          have Hr5 := Lib.hid hc5
          by_cases hsame : sx ||| dAll S l = sx
          · have hb : (((sx ||| dAll S l : Nat) : Int) == (sx : Int)) = true := by rw [hsame]; simp
            have Hsame := Lib.hid hsame
            clear hsame
            go_wp2_with fail
            go_roundg (lack S * (R.length + 1) + P.length)
            case measure => have := Hw.out.meas; simp only [List.length_cons] at this; omega
            case rel => exact ⟨S, P, Hw.out.skip (by rw [Hle.out, Hsx.out]; exact Hsame.out) Hq3.out Hob.out ((Chg.refl [] wr).drew.trans Hr5.out)⟩
          · have hb : (((sx ||| dAll S l : Nat) : Int) == (sx : Int)) = false := beq_eq_false_iff_ne.2 (by omega)
            have Hsame := Lib.hid hsame
            clear hsame
            have hcr5 : Chg [] wr w5 := (Chg.refl [] wr).drew.trans Hr5.out
            obtain ⟨hgpE, hne⟩ := Hlen.out
            have hgsw : gs < w.heap.size := Hs.out.lt
            have hgpw : gp < w.heap.size := by
              obtain ⟨g', off', cap', cur', e0, _, e2, _⟩ := Hq.out
              rw [e0] at hgpE
              simp [Value.ownBlock] at hgpE
              subst hgpE
              exact lt_of_obj e2
            have row5 := (Hw.out.row.of_block (hcr5.block gs Hw.out.row.lt (by simp))).set i (nv (sx ||| dAll S l))
            have kf5 : w5.frozen? ⟨gs, i, none⟩ = false := (Hw.out.row.of_block (hcr5.block gs Hw.out.row.lt (by simp))).frozen i
            have hch6 : Chg [gs, gp] w4 (w5.setCell ⟨gs, i, none⟩ (nv (sx ||| dAll S l))) := (Hw.out.chg.new hcr5).setCell (Or.inl (by simp)) _
            have hV6 := HV.out.keptT hch6 (by simp; omega)
            have kc6 := hV6.row.cell hiR
            obtain ⟨ai, capi, hvi⟩ := own_shape (HV.out.own i hiR)
            rw [hvi] at kc6
            have Hvi := Lib.hid hvi
            have Hch6 := Lib.hid hch6
            have HgpE := Lib.hid hgpE
            have Hne := Lib.hid hne
            have Row5 := Lib.hid row5
            clear hvi hcr5 hch6 hV6 hgpE hne row5
            have hrl : (rd i).length ≤ 60 := by
              have := nodup_len R.length (H2.out.nodup i) (H2.out.lt i)
              omega
            unfold nv at kc6
            have hgr : GrRel R (S.set i (sx ||| dAll S l)) gs gp w4 (rd i) P 0 v2 (w5.setCell ⟨gs, i, none⟩ (nv (sx ||| dAll S l))) P :=
              ⟨Row5.out.congr (fun j hj => by
                show _ = nv ((S.set i (sx ||| dAll S l)).getD j 0)
                rw [getD_set S i _ (by rw [HS1.out]; exact hiR)]
                split <;> rfl), (Hq3.out.kept ((Chg.refl [] wr).drew.trans Hr5.out) (by simp)).kept ((Chg.refl [gs] w5).setCell (Or.inl (by simp)) _) (fun g1 hg1 => by
                  rw [Hob.out] at hg1
                  rcases Hw.out.blk with e | ⟨g2, e, hl2⟩
                  · rw [e] at hg1; simp at hg1; simp [hg1, Hne.out]
                  · rw [e] at hg1; simp at hg1
                    have := h3.size
                    simp; omega), (List.nodup_cons.1 Hw.out.nodup).2, fun x hx => Hw.out.lt x (by simp [hx]), fun x hx => hx, by simp, by rw [Hob.out]; exact Hw.out.blk, Hch6.out⟩
            have Hgr := Lib.hid hgr
            clear hgr
            have hgs4 : gs < w4.heap.size := by have := h3.size; omega
            go_wp2_with fail
            go_loopw [2, 94] (fun v j wr => ∃ (m : Nat) (P' : List Nat), m ≤ (rd i).length ∧ j = .int .i64 (m : Nat) ∧ GrRel R (S.set i (sx ||| dAll S l)) gs gp w4 (rd i) P m v wr P') (fun _ j _ => (rd i).length - (intOf j).toNat)
            case atStart => exact ⟨0, P, by omega, rfl, Hgr.out⟩
            case round =>
              obtain ⟨m, P', hm, rfl, hg⟩ := hrel
              have hP60 : P'.length ≤ 60 := by
                have := nodup_len R.length hg.nodup hg.lt
                omega
              by_cases hlt : m < (rd i).length
              · have hnums := (nums_of_own (HV.out.own i hiR)).kept hg.chg (fun k hk hkb => by
                  simp only [List.mem_cons, List.not_mem_nil, or_false] at hk
                  rcases hk with rfl | rfl <;> omega)
                rw [Hvi.out] at hnums
                obtain ⟨a', cap', hv', _, _, hc'⟩ := hnums
                simp only [Value.slice.injEq] at hv'
                obtain ⟨rfl, _, rfl⟩ := hv'
                obtain ⟨g9, off9, rfl, _, hc9⟩ := hc' (by omega)
                have q9 : _ = some (nv ((rd i).getD m 0)) := hc9 m hlt
                clear hc' hc9
                obtain ⟨x, hx⟩ : ∃ x, (rd i).getD m 0 = x := ⟨_, rfl⟩
                have hxR : x < R.length := by rw [← hx]; exact H2.out.lt i _ (by simp [hlt])
                rw [hx] at q9
                have Hx := Lib.hid hx
                clear hx
                unfold nv at q9
                have lg9 := lt_of_cell q9
                obtain ⟨gq, offq, capq, curq, rfl, _⟩ := hg.que
                have Hg := Lib.hid hg
                clear hg
                have hm1 : (m : Int) < (rd i).length := by omega
                go_wp2_with fail
                refine (contains_any _ _ _ P' x Hg.out.que.nums).mono ?_
                rintro e w8 ⟨rfl, rfl⟩
                by_cases hin : x ∈ P'
                · rw [decide_eq_true hin]
                  go_wp2
                  exact ⟨⟨m + 1, P', by omega, by go_num, Hg.out.seen hlt (by rw [Hx.out]; exact hin)⟩, by simp [intOf]; omega⟩
                · rw [decide_eq_false hin]
                  obtain ⟨v8, w9, hrun, hq9, hc9, hb9⟩ := que_append (Hg.out.que.kept ((Chg.refl [] w8).alloc (.cells #[.int .i64 (x : Int)] 3)) (by simp)) (Nat.zero_le _) x ⟨w8.heap.size, 0, none⟩ 1 (by rw [Addr.add_lit]; exact cell_of_heap (heap_at _ _ _ rfl) rfl) (by omega)
                  have Hq9 := Lib.hid (And.intro hq9 (And.intro hc9 hb9))
                  have Hrun := Lib.hid hrun
                  clear hq9 hc9 hb9 hrun
                  go_wp2_with (at_builtin; refine wpList_append_run rfl _ _ 23 rfl _ _ v8 w9 rfl rfl Hrun.out ?_)
                  obtain ⟨hq9, hc9, hb9⟩ := Hq9.out
                  exact ⟨⟨m + 1, P' ++ [x], by omega, by go_num, Hg.out.add hlt Hx.out hxR hin Hne.out hgs4 hq9 hc9 (by simpa using hb9)⟩, by simp [intOf]; omega⟩
              · obtain rfl : m = (rd i).length := by omega
                have Hg := Lib.hid hg
                clear hg
                go_wp2_with fail
                have hgw := Hw.out.grow (m := (rd i).length) hiR Hok.out (by rw [Hle.out, Hsx.out]; exact Hsame.out) (H2.out.all (Nat.le_refl _)) (Nat.le_refl _) (by rw [Hle.out, Hsx.out]; exact Hg.out)
                rw [Hle.out, Hsx.out] at hgw
                go_roundg (lack (S.set i (sx ||| dAll S l)) * (R.length + 1) + P'.length)
                case measure => exact hgw.1
                case rel => exact ⟨_, _, hgw.2⟩
end Go.Proofs.Ytaciceaipmclgaa
