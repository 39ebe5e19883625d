/- The helpers of the laws on query programs: the fixed example, usable, fit. -/
import Derived.Test.YtggiddhhbilcjaaQryH
import Derived.Test.YtggiddhhbilcjaaMod
import Derived.Laws.CopyOwn
/- The helpers of the laws on query programs: the fixed example, usable, fit. -/
namespace Go.Proofs.Ytggiddhhbilcjaa
open Go.RowKit Go.ChangeMaps Go.MapKept
set_option linter.unusedVariables false
/-! ### plain -/
theorem vq_ins {p : Prg} (hp : PrgOk p) {ins ins' : List Int} (h : ∀ j, red (ins.getD j 0) = red (ins'.getD j 0)) : ∀ n q, q < p.qs.length → vq p ins n q = vq p ins' n q := by
  intro n
  induction n with
  | zero => intros; rfl
  | succ n ih =>
    intro q hq
    unfold vq
    rw [runR_congr (G' := GV ins' (vq p ins' n)) (inp := p.inp) (GV_small (vq_small p ins n) _ _) (fun s k hk => by
      unfold GV kvalOf
      rcases hk with ⟨h0, _⟩ | ⟨h1, h2, h3, _⟩
      · rw [if_pos h0, if_pos h0, h]
      · rw [if_neg (by omega), if_neg (by omega), ih _ (by omega)]) (hp.qs q hq).each]
theorem val_ins {p : Prg} (hp : PrgOk p) {ins ins' : List Int} (h : ∀ j, red (ins.getD j 0) = red (ins'.getD j 0)) (q : Nat) (hq : q < p.qs.length) : val p ins q = val p ins' q := vq_ins hp h _ q hq
/-- the first queries alone have the same values -/
theorem vq_first {p : Prg} (hp : PrgOk p) (ins : List Int) (m : Nat) (hm : m ≤ p.qs.length) : ∀ n q, q < m → vq ⟨p.inp, p.qs.take m⟩ ins n q = vq p ins n q := by
  intro n
  induction n with
  | zero => intros; rfl
  | succ n ih =>
    intro q hq
    unfold vq
    have hg : (p.qs.take m).getD q [] = p.qs.getD q [] := by
      rw [List.getD_eq_getElem?_getD, List.getD_eq_getElem?_getD, List.getElem?_take, if_pos hq]
    simp only [hg]
    rw [runR_congr (G' := GV ins (vq p ins n)) (inp := p.inp) (GV_small (vq_small _ ins n) _ _) (GV_congr fun q' hq' => ih q' (by omega)) (hp.qs q (by omega)).each]
theorem first_ok {p : Prg} (hp : PrgOk p) (m : Nat) (hm : m ≤ p.qs.length) : PrgOk ⟨p.inp, p.qs.take m⟩ :=
  ⟨hp.inp, by have := hp.size; simp only [List.length_take]; omega, fun i hi => by
    simp only [List.length_take] at hi
    have hg : (p.qs.take m).getD i [] = p.qs.getD i [] := by
      rw [List.getD_eq_getElem?_getD, List.getD_eq_getElem?_getD, List.getElem?_take, if_pos (by omega)]
    simp only [hg]
    exact hp.qs i (by omega)⟩
/-! ### fit -/
def fitL (xs : List Int) (n : Nat) : List Int := xs.take n ++ List.replicate (n - xs.length) 0
theorem fitL_len (xs : List Int) (n : Nat) : (fitL xs n).length = n := by
  unfold fitL
  simp only [List.length_append, List.length_take, List.length_replicate]
  omega
theorem splice_fit (xs : List Int) (n : Nat) : splice (List.replicate n (Value.int .i64 0)) 0 ((xs.take n).map (Value.int .i64)) = (fitL xs n).map (Value.int .i64) := by
  unfold splice fitL
  simp only [List.take_zero, List.nil_append, Nat.zero_add, List.map_append, List.map_replicate, List.length_map, List.length_take, List.drop_replicate]
  congr 2
  omega
theorem Try.sizeInt : (Try.prog.info? 3).map (·.size) = some 1 := by kernel_rfl
/-! ### the fixed example -/
def exP : Prg := ⟨1, [[(2, 0, 0), (1, -1, 0), (8, 0, 0)]]⟩
theorem exP_ok : PrgOk exP := by
  refine ⟨by decide, by decide, fun i hi => ?_⟩
  have hi' : i < 1 := hi
  obtain rfl : i = 0 := by omega
  refine ⟨by decide, ?_, by decide⟩
  intro o ho
  have ho' : o ∈ ([(2, 0, 0), (1, -1, 0), (8, 0, 0)] : List QO) := ho
  simp only [List.mem_cons, List.not_mem_nil, or_false] at ho'
  rcases ho' with rfl | rfl | rfl <;> (unfold OpOk; decide)
theorem exP_val : val exP [5] 0 = 999998 := by decide +kernel
theorem exP_ev : EvOk exP [5] 0 := ⟨exP_ok, by decide, by decide, by decide⟩
def exQ (w : World) : World := (((w.alloc (.cells #[.int .i64 2, .int .i64 0, .int .i64 0, .int .i64 1, .int .i64 (-1), .int .i64 0, .int .i64 8, .int .i64 0, .int .i64 0] 119)).alloc (.cells #[.slice (some ⟨w.heap.size, 0, none⟩) 3 3] 116)).alloc
  (.cells #[.int .i64 1, .slice (some ⟨w.heap.size + 1, 0, none⟩) 1 1] 24)).alloc (.cells #[.int .i64 5] 3)
theorem exQ_chg (w : World) : Chg [] w (exQ w) := ((((Chg.refl [] w).alloc _).alloc _).alloc _).alloc _
theorem exQ_size (w : World) : (exQ w).heap.size = w.heap.size + 4 := by simp [exQ]
theorem exQ_cells (w : World) : (exQ w).heap[w.heap.size]? = some (.cells #[.int .i64 2, .int .i64 0, .int .i64 0, .int .i64 1, .int .i64 (-1), .int .i64 0, .int .i64 8, .int .i64 0, .int .i64 0] 119) ∧ (exQ w).heap[w.heap.size + 1]? = some (.cells #[.slice (some ⟨w.heap.size, 0, none⟩) 3 3] 116) ∧ (exQ w).heap[w.heap.size + 1 + 1 + 1]? = some (.cells #[.int .i64 5] 3) := by
  unfold exQ World.alloc
  refine ⟨?_, ?_, ?_⟩ <;> (simp only [Array.getElem?_push, Array.size_push]; repeat (first | rw [if_pos trivial] | rw [if_neg (by omega)]))
theorem exQ_qs (w : World) : I3ss (fun g => g < (exQ w).heap.size) (exQ w) (.slice (some ⟨w.heap.size + 1, 0, none⟩) 1 1) exP.qs := by
  obtain ⟨h0, h1, _⟩ := exQ_cells w
  have hz := exQ_size w
  refine ⟨_, 1, rfl, Nat.le_refl _, by unfold maxLen; decide, fun _ => ⟨_, 0, rfl, by omega, fun j hj => ?_⟩⟩
  have hj' : j < 1 := hj
  obtain rfl : j = 0 := by omega
  refine ⟨_, cell_of_heap h1 rfl, _, 3, rfl, Nat.le_refl _, by unfold maxLen; decide, fun _ => ⟨_, 0, rfl, by omega, fun i hi => ?_⟩⟩
  have hi' : i < 3 := hi
  match i, hi' with
  | 0, _ => exact ⟨cell_of_heap h0 rfl, cell_of_heap h0 rfl, cell_of_heap h0 rfl⟩
  | 1, _ => exact ⟨cell_of_heap h0 rfl, cell_of_heap h0 rfl, cell_of_heap h0 rfl⟩
  | 2, _ => exact ⟨cell_of_heap h0 rfl, cell_of_heap h0 rfl, cell_of_heap h0 rfl⟩
theorem exQ_in (w : World) : IntsP (fun g => g < (exQ w).heap.size) (exQ w) (.slice (some ⟨w.heap.size + 1 + 1 + 1, 0, none⟩) 1 1) [5] := by
  obtain ⟨_, _, h3⟩ := exQ_cells w
  have hz := exQ_size w
  refine ⟨_, 1, rfl, Nat.le_refl _, by unfold maxLen; decide, fun _ => ⟨_, 0, rfl, by omega, fun j hj => ?_⟩⟩
  have hj' : j < 1 := hj
  obtain rfl : j = 0 := by omega
  exact cell_of_heap h3 rfl
def UsPost (inp : Int) (qs : List (List QO)) (w : World) (e : Ending) (w' : World) : Prop := ∃ b : Bool, e = .returned (.bool b) ∧ (b = true ↔ PrgOk ⟨inp, qs⟩ ∧ 0 < qs.length ∧ 0 < inp) ∧ Chg [] w w'
theorem UsPost.no {inp : Int} {qs : List (List QO)} {w w' : World} (hn : ¬ (PrgOk ⟨inp, qs⟩ ∧ 0 < qs.length ∧ 0 < inp)) (h : Chg [] w w') : UsPost inp qs w (.returned (.bool false)) w' := ⟨false, rfl, ⟨fun h => by simp at h, fun h => absurd h hn⟩, h⟩
theorem usable_any (p0 : Nat → Prop) (w : World) (inp : Int) (qs : List (List QO)) (qv : Value) (hq : I3ss p0 w qv qs) : Calls Try.prog 7 #[.agg #[.int .i64 inp, qv]] w (UsPost inp qs w) := by
  obtain ⟨av, capv, rfl, hlm, hlc⟩ := hq.shape
  have Hq := Lib.hid hq
  have hc0 : Chg [] w (w.alloc (.cells #[.int .i64 inp, .slice av qs.length capv] 24)) := (Chg.refl [] w).alloc _
  have Hc0 := Lib.hid hc0
  clear hq hc0
  unfold maxLen at hlm
  go_enter Try.func7, Try.ntmps7
  go_wp2_with fail
  refine (checkP_any p0 _ inp qs _ (Hq.out.kept (Hc0.out.p (S := fun _ => False)) (fun _ _ h => h))).mono ?_
  rintro e w1 ⟨c, rfl, hc, c1⟩
  have m0 := (c1.cell (p := ⟨w.heap.size, 0, none⟩) (by simp) (by simp)).trans (cell_of_heap (heap_at _ _ _ rfl) rfl)
  have m1 := (c1.cell (p := ⟨w.heap.size, 1, none⟩) (by simp) (by simp)).trans (cell_of_heap (heap_at _ _ _ rfl) rfl)
  have lm := lt_of_cell m0
  have Hc1 := Lib.hid (Hc0.out.trans c1)
  clear c1
  by_cases hok : PrgOk ⟨inp, qs⟩
  · obtain rfl : c = 0 := hc.2 hok
    have Hok := Lib.hid hok
    clear hc hok
    by_cases h1 : 0 < qs.length
    · have h1' : decide ((0 : Int) < qs.length) = true := decide_eq_true (by omega)
      have h1'' : (0 : Int) < qs.length := by omega
      by_cases h2 : 0 < inp
      · go_wp2
        go_ret
        exact ⟨true, rfl, ⟨fun _ => ⟨Hok.out, h1, h2⟩, fun _ => rfl⟩, Hc1.out⟩
      · have h2' : decide (0 < inp) = false := decide_eq_false h2
        go_wp2
        go_ret
        exact UsPost.no (fun h => by have := h.2.2; omega) Hc1.out
    · have h1' : decide ((0 : Int) < qs.length) = false := decide_eq_false (by omega)
      have h1'' : ¬ (0 : Int) < qs.length := by omega
      go_wp2
      go_ret
      exact UsPost.no (fun h => by have := h.2.1; omega) Hc1.out
  · have hc0 : c ≠ 0 := fun e => hok (hc.1 e)
    have hcb : (c == 0) = false := beq_eq_false_iff_ne.2 hc0
    have Hok := Lib.hid hok
    clear hc hok hc0
    go_wp2
    go_ret
    exact UsPost.no (fun h => Hok.out h.1) Hc1.out
end Go.Proofs.Ytggiddhhbilcjaa
/- QuerylangModulus: the law's walk. -/
namespace Go.Proofs.Ytggiddhhbilcjaa
open Go.RowKit Go.ChangeMaps Go.MapKept
set_option linter.unusedVariables false
theorem I3ss.imp {p q : Nat → Prop} {w : World} {v : Value} {xs : List (List I3)} (h : I3ss p w v xs) (hp : ∀ g, p g → q g) : I3ss q w v xs :=
  SlR.imp h hp fun ad x _ h => by
    obtain ⟨u, h1, h2⟩ := h
    exact ⟨u, h1, I3s.imp h2 hp⟩
theorem I3ss.old {p : Nat → Prop} {w w' : World} {v : Value} {xs : List (List I3)} (h : I3ss p w v xs) (hp : ∀ g, p g → g < w.heap.size) (hc : Chg [] w w') : I3ss (fun g => g < w'.heap.size) w' v xs :=
  (h.kept (hc.p (S := fun _ => False)) (fun _ _ h => h)).imp fun g hg => Nat.lt_of_lt_of_le (hp g hg) hc.size
theorem ints_row {w : World} {g n : Nat} {xs : List Int} (hl : xs.length = n) (hm : n ≤ 1000000) (h : w.rowIs g 3 n (fun j => .int .i64 (xs.getD j 0))) : IntsP (fun g => g < w.heap.size) w (.slice (some ⟨g, 0, none⟩) n n) xs := by
  subst hl
  refine ⟨_, _, rfl, Nat.le_refl _, by unfold maxLen; omega, fun _ => ⟨g, 0, rfl, h.lt, fun j hj => ?_⟩⟩
  have := h.cell hj
  show w.cell? ⟨g, 0 + j * 1, none⟩ = _
  rw [Nat.zero_add, Nat.mul_one, this]
  simp [hj]
theorem modN (n : Int) (m : Nat) (hm : 1 ≤ m) (hm2 : m ≤ 9223372036854775807) : ∃ r : Nat, r < m ∧ ∀ w : World, Calls Try.prog 9 #[.int .i64 n, .int .i64 (m : Int)] w fun e w' => e = .returned (.int .i64 (r : Int)) ∧ w = w' := by
  have hb := modI_bd n (m : Int) (by omega)
  obtain ⟨r, hr⟩ := Int.eq_ofNat_of_zero_le hb.1
  refine ⟨r, by omega, fun w => ?_⟩
  rw [← hr]
  exact mod_any n m w (by omega) (by omega)
theorem red_set {xs : List Int} {i : Nat} (hi : i < xs.length) (j : Nat) : red (xs.getD j 0) = red ((xs.set i (red (xs.getD i 0))).getD j 0) := by
  rw [List.getD_eq_getElem?_getD (l := xs.set _ _), List.getElem?_set]
  by_cases h : i = j
  · subst h
    simp [hi, red_red]
  · rw [if_neg h, List.getD_eq_getElem?_getD]
theorem getD_setI (xs : List Int) (i : Nat) (x : Int) (hi : i < xs.length) (k : Nat) : (xs.set i x).getD k 0 = if k = i then x else xs.getD k 0 := by
  rw [List.getD_eq_getElem?_getD, List.getElem?_set]
  by_cases h : i = k
  · subst h; simp [hi]
  · rw [if_neg h, if_neg (Ne.symm h), List.getD_eq_getElem?_getD]
end Go.Proofs.Ytggiddhhbilcjaa
/- The keys that a query reads; a query whose keys are worth the same is worth the same. Plain. -/
namespace Go.Proofs.Ytggiddhhbilcjaa
set_option linter.unusedVariables false
/-- get, which keeps the keys it was asked for -/
def addK (ks : List QK) (k : QK) : List QK := if k ∈ ks then ks else ks ++ [k]
def GR (ins : List Int) (f : Nat → Int) (ks : List QK) (k : QK) : Except Empty Int × List QK := (.ok (kvalOf ins f k), addK ks k)
theorem sub_addK (ks : List QK) (k : QK) : ∀ x ∈ ks, x ∈ addK ks k := by
  intro x hx
  unfold addK
  split
  · exact hx
  · exact List.mem_append_left _ hx
theorem mem_addK (ks : List QK) (k : QK) : k ∈ addK ks k := by
  unfold addK
  split
  · assumption
  · simp
theorem mem_addK_iff {ks : List QK} {k x : QK} (h : x ∈ addK ks k) : x ∈ ks ∨ x = k := by
  unfold addK at h
  split at h
  · exact Or.inl h
  · simpa using h
theorem GR_small {ins : List Int} {f : Nat → Int} (hf : ∀ q, small (f q)) (inp idx : Int) : GSmall (GR ins f) inp idx := by
  intro s k n _ h
  simp only [GR, Except.ok.injEq] at h
  rw [← h]
  exact kvalOf_small hf k
/-- one instruction, with and without the keys -/
theorem step1_GR {ins ins' : List Int} {f g : Nat → Int} {inp idx : Int} {o : QO} {xs : List Int} {ks : List QK} (ho : OpOk inp idx o) (hx : ∀ x ∈ xs, small x) :
    (step1 (GR ins f) idx o xs ks).1 = (step1 (GV ins f) idx o xs ()).1 ∧ (∀ x ∈ ks, x ∈ (step1 (GR ins f) idx o xs ks).2) ∧ (∀ x ∈ (step1 (GR ins f) idx o xs ks).2, x ∈ ks ∨ KeyIn inp idx x) ∧
      ((∀ k ∈ (step1 (GR ins f) idx o xs ks).2, kvalOf ins f k = kvalOf ins' g k) → step1 (GR ins' g) idx o xs ks = step1 (GR ins f) idx o xs ks) := by
  have hn : 0 ≤ (if o.1 = 4 ∨ o.1 = 5 then xs.getLastD 0 else 0) := by
    split
    · exact (small_last hx).1
    · omega
  unfold step1
  simp only
  generalize (if o.1 = 4 ∨ o.1 = 5 then xs.getLastD 0 else 0) = n at hn ⊢
  generalize (if o.1 = 4 ∨ o.1 = 5 then xs.dropLast else xs) = ys
  cases hk : opKey o idx n with
  | none =>
    simp only
    split
    · exact ⟨rfl, fun x h => h, fun x h => Or.inl h, fun _ => trivial⟩
    · exact ⟨rfl, fun x h => h, fun x h => Or.inl h, fun _ => trivial⟩
  | some k =>
    refine ⟨rfl, sub_addK ks k, fun x h => ?_, fun h => ?_⟩
    · rcases mem_addK_iff h with h | rfl
      · exact Or.inl h
      · exact Or.inr (opKey_in ho hn hk)
    · have := h k (mem_addK ks k)
      show (Except.map _ (Except.ok (kvalOf ins' g k)), addK ks k) = (Except.map _ (Except.ok (kvalOf ins f k)), addK ks k)
      rw [this]
theorem runL_GR {ins ins' : List Int} {f g : Nat → Int} {inp idx : Int} (hf : ∀ q, small (f q)) : ∀ {ops : List QO} {xs : List Int} {ks : List QK}, (∀ o ∈ ops, OpOk inp idx o) → (∀ x ∈ xs, small x) →
    (runL (GR ins f) idx ops xs ks).1 = (runL (GV ins f) idx ops xs ()).1 ∧ (∀ x ∈ ks, x ∈ (runL (GR ins f) idx ops xs ks).2) ∧ (∀ x ∈ (runL (GR ins f) idx ops xs ks).2, x ∈ ks ∨ KeyIn inp idx x) ∧
      ((∀ k ∈ (runL (GR ins f) idx ops xs ks).2, kvalOf ins f k = kvalOf ins' g k) → runL (GR ins' g) idx ops xs ks = runL (GR ins f) idx ops xs ks) := by
  intro ops
  induction ops with
  | nil => intro xs ks _ _; exact ⟨rfl, fun x h => h, fun x h => Or.inl h, fun _ => rfl⟩
  | cons o r ih =>
    intro xs ks ho hx
    obtain ⟨s1, s2, s3, s4⟩ := step1_GR (ins := ins) (ins' := ins') (f := f) (g := g) (xs := xs) (ks := ks) (ho o (by simp)) hx
    unfold runL
    cases hA : step1 (GR ins f) idx o xs ks with
    | mk a ks1 =>
      cases hB : step1 (GV ins f) idx o xs () with
      | mk b u =>
        rw [hA, hB] at s1
        simp only at s1
        subst s1
        rw [hA] at s2 s3 s4
        cases a with
        | error e => cases e
        | ok ys =>
          have hys := step1_small (GR_small hf inp idx) (ho o (by simp)) hx hA
          obtain ⟨i1, i2, i3, i4⟩ := ih (xs := ys) (ks := ks1) (fun o' h' => ho o' (by simp [h'])) hys
          refine ⟨i1, fun x h => i2 x (s2 x h), fun x h => ?_, fun h => ?_⟩
          · rcases i3 x h with h | h
            · exact s3 x h
            · exact Or.inr h
          · simp only at h
            rw [s4 (fun k hk => h k (i2 k hk))]
            exact i4 h
/-- the keys that a query reads, in the order of their first use -/
def reads (p : Prg) (ins : List Int) (q : Nat) : List QK := (runR (GR ins (val p ins)) q (p.qs.getD q []) []).2
theorem runR_snd {ε σ : Type} (G : σ → QK → Except ε Int × σ) (idx : Int) (ops : List QO) (s : σ) : (runR G idx ops s).2 = (runL G idx ops [] s).2 := by
  unfold runR
  cases runL G idx ops [] s with
  | mk a b => cases a <;> rfl
theorem reads_eq (p : Prg) (ins : List Int) (q : Nat) : reads p ins q = (runL (GR ins (val p ins)) q (p.qs.getD q []) [] []).2 := runR_snd _ _ _ _
theorem reads_in {p : Prg} (hp : PrgOk p) (ins : List Int) (q : Nat) (hq : q < p.qs.length) : ∀ k ∈ reads p ins q, KeyIn p.inp q k := by
  intro k hk
  rw [reads_eq] at hk
  obtain ⟨_, _, h, _⟩ := runL_GR (ins := ins) (ins' := ins) (f := val p ins) (g := val p ins) (ks := []) (val_small p ins) (hp.qs q hq).each (xs := []) (by simp)
  rcases h k hk with h | h
  · simp at h
  · exact h
theorem runR_GR {p : Prg} (hp : PrgOk p) (ins : List Int) (q : Nat) (hq : q < p.qs.length) : runR (GR ins (val p ins)) q (p.qs.getD q []) [] = (.ok (val p ins q), reads p ins q) := by
  obtain ⟨h1, _⟩ := runL_GR (ins := ins) (ins' := ins) (f := val p ins) (g := val p ins) (ks := []) (val_small p ins) (hp.qs q hq).each (xs := []) (by simp)
  have hv := runR_val hp ins q hq
  have h2 := reads_eq p ins q
  unfold runR at hv ⊢
  rw [h2]
  cases hA : runL (GR ins (val p ins)) q (p.qs.getD q []) [] [] with
  | mk a ks =>
    cases hB : runL (GV ins (val p ins)) q (p.qs.getD q []) [] () with
    | mk b u =>
      rw [hA, hB] at h1
      rw [hB] at hv
      simp only at h1
      subst h1
      cases a with
      | error e => cases e
      | ok xs =>
        simp only [Prod.mk.injEq] at hv ⊢
        exact ⟨hv.1, trivial⟩
/-- no key that is read, directly or through queries, has turned -/
theorem unread {p : Prg} (hp : PrgOk p) {ins ins' : List Int} {i : Nat} {P : Nat → Prop} (hP : ∀ x, P x → x < p.qs.length ∧ ∀ k ∈ reads p ins x, k ≠ (0, (i : Int), 0) ∧ (k.1 = 1 → P k.2.1.toNat))
    (h : ∀ j, j ≠ i → ins.getD j 0 = ins'.getD j 0) : ∀ n x, x < n → P x → val p ins x = val p ins' x ∧ reads p ins x = reads p ins' x := by
  intro n
  induction n with
  | zero => intro x hx; omega
  | succ n ih =>
    intro x hx hPx
    obtain ⟨hxl, hks⟩ := hP x hPx
    have hsame : ∀ k ∈ reads p ins x, kvalOf ins (val p ins) k = kvalOf ins' (val p ins') k := by
      intro k hk
      obtain ⟨hne, hq⟩ := hks k hk
      unfold kvalOf
      rcases reads_in hp ins x hxl k hk with ⟨h0, h1, h2, h3⟩ | ⟨h0, h1, h2, h3⟩
      · rw [if_pos h0, if_pos h0, h]
        intro e
        apply hne
        obtain ⟨a, b, c⟩ := k
        simp only at h0 h1 h2 h3 e
        have : b = (i : Int) := by omega
        rw [h0, this, h3]
      · rw [if_neg (by omega), if_neg (by omega)]
        exact (ih _ (by omega) (hq h0)).1
    obtain ⟨_, _, _, h4⟩ := runL_GR (ins := ins) (ins' := ins') (f := val p ins) (g := val p ins') (ks := []) (val_small p ins) (hp.qs x hxl).each (xs := []) (by simp)
    have hrun := h4 (by rw [← reads_eq]; exact hsame)
    have hR : runR (GR ins' (val p ins')) x (p.qs.getD x []) [] = runR (GR ins (val p ins)) x (p.qs.getD x []) [] := by
      unfold runR
      rw [hrun]
    rw [runR_GR hp ins x hxl, runR_GR hp ins' x hxl] at hR
    simp only [Prod.mk.injEq, Except.ok.injEq] at hR
    exact ⟨hR.1.symm, hR.2.symm⟩
end Go.Proofs.Ytggiddhhbilcjaa
