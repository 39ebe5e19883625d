/- The evaluator: get. -/
import Derived.Test.YtggiddhhbilcjaaQryF
namespace Go.Proofs.Ytggiddhhbilcjaa
open Go.RowKit Go.ChangeMaps Go.MapKept
set_option linter.unusedVariables false
def ik (x : Int) : Value := .int .i64 x
theorem ik_inj : ∀ x y, ik x = ik y → x = y := fun x y h => by
  unfold ik at h
  cases h
  rfl
theorem Try.keyed : Go.Maps.Keyed Try.prog 3 := Go.Maps.int_keyed Try.underlying3
theorem ikOk {n : Int} (h0 : -9223372036854775808 ≤ n) (h1 : n ≤ 9223372036854775807) : KeyOk Try.prog 3 (ik n) := ⟨_, Go.Maps.keyOf_int_mk Try.underlying3 (WalkArith.wf_i64 (by omega))⟩
theorem Try.zero3 (w : World) : (zeroValue 3).run Try.prog w = .ok (.int .i64 0) w := by kernel_rfl
/-- the evaluator's memory -/
structure EvMem (p : Prg) (ins : List Int) (RO : Nat → Prop) (be bm : Nat) (qv iv : Value) (w : World) : Prop where
  c1 : w.cell? ⟨be, 1, none⟩ = some qv
  c2 : w.cell? ⟨be, 2, none⟩ = some iv
  c3 : w.cell? ⟨be, 3, none⟩ = some (.map (some bm))
  rqs : I3ss RO w qv p.qs
  rins : IntsP RO w iv ins
  robe : RO be
  ro : ∀ k, RO k → k < w.heap.size
  map : ∃ es : List (Int × Value), MapAt Try.prog 3 ik w bm es ∧ ∀ x ∈ es, ∃ n : Nat, x.1 = (n : Int) ∧ n < p.qs.length ∧ x.2 = .int .i64 (val p ins n)
def EvI (p : Prg) (ins : List Int) (RO : Nat → Prop) (be bm : Nat) (qv iv : Value) (F : Nat → Prop) (s : Unit) (w : World) : Prop := EvMem p ins RO be bm qv iv w ∧ ¬ F bm ∧ ¬ RO bm
section
variable {p : Prg} {ins : List Int} {RO : Nat → Prop} {be bm : Nat} {qv iv : Value} {F F' : Nat → Prop} {s : Unit} {w w' : World}
theorem EvI.keep (h : EvI p ins RO be bm qv iv F s w) (hc : ChgP (fun k => F k ∧ ¬ RO k) w w') : EvI p ins RO be bm qv iv (fun k => F k ∨ (w.heap.size ≤ k ∧ k < w'.heap.size)) s w' := by
  obtain ⟨hm, hF, hR⟩ := h
  obtain ⟨es, hmap, hes⟩ := hm.map
  have hl := hmap.lt
  have hro : ∀ k, RO k → ¬ (F k ∧ ¬ RO k) := fun k hk h => h.2 hk
  refine ⟨⟨(hc.cell (lt_of_cell hm.c1) (hro _ hm.robe)).trans hm.c1, (hc.cell (lt_of_cell hm.c2) (hro _ hm.robe)).trans hm.c2, (hc.cell (lt_of_cell hm.c3) (hro _ hm.robe)).trans hm.c3, hm.rqs.kept hc hro, hm.rins.kept hc hro, hm.robe, fun k hk => Nat.lt_of_lt_of_le (hm.ro k hk) hc.size, es, hmap.of_block (hc.block bm hl (fun h => hF h.1)), hes⟩, fun h => ?_, hR⟩
  rcases h with h | h
  · exact hF h
  · omega
theorem EvI.anti (h : EvI p ins RO be bm qv iv F s w) (hF : ∀ k, F' k → F k) : EvI p ins RO be bm qv iv F' s w := ⟨h.1, fun hb => h.2.1 (hF _ hb), h.2.2⟩
end
theorem reduce_q (n : Int) (w : World) : Calls Try.prog 53 #[.int .i64 n] w fun e w' => e = .returned (.int .i64 (red n)) ∧ w' = w := (reduce_any n w).mono fun e w' h => ⟨h.1, h.2.symm⟩
/-- get as evaluator answers -/
def EvPost (p : Prg) (ins : List Int) (RO : Nat → Prop) (be bm : Nat) (qv iv : Value) (F : Nat → Prop) (k : QK) (w : World) (e : Ending) (w' : World) : Prop :=
  e = .returned (.int .i64 (kval p ins k)) ∧ EvI p ins RO be bm qv iv F () w' ∧ ChgP (fun b => ¬ F b ∧ ¬ RO b) w w'
theorem enter17 (args : Array Value) (w : World) : (callFunc 42 args).run Try.prog w = .ok (.enter 42 args) w := by
  go_simp
theorem getIn (p : Prg) (ins : List Int) (RO : Nat → Prop) (be bm : Nat) (qv iv : Value) (F : Nat → Prop) (w : World) (a : Int) (hI : EvI p ins RO be bm qv iv F () w) (hlen : (ins.length : Int) = p.inp) (h0 : 0 ≤ a) (h1 : a < p.inp) :
    Calls Try.prog 42 #[.pointer (some ⟨be, 0, none⟩), i3v (0, a, 0)] w (EvPost p ins RO be bm qv iv F (0, a, 0) w) := by
  obtain ⟨av, capv, rfl, hlm, hlc⟩ := hI.1.rins.shape
  obtain ⟨n, rfl⟩ := Int.eq_ofNat_of_zero_le h0
  have hn : n < ins.length := by omega
  obtain ⟨g, off, rfl, _, q0⟩ := hI.1.rins.cell n hn
  have c2 := hI.1.c2
  have lg := lt_of_cell q0
  have lb := lt_of_cell c2
  have HI := Lib.hid hI
  have hk : kval p ins (0, (n : Int), 0) = red (ins.getD n 0) := rfl
  have Hk := Lib.hid hk
  generalize ins.getD n 0 = x at q0 Hk
  have hn1 : (n : Int) < ins.length := by omega
  have hn0 : (0 : Int) ≤ (n : Int) := by omega
  unfold maxLen at hlm
  clear hI hk
  unfold i3v
  go_enter Try.func42, Try.ntmps42
  go_wp2
  go_quiet ((go_at_call 53; exact Calls.quiet_of_same (reduce_q _ _)))
  go_wp2
  go_ret
  refine ⟨by rw [Hk.out]; rfl, (HI.out.keep (((ChgP.refl _ w).alloc _).drewN _)).anti (fun k hk => Or.inl hk), ((ChgP.refl _ w).alloc _).drewN _⟩
/-- the map's look-up -/
theorem ev_lookup {p : Prg} {ins : List Int} {RO : Nat → Prop} {be bm : Nat} {qv iv : Value} {w : World} (h : EvMem p ins RO be bm qv iv w) (n : Nat) (hn : n < p.qs.length) (hb : p.qs.length ≤ 40) :
    (∀ w', w'.heap[bm]? = w.heap[bm]? → (Instr.lookup 133 (.map (some bm)) (.int .i64 (n : Int)) true).run Try.prog w' = .ok (.tuple #[.int .i64 (val p ins n), .bool true]) w') ∨
    (∀ w', w'.heap[bm]? = w.heap[bm]? → (Instr.lookup 133 (.map (some bm)) (.int .i64 (n : Int)) true).run Try.prog w' = .ok (.tuple #[.int .i64 0, .bool false]) w') := by
  obtain ⟨es, hmap, hes⟩ := h.map
  have hl : ∀ w', w'.heap[bm]? = w.heap[bm]? → (Instr.lookup 133 (.map (some bm)) (ik (n : Int)) true).run Try.prog w' = .ok (.tuple #[(aget es (n : Int)).getD (.int .i64 0), .bool (aget es (n : Int)).isSome]) w' := fun w' hw =>
    (hmap.of_block hw).lookup Try.keyed ik_inj Try.underlying133 (ikOk (by omega) (by omega)) (Try.zero3 _) true
  cases hg : aget es (n : Int) with
  | none =>
    rw [hg] at hl
    exact Or.inr hl
  | some v =>
    rw [hg] at hl
    obtain ⟨m, h1, h2, h3⟩ := hes _ (aget_mem hg)
    simp only at h1 h3
    obtain rfl : n = m := by omega
    subst h3
    exact Or.inl hl
theorem getQ0 (p : Prg) (ins : List Int) (RO : Nat → Prop) (be bm : Nat) (qv iv : Value) (F : Nat → Prop) (w : World) (n : Nat) (hI : EvI p ins RO be bm qv iv F () w)
    (hl : ∀ w', w'.heap[bm]? = w.heap[bm]? → (Instr.lookup 133 (.map (some bm)) (.int .i64 (n : Int)) true).run Try.prog w' = .ok (.tuple #[.int .i64 (val p ins n), .bool true]) w') :
    Calls Try.prog 42 #[.pointer (some ⟨be, 0, none⟩), i3v (1, (n : Int), 0)] w (EvPost p ins RO be bm qv iv F (1, (n : Int), 0) w) := by
  have c3 := hI.1.c3
  have lb := lt_of_cell c3
  obtain ⟨es, hmap, _⟩ := hI.1.map
  have hbm := hmap.lt
  have HI := Lib.hid hI
  have hk : kval p ins (1, (n : Int), 0) = val p ins n := rfl
  have Hk := Lib.hid hk
  have hl3 : (Instr.lookup 133 (.map (some bm)) (.int .i64 (n : Int)) true).run Try.prog ((w.alloc (.cells #[.int .i64 1, .int .i64 (n : Int), .int .i64 0] 43)).drew) = .ok (.tuple #[.int .i64 (val p ins n), .bool true]) ((w.alloc (.cells #[.int .i64 1, .int .i64 (n : Int), .int .i64 0] 43)).drew) := hl _ (heap_past _ _ _ hbm)
  clear hI hk hl hmap
  unfold i3v
  go_enter Try.func42, Try.ntmps42
  go_wp2
  go_region
  all_goals
    go_wp2
    go_ret
    refine ⟨by rw [Hk.out]; rfl, (HI.out.keep (((ChgP.refl _ w).alloc _).drew)).anti (fun k hk => Or.inl hk), ((ChgP.refl _ w).alloc _).drew⟩
/-- what get needs of the smaller queries -/
def GetsBelow (p : Prg) (ins : List Int) (RO : Nat → Prop) (be bm : Nat) (qv iv : Value) (n : Nat) : Prop := ∀ (F : Nat → Prop) (w : World) (k : QK), KeyIn p.inp (n : Int) k → EvI p ins RO be bm qv iv F () w →
  Calls Try.prog 42 #[.pointer (some ⟨be, 0, none⟩), i3v k] w (EvPost p ins RO be bm qv iv F k w)
theorem ev_fam {p : Prg} {ins : List Int} {RO : Nat → Prop} {be bm : Nat} {qv iv : Value} {n : Nat} (h : GetsBelow p ins RO be bm qv iv n) (ch : Empty → List PanicEntry) :
    GetFam 42 #[.pointer (some ⟨be, 0, none⟩)] #[] (EvI p ins RO be bm qv iv) RO (GV ins (val p ins)) ch p.inp (n : Int) :=
  ⟨enter17, fun h hc => h.keep hc, fun h hF => h.anti hF, fun s k n hk hg => GV_small (val_small p ins) _ _ s k n hk hg, fun F s w k hk hI => by
    have := h F w k hk hI
    refine Calls.mono (R := EvPost p ins RO be bm qv iv F k w) this ?_
    rintro e w' ⟨h1, h2, h3⟩
    exact ⟨h1, h2, h3⟩⟩
theorem RunPost.val {ε σ : Type} {I : (Nat → Prop) → σ → World → Prop} {RO : Nat → Prop} {G : σ → QK → Except ε Int × σ} {ch : ε → List PanicEntry} {F : Nat → Prop} {idx : Int} {ops : List QO} {s s2 : σ} {w w' : World} {e : Ending} (h : RunPost I RO G ch F idx ops s w e w') {n : Int} (hr : runR G idx ops s = (.ok n, s2)) :
    e = .returned (.int .i64 n) ∧ I F s2 w' ∧ ChgP (fun b => ¬ F b ∧ ¬ RO b) w w' := by
  obtain ⟨h1, h2, h3⟩ := h
  rw [hr] at h1 h2
  exact ⟨h1.1, h2, h3⟩
theorem hu_drew {p : Nat → Prop} {v : Value} {ops : List QO} (w : World) (h : I3s p w v ops) : I3s p w.drew v ops := h.kept ((ChgP.refl (fun _ => False) w).drew) (fun _ _ h => h)
set_option maxHeartbeats 2000000 in
set_option maxRecDepth 100000 in
theorem getQ1 (p : Prg) (ins : List Int) (hp : PrgOk p) (RO : Nat → Prop) (be bm : Nat) (qv iv : Value) (F : Nat → Prop) (w : World) (n : Nat) (hI : EvI p ins RO be bm qv iv F () w) (hn : n < p.qs.length) (hbel : GetsBelow p ins RO be bm qv iv n)
    (hl : ∀ w', w'.heap[bm]? = w.heap[bm]? → (Instr.lookup 133 (.map (some bm)) (.int .i64 (n : Int)) true).run Try.prog w' = .ok (.tuple #[.int .i64 0, .bool false]) w') :
    Calls Try.prog 42 #[.pointer (some ⟨be, 0, none⟩), i3v (1, (n : Int), 0)] w (EvPost p ins RO be bm qv iv F (1, (n : Int), 0) w) := by
  have c1 := hI.1.c1
  have c3 := hI.1.c3
  have lb := lt_of_cell c3
  obtain ⟨es, hmap, _⟩ := hI.1.map
  have hbm := hmap.lt
  have hl3 : (Instr.lookup 133 (.map (some bm)) (.int .i64 (n : Int)) true).run Try.prog ((w.alloc (.cells #[.int .i64 1, .int .i64 (n : Int), .int .i64 0] 43)).drew) = .ok (.tuple #[.int .i64 0, .bool false]) ((w.alloc (.cells #[.int .i64 1, .int .i64 (n : Int), .int .i64 0] 43)).drew) := hl _ (heap_past _ _ _ hbm)
  obtain ⟨av, capv, rfl, hlm, hlc⟩ := hI.1.rqs.shape
  obtain ⟨g, off, rfl, hg, u, q0, hu⟩ := SlR.at hI.1.rqs n hn []
  rw [Nat.mul_one] at q0
  obtain ⟨au, capu, rfl, hum, huc⟩ := hu.shape
  have hk : kval p ins (1, (n : Int), 0) = val p ins n := rfl
  have hq := hp.qs n hn
  have hrun := runR_val hp ins n hn
  have h40 := hp.size
  obtain ⟨ops, hops⟩ : ∃ ops, p.qs.getD n [] = ops := ⟨_, rfl⟩
  rw [hops] at q0 hum huc hu hq hrun
  have Hk := Lib.hid hk
  have Hq := Lib.hid hq
  have Hrun := Lib.hid hrun
  have Hu := Lib.hid hu
  have HRO := Lib.hid hI.1.ro
  have HI := Lib.hid hI
  have Hbel := Lib.hid hbel
  have Hp := Lib.hid hp
  have lg := lt_of_cell q0
  have hn1 : (n : Int) < p.qs.length := by omega
  have hn0 : (0 : Int) ≤ (n : Int) := by omega
  clear hI hk hl hmap hops hq hrun hu hbel hp
  unfold maxLen at hlm
  unfold i3v
  go_enter Try.func42, Try.ntmps42
  go_wp2
  go_region
  all_goals
    go_wp2_with fail
    have hkk := HI.out.keep (((ChgP.refl (fun k => F k ∧ ¬ RO k) w).alloc (.cells #[.int .i64 1, .int .i64 (n : Int), .int .i64 0] 43)).drew)
    have hck : Chg [] w ((w.alloc (.cells #[.int .i64 1, .int .i64 (n : Int), .int .i64 0] 43)).drew) := ((Chg.refl [] w).alloc _).drew
    have k1 : ((w.alloc (.cells #[.int .i64 1, .int .i64 (n : Int), .int .i64 0] 43)).drew).cell? ⟨w.heap.size, 1, none⟩ = some (.int .i64 (n : Int)) := cell_of_heap (heap_at _ _ _ rfl) rfl
    have hF1 : (fun k => F k ∨ (w.heap.size ≤ k ∧ k < ((w.alloc (.cells #[.int .i64 1, .int .i64 (n : Int), .int .i64 0] 43)).drew).heap.size)) w.heap.size := Or.inr ⟨Nat.le_refl _, by simp⟩
    have hsub : ∀ k, F k → (fun k => F k ∨ (w.heap.size ≤ k ∧ k < ((w.alloc (.cells #[.int .i64 1, .int .i64 (n : Int), .int .i64 0] 43)).drew).heap.size)) k := fun k h => Or.inl h
    obtain ⟨F1, hF1e⟩ : ∃ F1 : Nat → Prop, F1 = (fun k => F k ∨ (w.heap.size ≤ k ∧ k < ((w.alloc (.cells #[.int .i64 1, .int .i64 (n : Int), .int .i64 0] 43)).drew).heap.size)) := ⟨_, rfl⟩
    rw [← hF1e] at hkk hF1 hsub
    clear hF1e
    obtain ⟨wk, hwk⟩ : ∃ x, x = (w.alloc (.cells #[.int .i64 1, .int .i64 (n : Int), .int .i64 0] 43)).drew := ⟨_, rfl⟩
    rw [← hwk]
    rw [← hwk] at hkk hck k1
    clear hwk hl3
    have q0k := (hck.cell (p := ⟨g, off + n, none⟩) lg (by simp)).trans q0
    have c1k := hkk.1.c1
    have c3k := hkk.1.c3
    have lk := lt_of_cell k1
    have lbk := lt_of_cell c1k
    have lgk := lt_of_cell q0k
    have HIk := Lib.hid ((hkk.keep ((ChgP.refl _ wk).drew)).anti (F' := F1) (fun k h => Or.inl h))
    have Huk := Lib.hid (hu_drew wk (Hu.out.kept (hck.p (S := fun _ => False)) (fun _ _ h => h)))
    have Hck := Lib.hid hck
    have hROk : ∀ k, RO k → k < wk.drew.heap.size := fun k hk => Nat.lt_of_lt_of_le (HRO.out k hk) hck.size
    have HROk := Lib.hid hROk
    have hrobe := HI.out.1.robe
    have hrc := run_any 42 #[.pointer (some ⟨be, 0, none⟩)] #[] (EvI p ins RO be bm (.slice (some ⟨g, off, none⟩) p.qs.length capv) iv) RO (GV ins (val p ins)) (fun _ => []) p.inp (n : Int) (ev_fam Hbel.out (fun _ => [])) ops Hq.out RO F1 () wk.drew (.slice au ops.length capu) HIk.out Huk.out (fun g h => Or.inr h) HROk.out
    have Hrc := Lib.hid hrc
    clear hrc
    clear hkk hck q0 c1 c3 hROk
    go_region_held3 (fun w' => w'.cell? ⟨be, 1, none⟩ = some (.slice (some ⟨g, off, none⟩) p.qs.length capv) ∧ w'.cell? ⟨w.heap.size, 1, none⟩ = some (.int .i64 (n : Int)) ∧ w'.cell? ⟨g, off + n, none⟩ = some (.slice au ops.length capu))
      (first | (exact kS3) | (go_keep; done))
      ((go_at_call 51; refine (Hrc.out).mono ?_; rintro e w3 hpost; obtain ⟨rfl, h2, h3⟩ := hpost.val Hrun.out; have kS3 : w3.cell? ⟨be, 1, none⟩ = some (.slice (some ⟨g, off, none⟩) p.qs.length capv) ∧ w3.cell? ⟨w.heap.size, 1, none⟩ = some (.int .i64 (n : Int)) ∧ w3.cell? ⟨g, off + n, none⟩ = some (.slice au ops.length capu) := ⟨(h3.cell (p := ⟨be, 1, none⟩) lbk (fun h => h.2 hrobe)).trans c1k, (h3.cell (p := ⟨w.heap.size, 1, none⟩) lk (fun h => h.1 hF1)).trans k1, (h3.cell (p := ⟨g, off + n, none⟩) lgk (fun h => h.2 hg)).trans q0k⟩; have H2 := Lib.hid h2; have H3 := Lib.hid h3; clear h2 h3))
    obtain ⟨es', hm', hes'⟩ := H2.out.1.map
    have hbm3 := hm'.lt
    obtain ⟨o, hupd, hmap2⟩ := (hm'.of_block (w' := w3.drew) rfl).update Try.keyed ik_inj Try.underlying133 (ikOk (n := (n : Int)) (by omega) (by omega)) (.int .i64 (val p ins n))
    have hupd' : (Instr.mapUpdate 133 (.map (some bm)) (.int .i64 (n : Int)) (.int .i64 (val p ins n))).run Try.prog w3.drew = .ok () (setBlock w3.drew bm o) := hupd
    have c33 := H2.out.1.c3
    obtain ⟨_, k13, _⟩ := kS3
    have l13 := lt_of_cell k13
    have l33 := lt_of_cell c33
    have Hmap2 := Lib.hid hmap2
    have Hes := Lib.hid hes'
    clear hm' hes' hupd hmap2 hpost
    go_wp2_with fail
    go_region
    go_wp2
    go_ret
    have hs : ChgP (fun k => k = bm) w3 (setBlock w3.drew bm o) := ((ChgP.refl (fun k => k = bm) w3).drew).setBlock (b := bm) (Or.inl rfl) o
    have hne : ∀ k, RO k → ¬ k = bm := fun k hk e => HI.out.2.2 (e ▸ hk)
    have he := H2.out.1
    refine ⟨by rw [Hk.out]; rfl, ⟨⟨(hs.cell (lt_of_cell he.c1) (hne _ hrobe)).trans he.c1, (hs.cell (lt_of_cell he.c2) (hne _ hrobe)).trans he.c2, (hs.cell (lt_of_cell he.c3) (hne _ hrobe)).trans he.c3, he.rqs.kept hs hne, he.rins.kept hs hne, hrobe, fun k hk => Nat.lt_of_lt_of_le (he.ro k hk) hs.size, _, Hmap2.out, fun x hx => ?_⟩, HI.out.2⟩, ?_⟩
    · rcases mem_ups hx with rfl | hx
      · exact ⟨n, rfl, hn, rfl⟩
      · exact Hes.out x hx
    · exact (((ChgP.refl _ w).new Hck.out).drew.comp H3.out (fun k hk => Or.inl ⟨fun hF => hk.1 (hsub k hF), hk.2⟩)).comp hs (fun k hk => Or.inl (by subst hk; exact HI.out.2))
/-- get answers every key below n -/
theorem get_below (p : Prg) (ins : List Int) (hp : PrgOk p) (RO : Nat → Prop) (be bm : Nat) (qv iv : Value) (hlen : (ins.length : Int) = p.inp) : ∀ n, n ≤ p.qs.length → GetsBelow p ins RO be bm qv iv n := by
  intro n
  induction n with
  | zero =>
    intro _ F w k hk hI
    obtain ⟨k1, k2, k3⟩ := k
    rcases hk with ⟨h1, h2, h3, h4⟩ | ⟨_, h2, h3, _⟩
    · simp only at h1 h2 h3 h4
      subst h1 h4
      exact getIn p ins RO be bm qv iv F w k2 hI hlen h2 h3
    · simp only at h2 h3; omega
  | succ n ih =>
    intro hn F w k hk hI
    by_cases hkn : KeyIn p.inp (n : Int) k
    · exact ih (by omega) F w k hkn hI
    · obtain ⟨k1, k2, k3⟩ := k
      have hk' : k1 = 1 ∧ k2 = (n : Int) ∧ k3 = 0 := by
        rcases hk with ⟨h1, h2, h3, h4⟩ | ⟨h1, h2, h3, h4⟩
        · exact absurd (Or.inl ⟨h1, h2, h3, h4⟩) hkn
        · simp only at h1 h2 h3 h4
          have : ¬ (k2 < (n : Int)) := fun h => hkn (Or.inr ⟨h1, h2, h, h4⟩)
          exact ⟨h1, by omega, h4⟩
      obtain ⟨rfl, rfl, rfl⟩ := hk'
      rcases ev_lookup hI.1 n (by omega) hp.size with hl | hl
      · exact getQ0 p ins RO be bm qv iv F w n hI hl
      · exact getQ1 p ins hp RO be bm qv iv F w n hI (by omega) (ih (by omega)) hl
end Go.Proofs.Ytggiddhhbilcjaa
