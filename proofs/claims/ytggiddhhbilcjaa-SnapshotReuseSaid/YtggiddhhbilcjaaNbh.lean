/- influences: whether a query reads an input, through whatever queries. -/
import Derived.Test.YtggiddhhbilcjaaNra
import Derived.Test.YtggiddhhbilcjaaGh
namespace Go.Proofs.Ytggiddhhbilcjaa
open Go.RowKit Go.ChangeMaps Go.MapKept
set_option linter.unusedVariables false
/-- none of the keys is input i, and the queries among them are on the list -/
def KOk (i : Nat) (PL : List Nat) (ks : List QK) : Prop := ∀ k ∈ ks, k ≠ (0, (i : Int), 0) ∧ (k.1 = 1 → k.2.1.toNat ∈ PL)
theorem KOk.more {i : Nat} {PL PL' : List Nat} {ks : List QK} (h : KOk i PL ks) (hs : ∀ x ∈ PL, x ∈ PL') : KOk i PL' ks := fun k hk => ⟨(h k hk).1, fun e => hs _ ((h k hk).2 e)⟩
theorem KOk.snoc {i : Nat} {PL : List Nat} {ks : List QK} {n : Nat} (hn : n < ks.length) (h : KOk i PL (ks.take n)) (h1 : ks.getD n (0, 0, 0) ≠ (0, (i : Int), 0)) (h2 : (ks.getD n (0, 0, 0)).1 = 1 → (ks.getD n (0, 0, 0)).2.1.toNat ∈ PL) : KOk i PL (ks.take (n + 1)) := by
  intro k hk
  rw [fold_take_snoc ks n hn (0, 0, 0), List.mem_append, List.mem_singleton] at hk
  rcases hk with hk | rfl
  · exact h k hk
  · exact ⟨h1, h2⟩
def nats (PL : List Nat) : List Value := PL.map fun (x : Nat) => Value.int .i64 (x : Int)
/-- the work list so far -/
structure InfRel (p : Prg) (ins : List Int) (q i b : Nat) (w : World) (v : Value) (PL : List Nat) (n : Nat) (wr : World) : Prop where
  row : wr.ownsRow b 3 1 v PL.length (nats PL)
  chg : Chg [] w wr
  nd : PL.Nodup
  lt : ∀ x ∈ PL, x < p.qs.length
  has : q ∈ PL
  done : ∀ j, j < n → KOk i PL (reads p ins (PL.getD j 0))
/-- inside a round: n of the keys looked at -/
structure InfIn (p : Prg) (ins : List Int) (q i b : Nat) (w : World) (v kv : Value) (PL : List Nat) (n x : Nat) (ks : List QK) (m : Nat) (wr : World) : Prop where
  rel : InfRel p ins q i b w v PL n wr
  at_ : PL.getD n 0 = x
  nl : n < PL.length
  keys : ∃ pk : Nat → Prop, I3s pk wr kv ks ∧ (∀ g, pk g → g < wr.heap.size) ∧ ∀ g, v.ownBlock = some g → ¬ pk g
  seen : KOk i PL (ks.take m)
section
variable {p : Prg} {ins : List Int} {q i b n x m : Nat} {w wr w' : World} {v kv : Value} {PL : List Nat} {ks : List QK}
theorem InfRel.few (h : InfRel p ins q i b w v PL n wr) : PL.length ≤ p.qs.length := nodup_below _ h.nd h.lt
theorem InfRel.kept (h : InfRel p ins q i b w v PL n wr) (hb : b = w.heap.size) (hc : Chg [] wr w') : InfRel p ins q i b w v PL n w' :=
  ⟨ownsRow_kept h.row (fun g _ hl => hc.block g hl (by simp)), h.chg.trans hc, h.nd, h.lt, h.has, h.done⟩
theorem InfIn.kept (h : InfIn p ins q i b w v kv PL n x ks m wr) (hb : b = w.heap.size) (hc : Chg [] wr w') : InfIn p ins q i b w v kv PL n x ks m w' := by
  obtain ⟨pk, h1, h2, h3⟩ := h.keys
  exact ⟨h.rel.kept hb hc, h.at_, h.nl, ⟨pk, h1.kept (hc.p (S := fun _ => False)) (fun _ _ h => h), fun g hg => Nat.lt_of_lt_of_le (h2 g hg) hc.size, h3⟩, h.seen⟩
theorem InfIn.next (h : InfIn p ins q i b w v kv PL n x ks m wr) (hm : m < ks.length) (h1 : ks.getD m (0, 0, 0) ≠ (0, (i : Int), 0)) (h2 : (ks.getD m (0, 0, 0)).1 = 1 → (ks.getD m (0, 0, 0)).2.1.toNat ∈ PL) : InfIn p ins q i b w v kv PL n x ks (m + 1) wr :=
  ⟨h.rel, h.at_, h.nl, h.keys, h.seen.snoc hm h1 h2⟩
theorem InfIn.push (h : InfIn p ins q i b w v kv PL n x ks m wr) (hb : b = w.heap.size) (hm : m < ks.length) {c : Nat} {v8 : Value} {o : Obj} (hc : c < p.qs.length) (hn : c ∉ PL) (h1 : ks.getD m (0, 0, 0) ≠ (0, (i : Int), 0)) (h2 : (ks.getD m (0, 0, 0)).2.1 = (c : Int))
    (hown : w'.ownsRow b 3 1 v8 (PL.length + 1) (nats PL ++ [.int .i64 (c : Int)])) (hgr : (wr.alloc o).grownBy w' v.ownBlock) (hat : v8.ownBlock = v.ownBlock ∨ v8.ownBlock = some (wr.heap.size + 1)) : InfIn p ins q i b w v8 kv (PL ++ [c]) n x ks (m + 1) w' := by
  obtain ⟨pk, k1, k2, k3⟩ := h.keys
  have hP : ChgP (fun g => v.ownBlock = some g) wr w' := ((ChgP.refl _ wr).alloc o).grown hgr (fun k h => Or.inl h)
  have hw : Chg [] w w' := (h.rel.chg.alloc o).grown hgr (fun k hk => Or.inr (by have := (h.rel.row.lt k hk).1; omega))
  have hget : (PL ++ [c]).getD n 0 = PL.getD n 0 := by
    rw [List.getD_eq_getElem?_getD, List.getD_eq_getElem?_getD, List.getElem?_append_left h.nl]
  have hmem : ∀ y ∈ PL, y ∈ PL ++ [c] := fun y hy => List.mem_append_left _ hy
  refine ⟨⟨?_, hw, ?_, ?_, hmem _ h.rel.has, ?_⟩, hget.trans h.at_, by simp; have := h.nl; omega, ⟨pk, k1.kept hP (fun g hg e => k3 g e hg), fun g hg => Nat.lt_of_lt_of_le (k2 g hg) hP.size, ?_⟩, (h.seen.more hmem).snoc hm h1 (fun _ => by rw [h2]; simp)⟩
  · rw [List.length_append]
    simpa [nats] using hown
  · rw [List.nodup_append]
    exact ⟨h.rel.nd, by simp, fun a ha d hd e => by rw [List.mem_singleton.1 hd] at e; subst e; exact hn ha⟩
  · intro y hy
    rcases List.mem_append.1 hy with hy | hy
    · exact h.rel.lt y hy
    · rw [List.mem_singleton.1 hy]; exact hc
  · intro j hj
    have : (PL ++ [c]).getD j 0 = PL.getD j 0 := by
      rw [List.getD_eq_getElem?_getD, List.getD_eq_getElem?_getD, List.getElem?_append_left (by have := h.nl; omega)]
    rw [this]
    exact (h.rel.done j hj).more hmem
  · intro g hg hpk
    rcases hat with e | e
    · rw [e] at hg; exact k3 g hg hpk
    · rw [e] at hg
      cases hg
      have := k2 _ hpk
      omega
theorem nats_own (h : wr.ownsRow b 3 1 v PL.length (nats PL)) : IntsP (fun g => v.ownBlock = some g) wr v (PL.map Int.ofNat) := by
  have h' := h
  rcases h.2 with ⟨rfl, h0⟩ | ⟨g, cap, cur, rfl, h1, h2, h3, h4, h5, h6⟩
  · have : PL = [] := List.eq_nil_of_length_eq_zero h0
    subst this
    exact SlR.nil _ _ _ _
  · refine ⟨some ⟨g, 0, none⟩, cap, by rw [List.length_map], by rw [List.length_map]; exact h3, h4, fun _ => ⟨g, 0, rfl, rfl, fun j hj => ?_⟩⟩
    rw [List.length_map] at hj
    have := h'.cells (g := g) rfl j (.int .i64 (PL[j] : Int)) (by simp [nats, hj])
    rw [Addr.add_lit] at this
    show wr.cell? ⟨g, 0 + j * 1, none⟩ = _
    rw [Nat.mul_one, this]
    simp
end
theorem inputKeyA (n : Int) (w : World) : Calls Try.prog 14 #[.int .i64 n] w fun e w' => e = .returned (.agg #[.int .i64 0, .int .i64 n, .int .i64 0]) ∧ Chg [] w w' := inputKey_any n w
def InfPost (p : Prg) (ins : List Int) (q i : Nat) (w : World) (e : Ending) (w' : World) : Prop :=
  ∃ b : Bool, e = .returned (.bool b) ∧ (b = false → ∃ P : Nat → Prop, P q ∧ ∀ x, P x → x < p.qs.length ∧ ∀ k ∈ reads p ins x, k ≠ (0, (i : Int), 0) ∧ (k.1 = 1 → P k.2.1.toNat)) ∧ Chg [] w w'
theorem InfRel.all {p : Prg} {ins : List Int} {q i b : Nat} {w wr : World} {v : Value} {PL : List Nat} (h : InfRel p ins q i b w v PL PL.length wr) : ∃ P : Nat → Prop, P q ∧ ∀ x, P x → x < p.qs.length ∧ ∀ k ∈ reads p ins x, k ≠ (0, (i : Int), 0) ∧ (k.1 = 1 → P k.2.1.toNat) :=
  ⟨fun x => x ∈ PL, h.has, fun x hx => ⟨h.lt x hx, by
    obtain ⟨j, hj, rfl⟩ := List.getElem_of_mem hx
    have := h.done j hj
    rw [List.getD_eq_getElem?_getD, List.getElem?_eq_getElem hj] at this
    exact this⟩⟩
set_option maxRecDepth 100000 in
set_option maxHeartbeats 8000000 in
theorem influences_any (p0 : Nat → Prop) (w : World) (p : Prg) (ins : List Int) (q i : Nat) (qv iv : Value) (hq : I3ss p0 w qv p.qs) (hi : IntsP p0 w iv ins) (hp0 : ∀ k, p0 k → k < w.heap.size) (hok : EvOk p ins q) (hi0 : i < 1000) :
    Calls Try.prog 18 #[.agg #[.int .i64 p.inp, qv], iv, .int .i64 (q : Int), .int .i64 (i : Int)] w (InfPost p ins q i w) := by
  obtain ⟨i0, hi0', hz0, hz1, hz2⟩ := info_parts Try.infoIntQ
  obtain ⟨av, capv, rfl, hlm, hlc⟩ := hq.shape
  have hc0 : Chg [] w (w.alloc (.cells #[.int .i64 p.inp, .slice av p.qs.length capv] 24)) := (Chg.refl [] w).alloc _
  have hL := hok.1.size
  have hqL : q < p.qs.length := by have := hok.2.2.2; omega
  have Hc0 := Lib.hid hc0
  have Hq := Lib.hid hq
  have Hi := Lib.hid hi
  have Hp0 := Lib.hid hp0
  have Hok := Lib.hid hok
  have Hi0 := Lib.hid hi0'
  have Hz0 := Lib.hid hz0
  have Hz1 := Lib.hid hz1
  have Hz2 := Lib.hid hz2
  have hgd := key_guard
  have m0 : (w.alloc (.cells #[.int .i64 p.inp, .slice av p.qs.length capv] 24)).cell? ⟨w.heap.size, 0, none⟩ = some (.int .i64 p.inp) := cell_of_heap (heap_at _ _ _ rfl) rfl
  have m1 : (w.alloc (.cells #[.int .i64 p.inp, .slice av p.qs.length capv] 24)).cell? ⟨w.heap.size, 1, none⟩ = some (.slice av p.qs.length capv) := cell_of_heap (heap_at _ _ _ rfl) rfl
  have hs0 : (w.alloc (.cells #[.int .i64 p.inp, .slice av p.qs.length capv] 24)).heap.size = w.heap.size + 1 := by simp
  have M := Lib.hid (And.intro m0 (And.intro m1 hs0))
  clear hc0 hq hi hp0 hok hi0' hz0 hz1 hz2 m0 m1 hs0
  unfold maxLen at hlm
  go_enter Try.func18, Try.ntmps18
  go_wp2
  obtain ⟨w1, hw1⟩ : ∃ x, x = w.alloc (.cells #[.int .i64 p.inp, .slice av p.qs.length capv] 24) := ⟨_, rfl⟩
  rw [← hw1] at Hc0 M
  rw [← hw1]
  clear hw1
  go_loopw [9, 10] (fun v n wr => ∃ (k : Nat) (PL : List Nat), k ≤ PL.length ∧ n = .int .i64 (k : Nat) ∧ InfRel p ins q i w1.heap.size w1 v PL k wr) (fun _ n _ => p.qs.length - (intOf n).toNat)
  case atStart =>
    refine ⟨0, [q], by simp, rfl, ⟨rfl, .inr ⟨w1.heap.size, 1, #[.int .i64 (q : Int)], by rw [M.out.2.2]; rfl, Nat.le_refl _, heap_at _ _ _ rfl, Nat.le_refl _, by unfold maxLen; omega, rfl, rfl⟩⟩, (Chg.refl [] w1).alloc _, by simp, by simpa using hqL, by simp, fun j hj => by omega⟩
  case round =>
    obtain ⟨n, PL, hn, rfl, hrel⟩ := hrel
    obtain ⟨m0, m1, hs0⟩ := M.out
    have hfew := hrel.few
    have c0 := (hrel.chg.cell (p := ⟨w.heap.size, 0, none⟩) (by rw [hs0]; exact Nat.lt_succ_self _) (by simp)).trans m0
    have c1 := (hrel.chg.cell (p := ⟨w.heap.size, 1, none⟩) (by rw [hs0]; exact Nat.lt_succ_self _) (by simp)).trans m1
    have lw := lt_of_cell c0
    have hch : Chg [] w wr := Hc0.out.trans hrel.chg
    obtain ⟨va, vcap, rfl⟩ := ownsRow_shape hrel.row
    have hints := nats_own hrel.row
    have hbelow := fun g hg => hrel.row.lt g hg
    have Hch := Lib.hid hch
    have Hrel := Lib.hid hrel
    have Hbelow := Lib.hid hbelow
    clear m0 m1 hs0 hrel hch hbelow
    by_cases hlt : n < PL.length
    · obtain ⟨g, off, rfl, hgv, q0⟩ := hints.cell n (by simpa using hlt)
      obtain ⟨x, hx⟩ : ∃ x, PL.getD n 0 = x := ⟨_, rfl⟩
      have hxL : x < p.qs.length := by rw [← hx]; exact Hrel.out.lt _ (getD_memb hlt 0)
      have hq0 : (PL.map Int.ofNat).getD n 0 = (x : Int) := by
        rw [← hx, List.getD_eq_getElem?_getD, List.getD_eq_getElem?_getD, List.getElem?_map, List.getElem?_eq_getElem hlt]
        rfl
      rw [hq0] at q0
      have lq := lt_of_cell q0
      have Hx := Lib.hid hx
      have hn1 : (n : Int) < PL.length := by omega
      have hn0 : (0 : Int) ≤ (n : Int) := by omega
      have hcall := reads_yes p0 wr.drew p ins x (.slice av p.qs.length capv) iv (Hq.out.kept (Hch.out.drew.p (S := fun _ => False)) (fun _ _ h => h)) (Hi.out.kept (Hch.out.drew.p (S := fun _ => False)) (fun _ _ h => h)) (fun k hk => Nat.lt_of_lt_of_le (Hp0.out k hk) Hch.out.size) ⟨Hok.out.1, Hok.out.2.1, by omega, by omega⟩
      have Hcall := Lib.hid hcall
      have Hints := Lib.hid hints
      clear hcall hx hq0 hints hgv
      go_wp2_with fail
      go_region_held3 (fun w' => w'.cell? ⟨w.heap.size, 0, none⟩ = some (.int .i64 p.inp) ∧ w'.cell? ⟨w.heap.size, 1, none⟩ = some (.slice av p.qs.length capv) ∧ w'.cell? ⟨g, off + n, none⟩ = some (.int .i64 (x : Int)))
        (first | (go_keep; done) | (exact kS5))
        ((go_at_call 43; refine (Hcall.out).mono ?_; rintro e w5 ⟨kv, rfl, hkv, c5⟩; have kS5 : w5.cell? ⟨w.heap.size, 0, none⟩ = some (.int .i64 p.inp) ∧ w5.cell? ⟨w.heap.size, 1, none⟩ = some (.slice av p.qs.length capv) ∧ w5.cell? ⟨g, off + n, none⟩ = some (.int .i64 (x : Int)) := ⟨(c5.cell (p := ⟨w.heap.size, 0, none⟩) lw (by simp)).trans c0, (c5.cell (p := ⟨w.heap.size, 1, none⟩) lw (by simp)).trans c1, (c5.cell (p := ⟨g, off + n, none⟩) lq (by simp)).trans q0⟩; have Hc5 := Lib.hid ((Chg.refl [] wr).drew.trans c5); have Hkv := Lib.hid hkv; clear c5 hkv))
      all_goals
        clear kS5 q0 c0 c1 lq lw
        obtain ⟨ks, hks⟩ : ∃ ks, reads p ins (x : Int).toNat = ks := ⟨_, rfl⟩
        rw [hks] at Hkv
        have hks' : reads p ins x = ks := by simpa using hks
        have hkin := reads_in Hok.out.1 ins x hxL
        rw [hks'] at hkin
        obtain ⟨ka, kcap, rfl, hkm, hkc⟩ := Hkv.out.shape
        unfold maxLen at hkm
        have Hks := Lib.hid hks'
        have Hkin := Lib.hid hkin
        have hin : InfIn p ins q i w1.heap.size w1 (.slice (some ⟨g, off, none⟩) PL.length vcap) (.slice ka ks.length kcap) PL n x ks 0 w5 :=
          ⟨Hrel.out.kept rfl Hc5.out, Hx.out, hlt, ⟨_, Hkv.out, fun g hg => hg.2, fun g hg h => by have := (Hbelow.out g hg).2; have h1 := h.1; have : wr.drew.heap.size = wr.heap.size := rfl; omega⟩, fun k hk => by simp at hk⟩
        have Hin := Lib.hid hin
        have Hch5 := Lib.hid (Hch.out.trans Hc5.out)
        clear hks hks' hkin hin
        go_wp2_with fail
        go_loopw [9, 35] (fun v jj wr => ∃ (m : Nat) (PL : List Nat), m ≤ ks.length ∧ jj = .int .i64 (m : Nat) ∧ InfIn p ins q i w1.heap.size w1 v (.slice ka ks.length kcap) PL n x ks m wr) (fun _ jj _ => ks.length - (intOf jj).toNat)
        case atStart => exact ⟨0, PL, by omega, rfl, Hin.out⟩
        case round =>
          obtain ⟨m, PL2, hm, rfl, hin⟩ := hrel
          have hfew2 := hin.rel.few
          obtain ⟨va2, vcap2, rfl⟩ := ownsRow_shape hin.rel.row
          have Hin2 := Lib.hid hin
          clear hin
          by_cases hlm : m < ks.length
          · obtain ⟨pk, hk1, hk2, hk3⟩ := Hin2.out.keys
            obtain ⟨gk, offk, rfl, hgk, k0, k1, k2⟩ := SlR.at hk1 m hlm (0, 0, 0)
            obtain ⟨k, hk⟩ : ∃ k, ks.getD m (0, 0, 0) = k := ⟨_, rfl⟩
            rw [hk] at k0 k1 k2
            have hki := Hkin.out k (by rw [← hk]; exact getD_memb hlm _)
            have Hk := Lib.hid hk
            obtain ⟨x1, x2, x3⟩ := k
            simp only at k0 k1 k2
            have lk := lt_of_cell k0
            have hm1 : (m : Int) < ks.length := by omega
            have hm0 : (0 : Int) ≤ (m : Int) := by omega
            have hints2 := nats_own Hin2.out.rel.row
            have Hints2 := Lib.hid hints2
            have hqe := key_eql x1 x2 x3 0 i 0
            have hch2 : Chg [] w wr := Hc0.out.trans Hin2.out.rel.chg
            have Hch2 := Lib.hid hch2
            have Hki := Lib.hid hki
            have Hk123 := Lib.hid (And.intro hk2 hk3)
            clear hk hk1 hk2 hk3 hints2 hch2 hki
            have n0 : (wr.alloc (.cells #[.int .i64 x1, .int .i64 x2, .int .i64 x3] 43)).drew.cell? ⟨wr.heap.size, 0, none⟩ = some (.int .i64 x1) := cell_of_heap (w := wr.alloc _) (heap_at _ _ _ rfl) rfl
            have n1 : (wr.alloc (.cells #[.int .i64 x1, .int .i64 x2, .int .i64 x3] 43)).drew.cell? ⟨wr.heap.size, 1, none⟩ = some (.int .i64 x2) := cell_of_heap (w := wr.alloc _) (heap_at _ _ _ rfl) rfl
            have n2 : (wr.alloc (.cells #[.int .i64 x1, .int .i64 x2, .int .i64 x3] 43)).drew.cell? ⟨wr.heap.size, 2, none⟩ = some (.int .i64 x3) := cell_of_heap (w := wr.alloc _) (heap_at _ _ _ rfl) rfl
            have l0 := lt_of_cell n0
            by_cases he : x1 = 0 ∧ x2 = (i : Int) ∧ x3 = 0
            · rw [decide_eq_true he] at hqe
              clear he
              go_wp2_with fail
              go_region_held3 (fun w' => w'.cell? ⟨wr.heap.size, 0, none⟩ = some (.int .i64 x1) ∧ w'.cell? ⟨wr.heap.size, 1, none⟩ = some (.int .i64 x2) ∧ w'.cell? ⟨wr.heap.size, 2, none⟩ = some (.int .i64 x3))
                (first | (go_keep; done) | (exact kS7))
                ((go_at_call 14; refine (inputKeyA i _).mono ?_; rintro e w7 ⟨rfl, c7⟩; have kS7 : w7.cell? ⟨wr.heap.size, 0, none⟩ = some (.int .i64 x1) ∧ w7.cell? ⟨wr.heap.size, 1, none⟩ = some (.int .i64 x2) ∧ w7.cell? ⟨wr.heap.size, 2, none⟩ = some (.int .i64 x3) := ⟨(c7.cell (p := ⟨wr.heap.size, 0, none⟩) l0 (by simp)).trans n0, (c7.cell (p := ⟨wr.heap.size, 1, none⟩) l0 (by simp)).trans n1, (c7.cell (p := ⟨wr.heap.size, 2, none⟩) l0 (by simp)).trans n2⟩; have Hc7 := Lib.hid (((Chg.refl [] wr).alloc _).drew.trans c7); clear c7))
              all_goals
                go_wp2
                go_ret
                exact ⟨true, rfl, (fun h => by cases h), Hch2.out.trans Hc7.out⟩
            · rw [decide_eq_false he] at hqe
              have Hne := Lib.hid (show ks.getD m (0, 0, 0) ≠ (0, (i : Int), 0) from fun e => he (by
                rw [Hk.out] at e
                simpa using e))
              clear he
              go_wp2_with fail
              go_region_held3 (fun w' => w'.cell? ⟨wr.heap.size, 0, none⟩ = some (.int .i64 x1) ∧ w'.cell? ⟨wr.heap.size, 1, none⟩ = some (.int .i64 x2) ∧ w'.cell? ⟨wr.heap.size, 2, none⟩ = some (.int .i64 x3))
                (first | (go_keep; done) | (exact kS7))
                ((go_at_call 14; refine (inputKeyA i _).mono ?_; rintro e w7 ⟨rfl, c7⟩; have kS7 : w7.cell? ⟨wr.heap.size, 0, none⟩ = some (.int .i64 x1) ∧ w7.cell? ⟨wr.heap.size, 1, none⟩ = some (.int .i64 x2) ∧ w7.cell? ⟨wr.heap.size, 2, none⟩ = some (.int .i64 x3) := ⟨(c7.cell (p := ⟨wr.heap.size, 0, none⟩) l0 (by simp)).trans n0, (c7.cell (p := ⟨wr.heap.size, 1, none⟩) l0 (by simp)).trans n1, (c7.cell (p := ⟨wr.heap.size, 2, none⟩) l0 (by simp)).trans n2⟩; have Hc7 := Lib.hid (((Chg.refl [] wr).alloc _).drew.trans c7); clear c7))
              all_goals
                obtain ⟨n0, n1, n2⟩ := kS7
                have l0 := lt_of_cell n0
                have hin7 := Hin2.out.kept rfl Hc7.out
                have Hin7 := Lib.hid hin7
                have hints7 := nats_own hin7.rel.row
                have hrow7 := hin7.rel.row.alloc (.cells #[.int .i64 x2] 3)
                have hbase7 := (hin7.rel.chg.alloc (.cells #[.int .i64 x2] 3)).size
                have Hints7 := Lib.hid hints7
                have Hrow7 := Lib.hid hrow7
                have Hbase7 := Lib.hid hbase7
                clear hin7 hints7 hrow7 hqe hbase7
                by_cases h1 : x1 = 1
                · subst h1
                  obtain ⟨c, hc, rfl⟩ : ∃ c : Nat, c < p.qs.length ∧ x2 = (c : Int) := by
                    have := Hki.out
                    unfold KeyIn at this
                    simp only at this
                    obtain ⟨c, rfl⟩ := Int.eq_ofNat_of_zero_le (show 0 ≤ x2 by omega)
                    exact ⟨c, by omega, rfl⟩
                  go_wp2_with fail
                  refine (refContains_any (fun g => (Value.slice va2 PL2.length vcap2).ownBlock = some g) w7 _ (PL2.map Int.ofNat) c (by have := Hints7.out; simpa using this)).mono ?_
                  rintro e w8 ⟨rfl, rfl⟩
                  have hmem : ((c : Int) ∈ PL2.map Int.ofNat) ↔ c ∈ PL2 := ⟨fun h => by
                    obtain ⟨a, ha, e⟩ := List.mem_map.1 h
                    have : a = c := Int.ofNat_inj.1 e
                    exact this ▸ ha, fun h => List.mem_map.2 ⟨c, h, rfl⟩⟩
                  by_cases hcm : c ∈ PL2
                  · rw [decide_eq_true (hmem.2 hcm)]
                    have hnx := Hin7.out.next hlm Hne.out (fun _ => by rw [Hk.out]; simpa using hcm)
                    have Hnx := Lib.hid hnx
                    clear hnx hmem hcm
                    go_wp2_with fail
                    exact ⟨⟨m + 1, PL2, by omega, by go_num, Hnx.out⟩, by simp [intOf]; omega⟩
                  · rw [decide_eq_false (fun h => hcm (hmem.1 h))]
                    have Hcm := Lib.hid hcm
                    clear hcm hmem
                    go_wp2_with (at_builtin; refine wpList_append_own_at _ rfl _ _ 37 rfl w1.heap.size 3 i0 (.int .i64 0) 1 8 Try.underlying37 Hi0.out Hz0.out Hz1.out Hz2.out rfl (by decide) (.slice va2 PL2.length vcap2) PL2.length (nats PL2) rfl Hrow7.out ⟨w7.heap.size, 0, none⟩ 1 1 [.int .i64 (c : Int)] rfl rfl (cell_one_new _ _ _) (by simp [Value.oneCell']) (by unfold maxLen; omega) (by omega) Hbase7.out ?_; intro v9 w9 hown9 hgr9 hnil9 hat9; have Hown9 := Lib.hid hown9; have Hgr9 := Lib.hid hgr9; have Hat9 := Lib.hid hat9; clear hown9 hgr9 hnil9 hat9)
                    have hpu := Hin7.out.push rfl hlm hc Hcm.out Hne.out (by rw [Hk.out]) Hown9.out Hgr9.out (by have := Hat9.out; simpa using this)
                    have Hpu := Lib.hid hpu
                    clear hpu
                    go_wp2_with fail
                    exact ⟨⟨m + 1, PL2 ++ [c], by omega, by go_num, Hpu.out⟩, by simp [intOf]; omega⟩
                · have hb1 : (x1 == 1) = false := beq_eq_false_iff_ne.2 h1
                  have hnx := Hin7.out.next hlm Hne.out (fun e => by rw [Hk.out] at e; exact absurd e h1)
                  have Hnx := Lib.hid hnx
                  clear hnx h1
                  go_wp2_with fail
                  exact ⟨⟨m + 1, PL2, by omega, by go_num, Hnx.out⟩, by simp [intOf]; omega⟩
          · obtain rfl : m = ks.length := by omega
            have hseen := Hin2.out.seen
            rw [List.take_length] at hseen
            have hdone : InfRel p ins q i w1.heap.size w1 (.slice va2 PL2.length vcap2) PL2 (n + 1) wr := by
              have h := Hin2.out.rel
              refine ⟨h.row, h.chg, h.nd, h.lt, h.has, fun j hj => ?_⟩
              by_cases e : j = n
              · rw [e, Hin2.out.at_, Hks.out]; exact hseen
              · exact h.done j (by omega)
            have hnl := Hin2.out.nl
            have Hdone := Lib.hid hdone
            clear hdone hseen
            go_wp2_with fail
            exact ⟨⟨n + 1, PL2, by omega, by go_num, Hdone.out⟩, by simp [intOf]; omega⟩
    · obtain rfl : n = PL.length := by omega
      have hfin := Hrel.out.all
      have Hfin := Lib.hid hfin
      clear hfin
      go_wp2
      go_ret
      exact ⟨false, rfl, fun _ => Hfin.out, Hch.out⟩
end Go.Proofs.Ytggiddhhbilcjaa
