/- JSON texts: what the parser of elements keeps. -/
import Derived.Test.YtpnaegfldkjikaaDoorJvY
namespace Go.Proofs.YtpnaegfldkjikaaDoor.Jv
open Go.RowKit Go.ChangeMaps Go.MapKept
set_option linter.unusedVariables false
set_option linter.unusedSimpArgs false
/-- no space ahead -/
theorem skip_no (db : Nat) (s : ByteArray) (o : Nat) (c : UInt8) (l : List UInt8) (w : World) (h : DS w db s o) (hs : s.size ≤ 100000) (hd : s.data.toList.drop o = c :: l) (hc : sp c = false) :
    Calls Tryd.prog 26 #[.pointer (some ⟨db, 0, none⟩)] w fun e w' => e = .returned (.tuple #[]) ∧ DS w' db s o ∧ Chg [db] w w' := by
  have hp := (peek_cons hd).2.1
  refine (skip_any db s o w h (by omega) hs).mono ?_
  rintro e w' ⟨rfl, o', h1, h2, h3, h4, h5⟩
  have hk : skip (s.data.toList.drop o) = s.data.toList.drop o := by rw [hd, skip, hc]; rfl
  rw [hk] at h4
  have h6 := congrArg List.length h4
  rw [List.length_drop, List.length_drop] at h6
  have h7 : s.data.toList.length = s.size := rfl
  obtain rfl : o' = o := by omega
  exact ⟨rfl, h3, h5⟩
/-- accept of one byte -/
theorem accept_one (db : Nat) (s : ByteArray) (o : Nat) (c t : UInt8) (l : List UInt8) (w : World) (h : DS w db s o) (hs : s.size ≤ 100000) (hd : s.data.toList.drop o = c :: l) :
    Calls Tryd.prog 37 #[.pointer (some ⟨db, 0, none⟩), .string ⟨#[t]⟩] w fun e w' => e = .returned (.bool (c == t)) ∧ DS w' db s (if (c == t) = true then o + 1 else o) ∧ Chg [db] w w' := by
  have hp := (peek_cons hd).2.1
  refine (accept_any db s ⟨#[t]⟩ o w h (by omega) hs (by show 1 ≤ 100; decide)).mono ?_
  rw [show (ByteArray.mk #[t]).data.toList = [t] from rfl, hd]
  rw [show Lib.hasPrefix (c :: l) [t] = (c == t) by simp [Lib.hasPrefix, List.isPrefixOf, BEq.comm]]
  exact fun e w' h => h
/-- the first byte of a value's text -/
def hdOk (c : UInt8) : Prop := sp c = false ∧ c ≠ 93 ∧ c ≠ 125 ∧ c ≠ 44
theorem enc_head (j : J) : ∃ c l, j.enc = c :: l ∧ hdOk c := by
  obtain ⟨k, n, t, ns, es⟩ := j
  unfold J.enc hdOk
  split
  · exact ⟨110, _, rfl, by decide⟩
  split
  · by_cases hn : n = 1
    · simp only [hn, decide_true]
      exact ⟨116, _, rfl, by decide⟩
    · simp only [hn, decide_false]
      exact ⟨102, _, rfl, by decide⟩
  split
  · rw [itoa_sg]
    have h1 := dig_all n.natAbs
    have h2 := dig_ne n.natAbs
    unfold sg
    split
    · exact ⟨45, _, rfl, by decide⟩
    · generalize Lib.decDigits n.natAbs = L at h1 h2
      cases L with
      | nil => simp at h2
      | cons c l =>
        have h3 := h1 c (by simp)
        refine ⟨c, l, rfl, ?_, ?_, ?_, ?_⟩
        · unfold sp
          have e : ∀ a : UInt8, a.toNat < 48 → (c == a) = false := fun a ha => beq_eq_false_iff_ne.2 fun h => by subst h; omega
          rw [e 32 (by decide), e 9 (by decide), e 10 (by decide), e 13 (by decide)]
          rfl
        · intro h; subst h; simp at h3
        · intro h; subst h; simp at h3
        · intro h; subst h; simp at h3
  split
  · exact ⟨34, _, rfl, by decide⟩
  split
  · exact ⟨123, _, rfl, by decide⟩
  · exact ⟨91, _, rfl, by decide⟩
/-- a row of values that is apart from block n -/
def JRowN (B f : Nat) (w : World) (v : Value) (xs : List J) (n : Option Nat) : Prop :=
  ∃ es : List Ev, es.length = xs.length ∧ OwnE w B v es ∧ ∀ i (hi : i < es.length), JV (fun g => ((B ≤ g ∧ g < w.heap.size) ∧ v.ownBlock ≠ some g) ∧ n ≠ some g) f w es[i].val (xs.getD i J.zero)
theorem JRowN.nil (B f : Nat) (w : World) (n : Option Nat) : JRowN B f w (.slice none 0 0) [] n := ⟨[], rfl, OwnE.nil _ _, fun i hi => absurd hi (by simp)⟩
theorem JRowN.kept {B f : Nat} {w w' : World} {S : Nat → Prop} {v : Value} {xs : List J} {n : Option Nat} (h : JRowN B f w v xs n) (hc : ChgP S w w') (hS : ∀ g, S g → g < B) : JRowN B f w' v xs n := by
  obtain ⟨es, h1, h2, h3⟩ := h
  exact ⟨es, h1, h2.kept hc fun g hg hs => by have := (ownsRow_ge h2 hg).1; have := hS g hs; omega, fun i hi => ((h3 i hi).kept hc (fun g hg hs => by have := hS g hs; have := hg.1.1.1; omega)).imp fun g hg => ⟨⟨⟨hg.1.1.1, Nat.lt_of_lt_of_le hg.1.1.2 hc.size⟩, hg.1.2⟩, hg.2⟩⟩
theorem JRowN.shape {B f : Nat} {w : World} {v : Value} {xs : List J} {n : Option Nat} (h : JRowN B f w v xs n) : ∃ a cap, v = .slice a xs.length cap := by
  obtain ⟨es, h1, h2, h3⟩ := h
  rw [← h1]
  exact ownsRow_shape h2
theorem JRowN.own {B f : Nat} {w : World} {v : Value} {xs : List J} {n : Option Nat} (h : JRowN B f w v xs n) {g : Nat} (hg : v.ownBlock = some g) : B ≤ g ∧ g < w.heap.size := by
  obtain ⟨es, h1, h2, h3⟩ := h
  exact ownsRow_ge h2 hg
theorem JRowN.read {B f : Nat} {w : World} {v : Value} {xs : List J} {n : Option Nat} (h : JRowN B f w v xs n) : SlR (fun g => B ≤ g ∧ g < w.heap.size) 5 (rdJ (fun g => B ≤ g ∧ g < w.heap.size) (f + 1)) w v xs := by
  obtain ⟨es, h1, h2, h3⟩ := h
  exact h2.read h1 (fun g hg => ownsRow_ge h2 hg) fun i hi => (h3 i hi).imp fun g hg => hg.1.1
/-- the names' row has grown -/
theorem JRowN.names {B B' f : Nat} {w w' : World} {v nv : Value} {xs : List J} {n' : Option Nat} {ns : List ByteArray} (h : JRowN B f w v xs nv.ownBlock) (hn : OwnN w B' nv ns) (hc : Chg nv.ownBlock.toList w w') (hn' : n' = nv.ownBlock ∨ n' = some w.heap.size) : JRowN B f w' v xs n' := by
  obtain ⟨es, h1, h2, h3⟩ := h
  refine ⟨es, h1, h2.kept hc.toP fun g hg hm => ?_, fun i hi => ((h3 i hi).kept hc.toP fun g hg hm => hg.2 (by simpa using hm)).imp fun g hg => ⟨⟨⟨hg.1.1.1, Nat.lt_of_lt_of_le hg.1.1.2 hc.size⟩, hg.1.2⟩, fun e => ?_⟩⟩
  · have hm' : nv.ownBlock = some g := by simpa using hm
    rcases h2.2 with ⟨h0, _⟩ | ⟨g', cap', cur, hv, _, hh, _⟩
    · subst h0; cases hg
    · subst hv
      simp only [Value.ownBlock, Option.some.injEq] at hg
      subst hg
      exact own_ne hn.1 hm' hh
  · rcases hn' with h | h
    · exact hg.2 (h ▸ e)
    · rw [h] at e
      cases e
      exact Nat.lt_irrefl _ hg.1.1.2
theorem JRowN.push {B f : Nat} {w : World} {v : Value} {xs : List J} {m : Option Nat} (h : JRowN B f w v xs m) {e : Ev} {x : J} {n : Nat} (ty : TypeId) (hb : w.heap[n]? = some (.cells #[.int .i64 e.k, .int .i64 e.n, .string e.t, .slice e.na e.nl e.nc, .slice e.ia e.il e.ic] 25 (0, 0)))
    (hx : JV (fun g => ((B ≤ g ∧ g < w.heap.size) ∧ v.ownBlock ≠ some g) ∧ m ≠ some g) f w e.val x) (hlen : xs.length ≤ 100000) (hB : B ≤ w.heap.size) :
    ∃ a cap w', (Builtin.append_ #[23, 23] ty #[v, .slice (some ⟨n, 0, none⟩) 1 1]).run Tryd.prog w = .ok (.slice a (xs.length + 1) cap) w' ∧ JRowN B f w' (.slice a (xs.length + 1) cap) (xs ++ [x]) m ∧ Chg v.ownBlock.toList w w' := by
  obtain ⟨es, h1, h2, h3⟩ := h
  obtain ⟨v', w', hr, ho, hc, hob⟩ := run_append_ev w ty B v es e n h2 hb (by omega) hB
  have hsh := ownsRow_shape ho
  rw [List.length_append, List.length_singleton, h1] at hsh
  obtain ⟨a, cap, rfl⟩ := hsh
  have key : ∀ (y : Ev) (z : J), JV (fun g => ((B ≤ g ∧ g < w.heap.size) ∧ v.ownBlock ≠ some g) ∧ m ≠ some g) f w y.val z → JV (fun g => ((B ≤ g ∧ g < w'.heap.size) ∧ (Value.slice a (xs.length + 1) cap).ownBlock ≠ some g) ∧ m ≠ some g) f w' y.val z := fun y z hz => by
    refine (hz.kept hc.toP fun g hg hm => ?_).imp fun g hg => ⟨⟨⟨hg.1.1.1, Nat.lt_of_lt_of_le hg.1.1.2 hc.size⟩, fun e => ?_⟩, hg.2⟩
    · exact hg.1.2 (by simpa using hm)
    · rcases hob with ho | ho
      · exact hg.1.2 (ho.symm.trans e)
      · rw [ho] at e
        cases e
        exact Nat.lt_irrefl _ hg.1.1.2
  refine ⟨a, cap, w', hr, ⟨es ++ [e], by simp [h1], ho, fun i hi => ?_⟩, hc⟩
  by_cases hil : i < es.length
  · rw [List.getElem_append_left hil, List.getD_eq_getElem?_getD, List.getElem?_append_left (by omega), ← List.getD_eq_getElem?_getD]
    exact key _ _ (h3 i hil)
  · have hi' : i = es.length := by simp at hi; omega
    subst hi'
    rw [List.getElem_append_right (Nat.le_refl _), List.getD_eq_getElem?_getD, List.getElem?_append_right (by omega)]
    simp only [h1, Nat.sub_self, List.getElem_singleton, List.getElem?_cons_zero, Option.getD_some]
    exact key _ _ hx
/-- one name more -/
theorem run_append_nm (w : World) (ty : TypeId) (B : Nat) (v : Value) (l : List ByteArray) (t : ByteArray) (n : Nat) (hv : OwnN w B v l) (ht : t.size ≤ maxLen) (hb : w.heap[n]? = some (.cells #[.string t] 9 (0, 0))) (hlen : l.length ≤ 100000) (hB : B ≤ w.heap.size) :
    ∃ a cap w', (Builtin.append_ #[22, 22] ty #[v, .slice (some ⟨n, 0, none⟩) 1 1]).run Tryd.prog w = .ok (.slice a (l.length + 1) cap) w' ∧ OwnN w' B (.slice a (l.length + 1) cap) (l ++ [t]) ∧ Chg v.ownBlock.toList w w' ∧ ((Value.slice a (l.length + 1) cap).ownBlock = v.ownBlock ∨ (Value.slice a (l.length + 1) cap).ownBlock = some w.heap.size) := by
  obtain ⟨i0, hi, hz0, hz1, hz2⟩ := info_parts infoS
  obtain ⟨v', w', hr, h2, h3, _, h5⟩ := run_append_own_at (P := Tryd.prog) w B 22 ty 9 i0 (.string ⟨#[]⟩) 1 16 Tryd.underlying22 hi hz0 hz1 hz2 rfl (by decide) v l.length (ssk l) hv.1 ⟨n, 0, none⟩ 1 1 [sk t] rfl (fun j u hj => by
    rw [Addr.add_lit, Nat.zero_add]
    refine cell_of_heap hb ?_
    match j with
    | 0 => simpa [sk] using hj
    | j + 1 => simp at hj) (ssk_one [t]) (by unfold maxLen; omega) (by omega) hB
  have hsh := ownsRow_shape h2
  obtain ⟨a, cap, rfl⟩ := hsh
  refine ⟨a, cap, w', hr, ⟨?_, fun s hs => ?_⟩, (Chg.refl _ w).grown h3 (by intro k hk; left; simp [hk]), h5⟩
  · rw [List.length_append, List.length_singleton]
    unfold ssk at h2 ⊢
    rw [List.map_append]
    exact h2
  · rw [List.mem_append, List.mem_singleton] at hs
    rcases hs with hs | rfl
    · exact hv.2 s hs
    · exact ht
end Go.Proofs.YtpnaegfldkjikaaDoor.Jv
