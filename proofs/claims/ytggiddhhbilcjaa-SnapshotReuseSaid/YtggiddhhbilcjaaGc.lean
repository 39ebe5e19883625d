/- Reads: its closure as a get. -/
import Derived.Test.YtggiddhhbilcjaaGb
import Derived.Test.YtggiddhhbilcjaaKeys
/- Reads: its closure as a get. -/
namespace Go.Proofs.Ytggiddhhbilcjaa
open Go.RowKit Go.ChangeMaps Go.MapKept
set_option linter.unusedVariables false
theorem Try.infoKey : (Try.prog.info? 43).map (fun i => (i.zero, i.size, i.bytes)) = some (some (.agg #[.int .i64 0, .int .i64 0, .int .i64 0]), 3, 24) := by kernel_rfl
theorem nodup_below (n : Nat) : ∀ {P : List Nat}, P.Nodup → (∀ x ∈ P, x < n) → P.length ≤ n := by
  induction n with
  | zero =>
    intro P _ hb
    cases P with
    | nil => simp
    | cons x P => exact absurd (hb x (by simp)) (by omega)
  | succ n ih =>
    intro P hd hb
    have h1 := ih (hd.erase n) (fun x hx => by
      have := (hd.mem_erase_iff).1 hx
      have := hb x this.2
      omega)
    have h2 := List.length_erase (a := n) (l := P)
    split at h2 <;> omega
theorem keys_few {inp : Int} {L : Nat} {ks : List QK} (hi : inp ≤ 40) (hL : L ≤ 40) (hd : ks.Nodup) (hk : ∀ k ∈ ks, KeyIn inp (L : Int) k) : ks.length ≤ 80 := by
  have h1 : (ks.map fun k => (k.1 * 40 + k.2.1).toNat).Nodup := by
    rw [List.Nodup, List.pairwise_map]
    refine List.Pairwise.imp_of_mem ?_ hd
    intro a b ha hb hne e
    apply hne
    obtain ⟨a1, a2, a3⟩ := a
    obtain ⟨b1, b2, b3⟩ := b
    have ka := hk _ ha
    have kb := hk _ hb
    unfold KeyIn at ka kb
    simp only at ka kb e
    have : a1 = b1 ∧ a2 = b2 ∧ a3 = b3 := by omega
    obtain ⟨rfl, rfl, rfl⟩ := this
    rfl
  have h2 := nodup_below 80 h1 (fun x hx => by
    obtain ⟨k, hk', rfl⟩ := List.mem_map.1 hx
    have := hk k hk'
    unfold KeyIn at this
    omega)
  simpa using h2
theorem addK_nodup {ks : List QK} (h : ks.Nodup) (k : QK) : (addK ks k).Nodup := by
  unfold addK
  split
  · exact h
  · rename_i hn
    rw [List.nodup_append]
    exact ⟨h, by simp, fun a ha b hb e => by rw [List.mem_singleton.1 hb] at e; subst e; exact hn ha⟩
/-- the closure's memory: the evaluator's, and the keys so far in cell bk -/
structure RdMem (p : Prg) (ins : List Int) (RO : Nat → Prop) (be bm bv bk : Nat) (qv iv : Value) (L : Nat) (ks : List QK) (v : Value) (w : World) : Prop where
  ev : EvMem p ins RO be bm qv iv w
  rbv : RO bv
  cv : w.cell? ⟨bv, 0, none⟩ = some (.pointer (some ⟨be, 0, none⟩))
  cell : w.cell? ⟨bk, 0, none⟩ = some v
  free : w.frozen? ⟨bk, 0, none⟩ = false
  row : w.ownsRow 0 43 3 v ks.length (flat3 ks)
  bkm : bk ≠ bm
  own : ∀ g, v.ownBlock = some g → g ≠ bk ∧ g ≠ bm ∧ ¬ RO g
  rbk : ¬ RO bk
  rbm : ¬ RO bm
  nd : ks.Nodup
  kin : ∀ k ∈ ks, KeyIn p.inp (L : Int) k
def RdI (p : Prg) (ins : List Int) (RO : Nat → Prop) (be bm bv bk : Nat) (qv iv : Value) (L : Nat) (F : Nat → Prop) (ks : List QK) (w : World) : Prop :=
  ∃ v, RdMem p ins RO be bm bv bk qv iv L ks v w ∧ ¬ F bk ∧ ¬ F bm ∧ (∀ g, v.ownBlock = some g → ¬ F g) ∧ ∀ k, F k → k < w.heap.size
section
variable {p : Prg} {ins : List Int} {RO : Nat → Prop} {be bm bv bk : Nat} {qv iv : Value} {L : Nat} {ks : List QK} {v : Value} {w w' : World} {S F F' : Nat → Prop}
theorem RdMem.kept (h : RdMem p ins RO be bm bv bk qv iv L ks v w) (hc : ChgP S w w') (hS : ∀ k, S k → ¬ RO k) (h1 : ¬ S bk) (h2 : ¬ S bm) (h3 : ∀ g, v.ownBlock = some g → ¬ S g) : RdMem p ins RO be bm bv bk qv iv L ks v w' := by
  have he := (EvI.keep (F := S) (s := ()) ⟨h.ev, h2, h.rbm⟩ (hc.mono fun k hk => ⟨hk, hS k hk⟩)).1
  exact ⟨he, h.rbv, (hc.cell (lt_of_cell h.cv) (fun hk => hS _ hk h.rbv)).trans h.cv, (hc.cell (lt_of_cell h.cell) h1).trans h.cell, (hc.frozen (lt_of_cell h.cell) h1).trans h.free, ownsRow_kept h.row (fun g hg hl => hc.block g hl (h3 g hg)), h.bkm, h.own, h.rbk, h.rbm, h.nd, h.kin⟩
theorem RdI.keep (h : RdI p ins RO be bm bv bk qv iv L F ks w) (hc : ChgP (fun k => F k ∧ ¬ RO k) w w') : RdI p ins RO be bm bv bk qv iv L (fun k => F k ∨ (w.heap.size ≤ k ∧ k < w'.heap.size)) ks w' := by
  obtain ⟨v, hm, h1, h2, h3, h4⟩ := h
  obtain ⟨es, hmap, _⟩ := hm.ev.map
  have lb := hmap.lt
  have lk : bk < w.heap.size := lt_of_cell hm.cell
  refine ⟨v, hm.kept hc (fun k hk => hk.2) (fun hk => h1 hk.1) (fun hk => h2 hk.1) (fun g hg hk => h3 g hg hk.1), fun h => ?_, fun h => ?_, fun g hg h => ?_, fun k h => ?_⟩
  · rcases h with h | h
    · exact h1 h
    · omega
  · rcases h with h | h
    · exact h2 h
    · omega
  · rcases h with h | h
    · exact h3 g hg h
    · have := (hm.row.lt g hg).2; omega
  · rcases h with h | h
    · exact Nat.lt_of_lt_of_le (h4 k h) hc.size
    · exact h.2
theorem RdI.anti (h : RdI p ins RO be bm bv bk qv iv L F ks w) (hF : ∀ k, F' k → F k) : RdI p ins RO be bm bv bk qv iv L F' ks w := by
  obtain ⟨v, hm, h1, h2, h3, h4⟩ := h
  exact ⟨v, hm, fun h => h1 (hF _ h), fun h => h2 (hF _ h), fun g hg h => h3 g hg (hF _ h), fun k hk => h4 k (hF k hk)⟩
end
theorem enter21 (args : Array Value) (w : World) : (callFunc 67 args).run Try.prog w = .ok (.enter 67 args) w := by
  go_simp
/-- what get must leave alone when the closure calls it -/
def F2 (F : Nat → Prop) (bk : Nat) (v : Value) : Nat → Prop := fun b => F b ∨ b = bk ∨ v.ownBlock = some b
theorem rd_ev {p : Prg} {ins : List Int} {RO F : Nat → Prop} {be bm bv bk : Nat} {qv iv v : Value} {L : Nat} {ks : List QK} {w : World} (hm : RdMem p ins RO be bm bv bk qv iv L ks v w) (hF : ¬ F bm) : EvI p ins RO be bm qv iv (F2 F bk v) () w :=
  ⟨hm.ev, fun h => by
    rcases h with h | h | h
    · exact hF h
    · exact hm.bkm h.symm
    · exact (hm.own _ h).2.1 rfl, hm.rbm⟩
theorem rd_end {p : Prg} {ins : List Int} {RO F : Nat → Prop} {be bm bv bk : Nat} {qv iv v : Value} {L : Nat} {ks : List QK} {k : QK} {w w3 w5 : World} {e : Ending} (hm : RdMem p ins RO be bm bv bk qv iv L (addK ks k) v w3) (h1 : ¬ F bk) (h2 : ¬ F bm) (h3 : ∀ g, v.ownBlock = some g → ¬ F g) (h4 : ∀ k, F k → k < w3.heap.size)
    (hc : ChgP (fun b => ¬ F b ∧ ¬ RO b) w w3) (he : EvPost p ins RO be bm qv iv (F2 F bk v) k w3 e w5) : GetPost (RdI p ins RO be bm bv bk qv iv L) RO (GR ins (val p ins)) (fun _ => []) F ks k w e w5 := by
  obtain ⟨e1, e2, e3⟩ := he
  have hn : ∀ b, F2 F bk v b → ¬ (¬ F2 F bk v b ∧ ¬ RO b) := fun b hb h => h.1 hb
  have hk : F2 F bk v bk := Or.inr (Or.inl rfl)
  refine ⟨e1, ⟨v, ⟨e2.1, hm.rbv, (e3.cell (lt_of_cell hm.cv) (fun h => h.2 hm.rbv)).trans hm.cv, (e3.cell (lt_of_cell hm.cell) (hn _ hk)).trans hm.cell, (e3.frozen (lt_of_cell hm.cell) (hn _ hk)).trans hm.free, ownsRow_kept hm.row (fun g hg hl => e3.block g hl (hn _ (Or.inr (Or.inr hg)))), hm.bkm, hm.own, hm.rbk, hm.rbm, hm.nd, hm.kin⟩, h1, h2, h3, fun k hk => Nat.lt_of_lt_of_le (h4 k hk) e3.size⟩, hc.comp e3 (fun b hb => Or.inl ⟨fun h => hb.1 (Or.inl h), hb.2⟩)⟩
theorem rd_push {p : Prg} {ins : List Int} {RO : Nat → Prop} {be bm bv bk : Nat} {qv iv v v8 u : Value} {L : Nat} {ks : List QK} {k : QK} {w2 w8 : World} (hm : RdMem p ins RO be bm bv bk qv iv L ks v w2) (hk : KeyIn p.inp (L : Int) k) (hn : k ∉ ks)
    (hown : w8.ownsRow 0 43 3 v8 (ks.length + 1) (flat3 ks ++ [.int .i64 k.1, .int .i64 k.2.1, .int .i64 k.2.2])) (hc : ChgP (fun b => v.ownBlock = some b) w2 w8) (h8 : w8.cell? ⟨bk, 0, none⟩ = some u) (f8 : w8.frozen? ⟨bk, 0, none⟩ = false)
    (hat : v8.ownBlock = v.ownBlock ∨ v8.ownBlock = some (w2.heap.size + 1)) : RdMem p ins RO be bm bv bk qv iv L (addK ks k) v8 (w8.setCell ⟨bk, 0, none⟩ v8) := by
  have hadd : addK ks k = ks ++ [k] := by unfold addK; rw [if_neg hn]
  have lk : bk < w2.heap.size := lt_of_cell hm.cell
  have hS : ChgP (fun b => v.ownBlock = some b ∨ b = bk) w2 (w8.setCell ⟨bk, 0, none⟩ v8) := (hc.mono (T := fun b => v.ownBlock = some b ∨ b = bk) fun b hb => Or.inl hb).setCell (p := ⟨bk, 0, none⟩) (Or.inl (Or.inr rfl)) v8
  have hro : ∀ b, (v.ownBlock = some b ∨ b = bk) → ¬ RO b := fun b hb => hb.elim (fun h => (hm.own b h).2.2) (fun h => h ▸ hm.rbk)
  have hbm : ¬ (v.ownBlock = some bm ∨ bm = bk) := fun h => h.elim (fun h => (hm.own _ h).2.1 rfl) (fun h => hm.bkm h.symm)
  have he := (EvI.keep (F := fun b => v.ownBlock = some b ∨ b = bk) (s := ()) ⟨hm.ev, hbm, hm.rbm⟩ (hS.mono fun b hb => ⟨hb, hro b hb⟩)).1
  obtain ⟨es, hmap, _⟩ := hm.ev.map
  have lm := hmap.lt
  have hg8 : ∀ g, v8.ownBlock = some g → g ≠ bk ∧ g ≠ bm ∧ ¬ RO g := fun g hg => by
    rcases hat with e | e
    · rw [e] at hg; exact hm.own g hg
    · rw [e] at hg
      cases hg
      exact ⟨by omega, by omega, fun h => by have := hm.ev.ro _ h; omega⟩
  refine ⟨he, hm.rbv, (hS.cell (lt_of_cell hm.cv) (fun h => hro _ h hm.rbv)).trans hm.cv, World.cell?_setCell_same' _ _ _ (by rw [h8]; rfl), by simpa using f8, ?_, hm.bkm, hg8, hm.rbk, hm.rbm, addK_nodup hm.nd k, fun x hx => ?_⟩
  · rw [hadd, flat3_append, List.length_append]
    exact ownsRow_kept hown fun g hg _ => heap_setCell_ne _ _ _ _ (hg8 g hg).1
  · rcases mem_addK_iff hx with hx | rfl
    · exact hm.kin x hx
    · exact hk
set_option maxRecDepth 100000 in
set_option maxHeartbeats 2000000 in
theorem readsGet_any (p : Prg) (ins : List Int) (hp : PrgOk p) (RO : Nat → Prop) (be bm bv bk : Nat) (qv iv : Value) (L : Nat) (hL : L ≤ 40) (hbel : GetsBelow p ins RO be bm qv iv L) (F : Nat → Prop) (ks : List QK) (w : World) (k : QK) (hk : KeyIn p.inp (L : Int) k) (hI : RdI p ins RO be bm bv bk qv iv L F ks w) :
    Calls Try.prog 67 #[i3v k, .pointer (some ⟨bk, 0, none⟩), .pointer (some ⟨bv, 0, none⟩)] w (GetPost (RdI p ins RO be bm bv bk qv iv L) RO (GR ins (val p ins)) (fun _ => []) F ks k w) := by
  obtain ⟨v, hm, h1, h2, h3, h4⟩ := hI
  have hc0 : Chg [] w (w.alloc (.cells #[.int .i64 k.1, .int .i64 k.2.1, .int .i64 k.2.2] 43)) := (Chg.refl [] w).alloc _
  have hm0 := hm.kept (hc0.p (S := fun _ => False)) (fun _ h => h.elim) (fun h => h) (fun h => h) (fun _ _ h => h)
  have hcon := keyContains_any _ _ v ks k (i3s_of_own hm0.row) (fun g hg => (hm0.row.lt g hg).2)
  have hp40 := hp.inp.2
  have hfew := keys_few hp40 hL hm.nd hm.kin
  have lk : bk < w.heap.size := lt_of_cell hm.cell
  have lv : bv < w.heap.size := lt_of_cell hm.cv
  have hkc := hm.cell
  have hvc := hm.cv
  have hkm0 : (w.alloc (.cells #[.int .i64 k.1, .int .i64 k.2.1, .int .i64 k.2.2] 43)).cell? ⟨w.heap.size, 0, none⟩ = some (.int .i64 k.1) := cell_of_heap (heap_at _ _ _ rfl) rfl
  have hkm1 : (w.alloc (.cells #[.int .i64 k.1, .int .i64 k.2.1, .int .i64 k.2.2] 43)).cell? ⟨w.heap.size, 1, none⟩ = some (.int .i64 k.2.1) := cell_of_heap (heap_at _ _ _ rfl) rfl
  have hkm2 : (w.alloc (.cells #[.int .i64 k.1, .int .i64 k.2.1, .int .i64 k.2.2] 43)).cell? ⟨w.heap.size, 2, none⟩ = some (.int .i64 k.2.2) := cell_of_heap (heap_at _ _ _ rfl) rfl
  obtain ⟨va, vcap, rfl⟩ := ownsRow_shape hm.row
  have Hbo := Lib.hid (fun g (hg : (Value.slice va ks.length vcap).ownBlock = some g) => (hm.row.lt g hg).2)
  have Hm0 := Lib.hid hm0
  have Hcon := Lib.hid hcon
  have Hk := Lib.hid hk
  have Hc0 := Lib.hid hc0
  have Hbel := Lib.hid hbel
  have HF := Lib.hid (And.intro h1 (And.intro h2 (And.intro h3 h4)))
  have Hp := Lib.hid hp
  clear hm hm0 hcon hk hc0 hbel h1 h2 h3 h4 hp
  obtain ⟨k1, k2, k3⟩ := k
  simp only at hkm0 hkm1 hkm2
  unfold i3v
  go_enter Try.func67, Try.ntmps67
  go_wp2_with fail
  refine (Hcon.out).mono ?_
  rintro e w2 ⟨rfl, c2⟩
  have hm2 := Hm0.out.kept (c2.p (S := fun _ => False)) (fun _ h => h.elim) (fun h => h) (fun h => h) (fun _ _ h => h)
  have n0 := (c2.cell (p := ⟨w.heap.size, 0, none⟩) (by simp) (by simp)).trans hkm0
  have n1 := (c2.cell (p := ⟨w.heap.size, 1, none⟩) (by simp) (by simp)).trans hkm1
  have n2 := (c2.cell (p := ⟨w.heap.size, 2, none⟩) (by simp) (by simp)).trans hkm2
  have ln := lt_of_cell n0
  have nk := hm2.cell
  have nv := hm2.cv
  have lk2 := lt_of_cell nk
  have lv2 := lt_of_cell nv
  have Hm2 := Lib.hid hm2
  have Hc2 := Lib.hid (Hc0.out.trans c2)
  clear hm2 c2 hkm0 hkm1 hkm2 hkc hvc
  by_cases hin : (k1, k2, k3) ∈ ks
  · rw [decide_eq_true hin]
    have Hin := Lib.hid hin
    clear hin
    go_wp2_with fail
    have hadd : addK ks (k1, k2, k3) = ks := by unfold addK; rw [if_pos Hin.out]
    have hm2 : RdMem p ins RO be bm bv bk qv iv L (addK ks (k1, k2, k3)) (.slice va ks.length vcap) w2 := by rw [hadd]; exact Hm2.out
    have Hm2' := Lib.hid hm2
    clear hm2 hadd
    refine (Hbel.out (F2 F bk (.slice va ks.length vcap)) w2 (k1, k2, k3) Hk.out (rd_ev Hm2.out HF.out.2.1)).mono ?_
    intro e w5 he
    have hend := rd_end Hm2'.out HF.out.1 HF.out.2.1 HF.out.2.2.1 (fun k hk => Nat.lt_of_lt_of_le (HF.out.2.2.2 k hk) Hc2.out.size) (Hc2.out.p) he
    obtain ⟨rfl, _, _⟩ := he
    have Hend := Lib.hid hend
    clear hend
    go_wp2
    go_ret
    exact Hend.out
  · rw [decide_eq_false hin]
    have Hin := Lib.hid hin
    obtain ⟨i0, hi0, hz0, hz1, hz2⟩ := info_parts Try.infoKey
    have Hi0 := Lib.hid hi0
    have Hz0 := Lib.hid hz0
    have Hz1 := Lib.hid hz1
    have Hz2 := Lib.hid hz2
    have nf := Hm2.out.free
    clear hin hi0 hz0 hz1 hz2
    have hown2 := Hm2.out.row.alloc (.cells #[.int .i64 k1, .int .i64 k2, .int .i64 k3] 43)
    have Hown2 := Lib.hid hown2
    have Hob := Lib.hid Hm2.out.own
    have hrbv := Hm2.out.rbv
    have hkb : bk ≠ bv := fun e => Hm2.out.rbk (e ▸ hrbv)
    have hkw : bk ≠ w.heap.size := by omega
    clear hown2
    go_wp2_with (at_builtin; refine wpList_append_own_at _ rfl _ _ 89 rfl 0 43 i0 (.agg #[.int .i64 0, .int .i64 0, .int .i64 0]) 3 24 Try.underlying89 Hi0.out Hz0.out Hz1.out Hz2.out rfl (by decide) (.slice va ks.length vcap) ks.length (flat3 ks) rfl Hown2.out ⟨w2.heap.size, 0, none⟩ 1 1 [.int .i64 k1, .int .i64 k2, .int .i64 k3] rfl rfl (World.news_of_block (cs := #[.int .i64 k1, .int .i64 k2, .int .i64 k3]) (t := 43) (fr := (0, 0)) (heap_alloc_new w2 _)) (by simp [Value.oneCell']) (by unfold maxLen; omega) (by omega) (Nat.zero_le _) ?_; intro v8 w8 hown8 hgr8 hnil8 hat8; obtain ⟨a8, cap8, e8⟩ := ownsRow_shape hown8; subst e8; have hc8 := ((ChgP.refl (fun b => (Value.slice va ks.length vcap).ownBlock = some b) w2).alloc (.cells #[.int .i64 k1, .int .i64 k2, .int .i64 k3] 43)).grown hgr8 (fun k h => Or.inl h); have k8 := (hc8.cell (p := ⟨bk, 0, none⟩) lk2 (fun h => (Hob.out _ h).1 rfl)).trans nk; have f8 := (hc8.frozen (p := ⟨bk, 0, none⟩) lk2 (fun h => (Hob.out _ h).1 rfl)).trans nf; have v8c := (hc8.cell (p := ⟨bv, 0, none⟩) lv2 (fun h => (Hob.out _ h).2.2 hrbv)).trans nv; have n08 := (hc8.cell (p := ⟨w.heap.size, 0, none⟩) ln (fun h => absurd (Hbo.out _ h) (Nat.lt_irrefl _))).trans n0; have n18 := (hc8.cell (p := ⟨w.heap.size, 1, none⟩) ln (fun h => absurd (Hbo.out _ h) (Nat.lt_irrefl _))).trans n1; have n28 := (hc8.cell (p := ⟨w.heap.size, 2, none⟩) ln (fun h => absurd (Hbo.out _ h) (Nat.lt_irrefl _))).trans n2; have Hown8 := Lib.hid hown8; have Hc8 := Lib.hid hc8; have Hat8 := Lib.hid hat8; clear hown8 hgr8 hnil8 hat8 hc8)
    have hm9 := rd_push Hm2.out Hk.out Hin.out Hown8.out Hc8.out k8 f8 (by have := Hat8.out; simpa using this)
    have hno : ¬ F bk ∧ ¬ F bm ∧ (∀ g, (Value.slice a8 (ks.length + 1) cap8).ownBlock = some g → ¬ F g) := ⟨HF.out.1, HF.out.2.1, fun g hg => by
      rcases Hat8.out with e | e
      · rw [e] at hg; exact HF.out.2.2.1 g hg
      · rw [e] at hg
        cases hg
        intro h
        have := HF.out.2.2.2 _ h
        have := Hc2.out.size
        have e8 : (w2.alloc (.cells #[.int .i64 k1, .int .i64 k2, .int .i64 k3] 43)).heap.size = w2.heap.size + 1 := by simp
        omega⟩
    have hch9 : ChgP (fun b => ¬ F b ∧ ¬ RO b) w (w8.setCell ⟨bk, 0, none⟩ (.slice a8 (ks.length + 1) cap8)) := ((Hc2.out.p (S := fun b => ¬ F b ∧ ¬ RO b)).comp Hc8.out (fun b hb => Or.inl ⟨HF.out.2.2.1 b hb, (Hob.out b hb).2.2⟩)).setCell (Or.inl ⟨HF.out.1, Hm2.out.rbk⟩) _
    have Hm9 := Lib.hid hm9
    have Hno := Lib.hid hno
    have Hch9 := Lib.hid hch9
    clear hm9 hno hch9
    refine (Hbel.out (F2 F bk (.slice a8 (ks.length + 1) cap8)) _ (k1, k2, k3) Hk.out (rd_ev Hm9.out HF.out.2.1)).mono ?_
    intro e w5 he
    have hend := rd_end Hm9.out HF.out.1 HF.out.2.1 Hno.out.2.2 (fun k hk => Nat.lt_of_lt_of_le (HF.out.2.2.2 k hk) Hch9.out.size) Hch9.out he
    obtain ⟨rfl, _, _⟩ := he
    have Hend := Lib.hid hend
    clear hend
    go_wp2
    go_ret
    exact Hend.out
theorem reads_fam {p : Prg} {ins : List Int} (hp : PrgOk p) {RO : Nat → Prop} {be bm bv bk : Nat} {qv iv : Value} {L : Nat} (hL : L ≤ 40) (h : GetsBelow p ins RO be bm qv iv L) :
    GetFam 67 #[] #[.pointer (some ⟨bk, 0, none⟩), .pointer (some ⟨bv, 0, none⟩)] (RdI p ins RO be bm bv bk qv iv L) RO (GR ins (val p ins)) (fun _ => []) p.inp (L : Int) :=
  ⟨enter21, fun h hc => h.keep hc, fun h hF => h.anti hF, fun s k n hk hg => GR_small (val_small p ins) _ _ s k n hk hg, fun F s w k hk hI => readsGet_any p ins hp RO be bm bv bk qv iv L hL h F s w k hk hI⟩
end Go.Proofs.Ytggiddhhbilcjaa
/- Reads. -/
namespace Go.Proofs.Ytggiddhhbilcjaa
open Go.RowKit Go.ChangeMaps Go.MapKept
set_option linter.unusedVariables false
theorem EvMem.more {p : Prg} {ins : List Int} {RO RO' : Nat → Prop} {be bm : Nat} {qv iv : Value} {w : World} (h : EvMem p ins RO be bm qv iv w) (hR : ∀ k, RO k → RO' k) (hs : ∀ k, RO' k → k < w.heap.size) : EvMem p ins RO' be bm qv iv w :=
  ⟨h.c1, h.c2, h.c3, SlR.imp h.rqs hR (fun ad x _ h => by
    obtain ⟨u, h1, h2⟩ := h
    exact ⟨u, h1, I3s.imp h2 hR⟩), IntsP.imp h.rins hR, hR _ h.robe, hs, h.map⟩
def ReadsPost (p : Prg) (ins : List Int) (q : Int) (w : World) (e : Ending) (w' : World) : Prop :=
  ((EvOk p ins q ∧ ∃ v, e = .returned (.tuple #[v, .int .i64 0]) ∧ I3s (fun g => w.heap.size ≤ g ∧ g < w'.heap.size) w' v (reads p ins q.toNat)) ∨ (¬ EvOk p ins q ∧ ∃ c : Int, c ≠ 0 ∧ e = .returned (.tuple #[.slice none 0 0, .int .i64 c]))) ∧ Chg [] w w'
set_option maxRecDepth 100000 in
set_option maxHeartbeats 2000000 in
theorem reads_any (p0 : Nat → Prop) (w : World) (p : Prg) (ins : List Int) (q : Int) (qv iv : Value) (hq : I3ss p0 w qv p.qs) (hi : IntsP p0 w iv ins) (hp0 : ∀ k, p0 k → k < w.heap.size) :
    Calls Try.prog 43 #[.agg #[.int .i64 p.inp, qv], iv, .int .i64 q] w (ReadsPost p ins q w) := by
  have hc0 : Chg [] w (w.alloc (.cells #[.int .i64 p.inp, qv] 24)) := (Chg.refl [] w).alloc _
  have Hc0 := Lib.hid hc0
  have Hq := Lib.hid hq
  have Hi := Lib.hid hi
  have Hp0 := Lib.hid hp0
  obtain ⟨av, capv, rfl, hlm, hlc⟩ := hq.shape
  clear hc0 hq hi hp0
  unfold maxLen at hlm
  go_enter Try.func43, Try.ntmps43
  go_wp2_with fail
  refine (newEv_any p0 _ p ins q _ iv (Hq.out.kept (Hc0.out.p (S := fun _ => False)) (fun _ _ h => h)) (Hi.out.kept (Hc0.out.p (S := fun _ => False)) (fun _ _ h => h)) (fun k hk => by have := Hp0.out k hk; simp; omega)).mono ?_
  rintro e w1 ⟨h | h, c1⟩
  · obtain ⟨hok, be, bm, rfl, hbe, hbm, hne, hm⟩ := h
    have hbe' : w.heap.size < be := by simp at hbe; omega
    have hbm' : w.heap.size < bm := by simp at hbm; omega
    have m0 : w1.cell? ⟨w.heap.size, 0, none⟩ = some (.int .i64 p.inp) := (c1.cell (p := ⟨w.heap.size, 0, none⟩) (by simp) (by simp)).trans (cell_of_heap (heap_at _ _ _ rfl) rfl)
    have m1 : w1.cell? ⟨w.heap.size, 1, none⟩ = some (.slice av p.qs.length capv) := (c1.cell (p := ⟨w.heap.size, 1, none⟩) (by simp) (by simp)).trans (cell_of_heap (heap_at _ _ _ rfl) rfl)
    have lm := lt_of_cell m0
    obtain ⟨qn, rfl⟩ := Int.eq_ofNat_of_zero_le hok.2.2.1
    have hqn : qn < p.qs.length := by have := hok.2.2.2; omega
    obtain ⟨es, hmap, _⟩ := hm.map
    have hbm1 := hmap.lt
    have hbe1 : be < w1.heap.size := lt_of_cell hm.c1
    have hc2 : Chg [] w1 ((w1.alloc (.cells #[.pointer (some ⟨be, 0, none⟩)] 99)).alloc (.cells #[.slice none 0 0] 89)) := ((Chg.refl [] w1).alloc _).alloc _
    have hall := (Hc0.out.trans c1).trans hc2
    obtain ⟨g, off, rfl, hg, u, q0, hu⟩ := SlR.at (Hq.out.kept ((Hc0.out.trans c1).p (S := fun _ => False)) (fun _ _ h => h)) qn hqn []
    rw [Nat.mul_one] at q0
    obtain ⟨au, capu, rfl, hum, huc⟩ := hu.shape
    have lg := lt_of_cell q0
    have hev := ((EvI.keep (F := fun _ => False) (s := ()) ⟨hm, fun h => h, fun h => by
      rcases h with h | h
      · have := Hp0.out _ h; omega
      · exact hne h.symm⟩ (hc2.p)).1).more (RO' := fun k => p0 k ∨ k = be ∨ k = w1.heap.size) (fun k hk => hk.elim Or.inl (fun h => Or.inr (Or.inl h))) (fun k hk => by
        rcases hk with h | h | h
        · have := Hp0.out _ h; simp; omega
        · simp; omega
        · simp; omega)
    have hops : I3s p0 ((w1.alloc (.cells #[.pointer (some ⟨be, 0, none⟩)] 99)).alloc (.cells #[.slice none 0 0] 89)) (.slice au (p.qs.getD qn []).length capu) (p.qs.getD qn []) := I3s.kept hu (hc2.p (S := fun _ => False)) (fun _ _ h => h)
    have hrd : RdI p ins (fun k => p0 k ∨ k = be ∨ k = w1.heap.size) be bm w1.heap.size (w1.heap.size + 1) (.slice (some ⟨g, off, none⟩) p.qs.length capv) iv qn (fun k => k < w.heap.size) [] ((w1.alloc (.cells #[.pointer (some ⟨be, 0, none⟩)] 99)).alloc (.cells #[.slice none 0 0] 89)) := by
      refine ⟨.slice none 0 0, ⟨hev, Or.inr (Or.inr rfl), cell_of_heap ((heap_past _ _ _ (by simp)).trans (heap_at _ _ _ rfl)) rfl, cell_of_heap (heap_at _ _ _ (by simp)) rfl, frozen_of_heap (heap_at _ _ _ (by simp)), World.ownsRow_nil _ _ _ _, by omega, fun g hg => by simp [Value.ownBlock] at hg, ?_, ?_, List.nodup_nil, by simp⟩, by omega, by omega, fun g hg => by simp [Value.ownBlock] at hg, fun k hk => by simp; omega⟩
      · rintro (h | h | h)
        · have := Hp0.out _ h; omega
        · omega
        · omega
      · rintro (h | h | h)
        · have := Hp0.out _ h; omega
        · exact hne h.symm
        · omega
    have hfam := reads_fam (bv := w1.heap.size) (bk := w1.heap.size + 1) hok.1 (L := qn) (by have := hok.1.size; omega) (get_below p ins hok.1 (fun k => p0 k ∨ k = be ∨ k = w1.heap.size) be bm (.slice (some ⟨g, off, none⟩) p.qs.length capv) iv hok.2.1 qn (by omega))
    have hrun := run_any 67 #[] #[.pointer (some ⟨w1.heap.size + 1, 0, none⟩), .pointer (some ⟨w1.heap.size, 0, none⟩)] _ _ _ (fun _ => []) p.inp (qn : Int) hfam (p.qs.getD qn []) (hok.1.qs qn hqn) p0 (fun k => k < w.heap.size) [] _ _ hrd hops (fun g h => Or.inr (Or.inl h)) (fun k hk => by
        rcases hk with h | h | h
        · have := Hp0.out _ h; simp; omega
        · simp; omega
        · simp; omega)
    have hval := runR_GR hok.1 ins qn hqn
    have Hrun := Lib.hid hrun
    have Hval := Lib.hid hval
    have Hok := Lib.hid hok
    have Hall := Lib.hid hall
    have hqn1 : (qn : Int) < p.qs.length := by omega
    clear hm hne hc2 hall hu hev hops hrd hfam hrun hval hok hmap c1
    generalize p.qs.getD qn [] = ops at q0 Hrun Hval hum huc
    go_wp2_with fail
    refine (Hrun.out).mono ?_
    rintro e w6 hpost
    obtain ⟨rfl, ⟨v, hm6, _, _, ho6, _⟩, hc6⟩ := hpost.val Hval.out
    have k6 := hm6.cell
    have l6 := lt_of_cell k6
    have Hr6 := Lib.hid ((i3s_of_own hm6.row).imp (q := fun g => w.heap.size ≤ g ∧ g < w6.heap.size) (fun g hg => ⟨Nat.le_of_not_lt (ho6 g hg), (hm6.row.lt g hg).2⟩))
    have Hc6 := Lib.hid hc6
    clear hpost hm6 hc6 ho6
    go_wp2
    go_ret2
    refine ⟨Or.inl ⟨Hok.out, v, rfl, Hr6.out.imp fun g hg => hg⟩, ?_⟩
    exact ((((Hall.out.p (S := fun _ => False)).comp Hc6.out (fun k hk => by
      by_cases h : k < w.heap.size
      · exact absurd h hk.1
      · exact Or.inr (by omega)))).mono (T := fun k => k ∈ []) (fun _ h => h.elim)).toL
  · obtain ⟨hno, c, hc, rfl⟩ := h
    have hcb : (c != 0) = true := by rw [bne_iff_ne]; exact hc
    have Hno := Lib.hid hno
    have Hc := Lib.hid hc
    clear hno hc
    go_wp2
    go_ret2
    exact ⟨Or.inr ⟨Hno.out, c, Hc.out, rfl⟩, (Hc0.out.trans c1).alloc _⟩
theorem reads_yes (p0 : Nat → Prop) (w : World) (p : Prg) (ins : List Int) (q : Int) (qv iv : Value) (hq : I3ss p0 w qv p.qs) (hi : IntsP p0 w iv ins) (hp0 : ∀ k, p0 k → k < w.heap.size) (hok : EvOk p ins q) :
    Calls Try.prog 43 #[.agg #[.int .i64 p.inp, qv], iv, .int .i64 q] w fun e w' => ∃ v, e = .returned (.tuple #[v, .int .i64 0]) ∧ I3s (fun g => w.heap.size ≤ g ∧ g < w'.heap.size) w' v (reads p ins q.toNat) ∧ Chg [] w w' :=
  (reads_any p0 w p ins q qv iv hq hi hp0).mono fun e w' ⟨h, hc⟩ => h.elim (fun ⟨_, v, he, hv⟩ => ⟨v, he, hv, hc⟩) (fun h => absurd hok h.1)
end Go.Proofs.Ytggiddhhbilcjaa
