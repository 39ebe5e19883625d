/- compute: lemmas on what it changes. -/
import Derived.Test.YtggiddhhbilcjaaSnG
namespace Go.Proofs.Ytggiddhhbilcjaa.Sn
open Go.RowKit Go.ChangeMaps Go.MapKept
set_option linter.unusedVariables false
set_option linter.unusedSimpArgs false
section
variable {be : Nat} {rev : Int} {A : List QK} {w w' w1 w2 w3 w8 : World} {d d' d1 d2 : Hm} {av av' av1 av2 v8 : Value} {k : QK}
/-- a key has become active -/
theorem EvAt.push {n : Nat} (h : EvAt be rev A w d av) (hn : n = A.length) (hown : w8.ownsRow 0 43 3 v8 (n + 1) (flat3 A ++ [.int .i64 k.1, .int .i64 k.2.1, .int .i64 k.2.2])) (hc : ChgP (fun g => av.ownBlock = some g) w w8) (hat : ∀ g, v8.ownBlock = some g → av.ownBlock = some g ∨ w.heap.size ≤ g) :
    EvAt be rev (A ++ [k]) (w8.setCell ⟨be, 2, none⟩ v8) d v8 ∧ ChgP (fun g => av.ownBlock = some g ∨ g = be) w (w8.setCell ⟨be, 2, none⟩ v8) ∧ NextE be rev (A ++ [k]) w (w8.setCell ⟨be, 2, none⟩ v8) d av d v8 := by
  subst hn
  have hbe : ∀ g, av.ownBlock = some g → g ≠ be := fun g hg e => by
    have := tyAt_own h.row hg
    rw [e, tyAt_cells h.ev] at this
    cases this
  have hs : ChgP (fun g => g = be) w8 (w8.setCell ⟨be, 2, none⟩ v8) := (ChgP.refl (fun g => g = be) w8).setCell (p := ⟨be, 2, none⟩) (Or.inl rfl) v8
  have hev := (hc.block _ (lt_of_obj h.ev) (fun e => hbe _ e rfl)).trans h.ev
  have hall : ChgP (fun g => av.ownBlock = some g ∨ g = be) w (w8.setCell ⟨be, 2, none⟩ v8) := (hc.mono fun _ h => Or.inl h).comp hs fun g hg => Or.inl (Or.inr hg)
  have hno : ∀ g, d.M g ∨ d.I g → ¬ (av.ownBlock = some g ∨ g = be) := by
    rintro g (hm | hi) (e | e)
    · have h1 := tyAt_own h.row e
      exact ne_tyM (by decide) h.mem h1 hm
    · have h1 := tyAt_cells h.ev
      rw [e] at hm
      exact ne_tyM (by decide) h.mem h1 hm
    · exact h.off g e hi
    · rw [e] at hi
      exact h.apart hi (Or.inr (Or.inl rfl))
  have hat' : EvAt be rev (A ++ [k]) (w8.setCell ⟨be, 2, none⟩ v8) d v8 := by
    refine ⟨h.mem.kept hall (fun g hg => hno g (Or.inl hg)) (fun g hg => hno g (Or.inr hg)), (heap_setCell_same hev _).trans rfl, ?_, fun g hg hi => ?_⟩
    · rw [List.length_append, flat3_append]
      refine ownsRow_kept hown fun g hg hl => hs.block g hl fun e => ?_
      have h1 := tyAt_own hown hg
      rw [e, tyAt_cells hev] at h1
      cases h1
    · rcases hat g hg with e | e
      · exact h.off g e hi
      · have := h.mem.ltI hi; omega
  refine ⟨hat', hall, hat', hall.mono ?_, fun g hg => ?_, fun g hg => Or.inl hg, rfl, rfl, rfl⟩
  · rintro g (e | e)
    · exact Or.inr (Or.inr e)
    · exact Or.inr (Or.inl e)
  · rcases hg with hg | hg | hg
    · exact Or.inl (Or.inl hg)
    · exact Or.inl (Or.inr (Or.inl hg))
    · exact (hat g hg).imp (fun e => Or.inr (Or.inr e)) id
theorem ownsRow_pop3 {w : World} {base : Nat} {e : TypeId} {a : Option Addr} {n cap : Nat} {ks : List QK} {x : QK} (h : w.ownsRow base e 3 (.slice a (n + 1) cap) (n + 1) (flat3 (ks ++ [x]))) (hn : n = ks.length) :
    w.ownsRow base e 3 (.slice a n cap) n (flat3 ks) ∧ ∃ g, a = some ⟨g, 0, none⟩ ∧ n + 1 ≤ cap ∧ cap ≤ maxLen := by
  rcases h.2 with ⟨_, h0⟩ | ⟨g, cap', cur, hv, h1, h2, h3, h4, h5, h6⟩
  · omega
  · simp only [Value.slice.injEq, true_and] at hv
    obtain ⟨rfl, rfl⟩ := hv
    refine ⟨⟨by rw [flat3_len, hn], .inr ⟨g, cap, cur, rfl, h1, h2, by omega, h4, h5, ?_⟩⟩, g, rfl, h3, h4⟩
    have := congrArg (List.take (n * 3)) h6
    rw [List.take_take, Nat.min_eq_left (by omega), flat3_append, List.take_append_of_le_length (by rw [flat3_len]; omega), List.take_of_length_le (l := flat3 ks) (by rw [flat3_len]; omega)] at this
    exact this
/-- it is active no more -/
theorem EvAt.pop {a : Option Addr} {n cap : Nat} (h : EvAt be rev (A ++ [k]) w d (.slice a (n + 1) cap)) (hn : n = A.length) :
    EvAt be rev A (w.setCell ⟨be, 2, none⟩ (.slice a n cap)) d (.slice a n cap) ∧ ChgP (fun g => g = be) w (w.setCell ⟨be, 2, none⟩ (.slice a n cap)) ∧ ∀ g, (Value.slice a n cap).ownBlock = some g ↔ (Value.slice a (n + 1) cap).ownBlock = some g := by
  subst hn
  have hs : ChgP (fun g => g = be) w (w.setCell ⟨be, 2, none⟩ (.slice a A.length cap)) := (ChgP.refl (fun g => g = be) w).setCell (p := ⟨be, 2, none⟩) (Or.inl rfl) _
  have hrow := h.row
  rw [List.length_append] at hrow
  obtain ⟨hp, g, rfl, _, _⟩ := ownsRow_pop3 hrow rfl
  have ho : ∀ x, (Value.slice (some (⟨g, 0, none⟩ : Addr)) A.length cap).ownBlock = some x ↔ (Value.slice (some (⟨g, 0, none⟩ : Addr)) (A.length + 1) cap).ownBlock = some x := fun x => Iff.rfl
  have hno : ∀ g, d.M g ∨ d.I g → ¬ g = be := by
    rintro g (hm | hi) e
    · rw [e] at hm
      exact ne_tyM (by decide) h.mem (tyAt_cells h.ev) hm
    · rw [e] at hi
      exact h.apart hi (Or.inr (Or.inl rfl))
  refine ⟨⟨h.mem.kept hs (fun g hg => hno g (Or.inl hg)) (fun g hg => hno g (Or.inr hg)), (heap_setCell_same h.ev _).trans rfl, ownsRow_kept hp fun x hx hl => hs.block x hl fun e => ?_, fun x hx => h.off x hx⟩, hs, ho⟩
  have h1 := tyAt_own hp hx
  rw [e, tyAt_cells h.ev] at h1
  cases h1
/-- a result is noted -/
theorem HmAt.putRes {r : Rs} {v' : Value} {o : Obj} (h : HmAt w d) (hr : RsAt w r) (hnb : ¬ d.M r.blk) (hv : w3.ownsRow 0 94 1 v' ((gL d.RL k).length + 1) (encR (gL d.RL k) ++ [r.val])) (hc : ChgP (fun g => (gV d.RL k).ownBlock = some g ∨ g = d.br) w w3)
    (hn : ∀ g, v'.ownBlock = some g → (gV d.RL k).ownBlock = some g ∨ w.heap.size ≤ g) (hm : MapAt Try.prog 43 Inp.qk (setBlock w3 d.br o) d.br (ups (gE d.RL) k v')) :
    HmAt (setBlock w3 d.br o) { d with RL := ups d.RL k (v', gL d.RL k ++ [r]) } ∧ ChgP (fun g => (gV d.RL k).ownBlock = some g ∨ g = d.br) w (setBlock w3 d.br o) := by
  have hs : ChgP (fun g => g = d.br) w3 (setBlock w3 d.br o) := (ChgP.refl (fun g => g = d.br) w3).setBlock (Or.inl rfl) o
  have hall : ChgP (fun g => (gV d.RL k).ownBlock = some g ∨ g = d.br) w (setBlock w3 d.br o) := hc.comp hs fun g hg => Or.inl (Or.inr hg)
  have hty : ∀ g t, t ≠ none → t ≠ some 94 → tyAt w g = some t → ¬ ((gV d.RL k).ownBlock = some g ∨ g = d.br) := by
    rintro g t h1 h2 ht (e | e)
    · rw [tyAt_own (h.R.row k) e] at ht; cases ht; exact h2 rfl
    · rw [e, tyAt_map h.R.mp] at ht; cases ht; exact h1 rfl
  have hI : ∀ g, (tyAt w g = some (some 3) ∨ tyAt w g = some (some 43)) → (setBlock w3 d.br o).heap[g]? = w.heap[g]? := by
    rintro g (e | e)
    · exact hall.block g (tyAt_lt e) (hty g _ (by simp) (by decide) e)
    · exact hall.block g (tyAt_lt e) (hty g _ (by simp) (by decide) e)
  have hkeep : ∀ r', RsAt w r' → RsAt (setBlock w3 d.br o) r' := fun r' hr' => hr'.kept (hall.block _ (lt_of_obj hr'.blk) (hty _ _ (by simp) (by decide) (tyAt_cells hr'.blk))) (fun g hg => hI g (Or.inl (tyAt_ints hr'.nums hg))) (fun g hg => hI g (Or.inr (tyAt_own hr'.ins hg)))
  have hbv : ∀ g, g = d.bv → ¬ ((gV d.RL k).ownBlock = some g ∨ g = d.br) := by
    rintro g rfl (e | e)
    · have h1 := tyAt_own (h.R.row k) e
      rw [tyAt_map h.V.mp] at h1
      cases h1
    · exact h.ne e
  refine ⟨⟨(hall.block _ (lt_of_obj h.box) (hty _ _ (by simp) (by decide) (tyAt_cells h.box))).trans h.box, h.V.kept hall (hbv _ rfl) fun x g hg => hty g _ (by simp) (by decide) (tyAt_own (h.V.row x) hg), ?_, fun x e he => ⟨intsKept' (h.vn x e he).1 fun g hg => hI g (Or.inl (tyAt_ints (h.vn x e he).1 hg)), (h.vn x e he).2⟩, fun x r' hr' => ?_, ?_, h.ne⟩, hall⟩
  · refine h.R.push k (by rw [List.length_append]; unfold encR at hv ⊢; rw [List.map_append]; exact hv) hc hn hm fun g hg e => ?_
    have h1 := tyAt_own hv hg
    have hlt : d.br < w3.heap.size := Nat.lt_of_lt_of_le h.R.mp.lt hc.size
    obtain ⟨cur, h2⟩ := own_at hv hg
    rw [e] at h2
    rcases hn g hg with e1 | e1
    · have h3 := tyAt_own (h.R.row k) e1
      rw [e, tyAt_map h.R.mp] at h3
      cases h3
    · have := h.R.mp.lt; omega
  · simp only [gL_ups] at hr'
    split at hr'
    · rcases List.mem_append.1 hr' with hr' | hr'
      · exact hkeep r' (h.each k r' hr')
      · rw [List.mem_singleton] at hr'
        subst hr'
        exact hkeep _ hr
    · exact hkeep r' (h.each x r' hr')
  · have hnew : ∀ x (i : Nat) r', (gL d.RL x)[i]? = some r' → r'.blk ≠ r.blk := fun x i r' hr' e => hnb (Or.inr (Or.inr (Or.inr (Or.inr (Or.inr ⟨x, r', List.mem_of_getElem? hr', e.symm⟩)))))
    have hcase : ∀ x (i : Nat) r', (gL (ups d.RL k (v', gL d.RL k ++ [r])) x)[i]? = some r' → (gL d.RL x)[i]? = some r' ∨ (x = k ∧ i = (gL d.RL k).length ∧ r' = r) := fun x i r' hr' => by
      rw [gL_ups] at hr'
      split at hr'
      · rename_i e
        subst e
        rw [List.getElem?_append] at hr'
        split at hr'
        · exact Or.inl hr'
        · rename_i hge
          rw [List.getElem?_singleton] at hr'
          split at hr'
          · rename_i h0
            simp only [Option.some.injEq] at hr'
            exact Or.inr ⟨rfl, by omega, hr'.symm⟩
          · cases hr'
      · exact Or.inl hr'
    intro x y i j r1 r2 h1 h2 he
    rcases hcase x i r1 h1 with h1 | ⟨a1, a2, a3⟩
    · rcases hcase y j r2 h2 with h2 | ⟨b1, b2, b3⟩
      · exact h.inj x y i j r1 r2 h1 h2 he
      · exact absurd (he.trans (by rw [b3])) (hnew _ _ _ h1)
    · rcases hcase y j r2 h2 with h2 | ⟨b1, b2, b3⟩
      · exact absurd (he.symm.trans (by rw [a3])) (hnew _ _ _ h2)
      · exact ⟨a1.trans b1.symm, a2.trans b2.symm⟩
/-- compute's end -/
theorem comp_end {r : Rs} {ia : Option Addr} {n cap : Nat} (hn8 : NextE be rev (A ++ [k]) w w8 d av d2 (.slice ia (n + 1) cap)) (hA : n = A.length) (hr : RsAt w8 r) (hrb : ¬ EM d2 be (.slice ia (n + 1) cap) r.blk)
    (hri : ∀ g, r.iv.ownBlock = some g → ¬ EM d2 be (.slice ia (n + 1) cap) g ∧ w.heap.size ≤ g) (hra : ∀ g ∈ oblk r.a, w.heap.size ≤ g) (hrs : w.heap.size ≤ r.blk) {w10 : World} (hw10 : w10 = (w8.setCell ⟨be, 2, none⟩ (.slice ia n cap)).setCell ⟨d2.b, 7, none⟩ (.int .i64 (wrap64 (d2.cnt + 1)))) :
    EvAt be rev A w10 { d2 with cnt := wrap64 (d2.cnt + 1) } (.slice ia n cap) ∧ RsAt w10 r ∧ ChgP (EM d2 be (.slice ia (n + 1) cap)) w8 w10 ∧
    ∀ (w3 : World) (v' : Value) (o : Obj), w3.ownsRow 0 94 1 v' ((gL d2.RL k).length + 1) (encR (gL d2.RL k) ++ [r.val]) → ChgP (fun g => (gV d2.RL k).ownBlock = some g ∨ g = d2.br) w10 w3 → (∀ g, v'.ownBlock = some g → (gV d2.RL k).ownBlock = some g ∨ w10.heap.size ≤ g) →
      MapAt Try.prog 43 Inp.qk (setBlock w3 d2.br o) d2.br (ups (gE d2.RL) k v') →
      ∃ d4, NextE be rev A w (setBlock w3 d2.br o) d av d4 (.slice ia n cap) ∧ r ∈ gL d4.RL k ∧ d4.pl = putR d2.pl k r.pl := by
  obtain ⟨hp9, hc9, ho9⟩ := hn8.at_.pop hA
  obtain ⟨w9, hw9⟩ : ∃ x, x = w8.setCell ⟨be, 2, none⟩ (.slice ia n cap) := ⟨_, rfl⟩
  rw [← hw9] at hp9 hc9 hw10
  have hc10 : ChgP (fun g => g = d2.b) w9 w10 := by rw [hw10]; exact (ChgP.refl (fun g => g = d2.b) w9).setCell (p := ⟨d2.b, 7, none⟩) (Or.inl rfl) _
  have hm10 : HmAt w10 { d2 with cnt := wrap64 (d2.cnt + 1) } := by
    rw [hw10]
    exact hp9.mem.heads (d' := { d2 with cnt := wrap64 (d2.cnt + 1) }) (i := 7) (v := .int .i64 (wrap64 (d2.cnt + 1))) rfl rfl rfl rfl rfl (by simp [Hm.head])
  have hneb : ∀ g, (g = be ∨ (Value.slice ia n cap).ownBlock = some g) → ¬ g = d2.b := by
    rintro g (hg | hg) e
    · have h1 := tyAt_cells hp9.ev
      rw [← hg, e, tyAt_cells hp9.mem.box] at h1
      cases h1
    · have h1 := tyAt_own hp9.row hg
      rw [e, tyAt_cells hp9.mem.box] at h1
      cases h1
  have hE10 : EvAt be rev A w10 { d2 with cnt := wrap64 (d2.cnt + 1) } (.slice ia n cap) :=
    ⟨hm10, (hc10.block _ (lt_of_obj hp9.ev) (hneb _ (Or.inl rfl))).trans hp9.ev, ownsRow_kept hp9.row fun g hg hl => hc10.block g hl (hneb g (Or.inr hg)), hp9.off⟩
  have hall10 : ChgP (fun g => g = be ∨ g = d2.b) w8 w10 := (hc9.mono fun _ h => Or.inl h).comp (hc10.mono (T := fun g => g = be ∨ g = d2.b) fun _ h => Or.inr h) fun g hg => Or.inl hg
  have hEM : ∀ g, (g = be ∨ g = d2.b) → EM d2 be (.slice ia (n + 1) cap) g := by
    rintro g (e | e)
    · exact Or.inr (Or.inl e)
    · exact Or.inl (Or.inl e)
  have hr10 : RsAt w10 r := hr.kept (hall10.block _ (lt_of_obj hr.blk) fun e => hrb (hEM _ e)) (fun g hg => hall10.block g (tyAt_lt (tyAt_ints hr.nums hg)) fun e => by
      have h1 := tyAt_ints hr.nums hg
      rcases e with e | e
      · rw [e, tyAt_cells hn8.at_.ev] at h1; cases h1
      · rw [e, tyAt_cells hn8.at_.mem.box] at h1; cases h1) (fun g hg => hall10.block g (hr.ins.lt g hg).2 fun e => (hri g hg).1 (hEM _ e))
  refine ⟨hE10, hr10, hall10.mono hEM, fun w3 v' o hv hc hn hmap => ?_⟩
  have hput := hm10.putRes (k := k) hr10 (fun hm => hrb (Or.inl hm)) hv hc hn hmap
  simp only at hput
  obtain ⟨hH4, hc4⟩ := hput
  have hsz8 := hn8.chg.size
  have hsz10 := hall10.size
  have hty4 : ∀ g, (g = be ∨ (Value.slice ia n cap).ownBlock = some g) → ¬ ((gV d2.RL k).ownBlock = some g ∨ g = d2.br) := by
    rintro g hg (e | e)
    · have h2 := tyAt_own (hm10.R.row k) e
      rcases hg with rfl | hg
      · rw [tyAt_cells hE10.ev] at h2; cases h2
      · rw [tyAt_own hE10.row hg] at h2; cases h2
    · have h2 := tyAt_map hm10.R.mp
      simp only at h2
      rw [← e] at h2
      rcases hg with rfl | hg
      · rw [tyAt_cells hE10.ev] at h2; cases h2
      · rw [tyAt_own hE10.row hg] at h2; cases h2
  refine ⟨_, ⟨⟨hH4, (hc4.block _ (lt_of_obj hE10.ev) (hty4 _ (Or.inl rfl))).trans hE10.ev, ownsRow_kept hE10.row fun g hg hl => hc4.block g hl (hty4 g (Or.inr hg)), fun g hg hi => ?_⟩, ?_, fun g hg => ?_, fun g hi => ?_, hn8.b, hn8.comp, hn8.mu⟩, by simp [gL_ups], ?_⟩
  · have hold := hE10.off g hg
    rcases hi with hi | ⟨x, r', hr', hi⟩
    · exact hold (Or.inl hi)
    · simp only [gL_ups] at hr'
      split at hr'
      · rcases List.mem_append.1 hr' with hr' | hr'
        · exact hold (Or.inr ⟨k, r', hr', hi⟩)
        · rw [List.mem_singleton] at hr'
          subst hr'
          rcases hi with hi | hi
          · have h1 := tyAt_ints hr10.nums hi
            rw [tyAt_own hE10.row hg] at h1
            cases h1
          · exact (hri g hi).1 (Or.inr (Or.inr ((ho9 g).1 hg)))
      · exact hold (Or.inr ⟨x, r', hr', hi⟩)
  · refine (hn8.chg.comp (hall10.mono hEM) fun g hg => hn8.muts g hg).comp hc4 fun g hg => ?_
    rcases hg with hg | hg
    · exact hn8.muts g (Or.inl (Or.inr (Or.inr (Or.inr (Or.inr (Or.inl ⟨k, hg⟩))))))
    · exact hn8.muts g (Or.inl (Or.inr (Or.inr (Or.inl hg))))
  · have hle : ∀ g, w10.heap.size ≤ g → w.heap.size ≤ g := fun g h => by omega
    rcases hg with (hg | hg | hg | hg | ⟨x, hg⟩ | ⟨x, r', hr', hg⟩) | hg | hg
    · exact hn8.muts g (Or.inl (Or.inl hg))
    · exact hn8.muts g (Or.inl (Or.inr (Or.inl hg)))
    · exact hn8.muts g (Or.inl (Or.inr (Or.inr (Or.inl hg))))
    · exact hn8.muts g (Or.inl (Or.inr (Or.inr (Or.inr (Or.inl hg)))))
    · simp only [gV_ups] at hg
      split at hg
      · exact (hn g hg).elim (fun e => hn8.muts g (Or.inl (Or.inr (Or.inr (Or.inr (Or.inr (Or.inl ⟨k, e⟩))))))) fun e => Or.inr (hle g e)
      · exact hn8.muts g (Or.inl (Or.inr (Or.inr (Or.inr (Or.inr (Or.inl ⟨x, hg⟩))))))
    · simp only [gL_ups] at hr'
      split at hr'
      · rcases List.mem_append.1 hr' with hr' | hr'
        · exact hn8.muts g (Or.inl (Or.inr (Or.inr (Or.inr (Or.inr (Or.inr ⟨k, r', hr', hg⟩))))))
        · rw [List.mem_singleton] at hr'
          subst hr'
          exact Or.inr (by rw [hg]; exact hrs)
      · exact hn8.muts g (Or.inl (Or.inr (Or.inr (Or.inr (Or.inr (Or.inr ⟨x, r', hr', hg⟩))))))
    · exact hn8.muts g (Or.inr (Or.inl hg))
    · exact hn8.muts g (Or.inr (Or.inr ((ho9 g).1 hg)))
  · rcases hi with hi | ⟨x, r', hr', hi⟩
    · exact hn8.imm g (Or.inl hi)
    · simp only [gL_ups] at hr'
      split at hr'
      · rcases List.mem_append.1 hr' with hr' | hr'
        · exact hn8.imm g (Or.inr ⟨k, r', hr', hi⟩)
        · rw [List.mem_singleton] at hr'
          subst hr'
          rcases hi with hi | hi
          · exact Or.inr (hra g hi)
          · exact Or.inr (hri g hi).2
      · exact hn8.imm g (Or.inr ⟨x, r', hr', hi⟩)
  · unfold Hm.pl putR
    simp only [HS.mk.injEq, true_and, and_true]
    funext x
    rw [gL_ups]
    unfold upd
    by_cases e : k = x
    · subst e
      simp
    · rw [if_neg e, if_neg (Ne.symm e)]
end
end Go.Proofs.Ytggiddhhbilcjaa.Sn
