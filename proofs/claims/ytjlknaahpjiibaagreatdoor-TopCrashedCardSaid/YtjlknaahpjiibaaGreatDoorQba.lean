/- Part of the proof of topCrashedLaw_holds. -/
import Derived.OrdersHeld
import Derived.StillTail
import Derived.KernelRfl
namespace Go.Proofs.YtjlknaahpjiibaaGreatDoor
open Go
section
variable {P : Program} {ops : Array Oper} {Q : Exit → Act → World → Prop} {md : Region.Mode} {S : World → Prop} {t : Nat}
theorem unlisted {listed : Array Bool} {i : Nat} (h : listed.getD i true = false) : listed.getD i false ≠ true := by rw [getD_both h]; simp
end
section
variable {P : Program} {ops : Array Oper} {Q : Exit → Act → World → Prop} {md : Region.Mode} {S S0 : World → Prop} {t : Nat}
def anyU (P : Program) (md : Region.Mode) (ops : Array Oper) (Q : Exit → Act → World → Prop) (S S0 : World → Prop) (t : Nat) : Nat → Array Bool → Act → World → Prop
 | 0, listed, a, w => Region.ready md ops listed = [] ∧ Q .normal a w
 | f + 1, listed, a, w => (Region.ready md ops listed = [] → Q .normal a w) ∧ ∀ i ∈ Region.ready md ops listed, wpOp P ops Q i (fun a' w' => ((listed.setIfInBounds i true).getD t true = false → S w') ∧ S0 w' ∧ anyU P md ops Q S S0 t f (listed.setIfInBounds i true) a' w') a w
theorem wpAny_of_anyU : ∀ (f : Nat) (listed : Array Bool) (a : Act) (w : World), anyU P md ops Q S S0 t f listed a w → wpAny P md ops Q f listed a w
 | 0, _, _, _, h => h
 | f + 1, _, _, _, h => ⟨h.1, fun i hi => wpOp_mono (fun a' w' h' => wpAny_of_anyU f _ a' w' h'.2.2) (h.2 i hi)⟩
theorem anyU_first {S' : World → Prop} {i : Nat} {oi : Oper} {v : Value} (hi : ops[i]? = some oi) (hsel : ∀ (j : Nat) (o : Oper) cs b, ops[j]? = some o → o.op ≠ .select cs b) (hQ : ∀ c a w, Q (.panic c) (a.put oi.dst v) w → Q (.panic c) a w)
 (hS : ∀ w, S w → S' w) (hit : i ≠ t) (hT : (∀ w, S0 w → S' w) ∨ Region.waitsFor md ops t i = true) : ∀ (f : Nat) (listed : Array Bool) (a : Act) (w : World),
  (∀ j oj, ops[j]? = some oj → j ≠ i → listed.getD j true = false → (∀ e ∈ oj.after, Region.binds md e = true → e.on ≠ i) → oi.apart ops oj = true) →
  i ∈ Region.ready md ops listed → YieldsIf P ops S' oi v a → S' w → (listed.getD t true = false → S w) → S0 w → ((∀ w, S0 w → S' w) ∨ listed.getD t true = false) →
  anyU P md ops Q S S0 t f (listed.setIfInBounds i true) (a.put oi.dst v) w → anyU P md ops Q S S0 t (f + 1) listed a w := by
 intro f
 induction f with
 | zero =>
   intro listed a w _ hr hy hs hst hs0 _ H
   refine ⟨fun h => by rw [h] at hr; exact absurd hr (by simp), fun j hj => ?_⟩
   by_cases e : j = i
   · subst e; exact hy.wpOp hi hs ⟨fun h => hst (by rwa [getD_set_ne true hit] at h), hs0, H⟩
   · have h1 := ready_mono hj e
     rw [H.1] at h1
     exact absurd h1 (by simp)
 | succ f ih =>
   intro listed a w hfree hr hy hs hst hs0 htl H
   refine ⟨fun h => by rw [h] at hr; exact absurd hr (by simp), fun j hj => ?_⟩
   by_cases e : j = i
   · subst e; exact hy.wpOp hi hs ⟨fun h => hst (by rwa [getD_set_ne true hit] at h), hs0, H⟩
   · obtain ⟨hun, oj, hoj, hall⟩ := mem_ready.1 hj
     have hno : ∀ x ∈ oj.after, Region.binds md x = true → x.on ≠ i := fun x hx hb he => unlisted (mem_ready.1 hr).1 (he ▸ hall x hx hb)
     have hjt : j = t → ∀ w, S0 w → S' w := fun ht => hT.resolve_right fun hw => by
      obtain ⟨ot, hot, x, hx, hb, he⟩ := Region.waitsFor_spec hw
      rw [← ht, hoj] at hot
      cases hot
      exact hno x hx hb he
     have h2 := wpOp_putIf hoj (hfree j oj hoj e hun hno) (fun cs b => hsel i oi cs b hi) (fun cs b => hsel j oj cs b hoj) hQ hy (H.2 j (ready_mono hj e))
     refine wpOp_mono (fun a' w' h3 => ?_) h2
     obtain ⟨hy', hsw, hs0', hgo⟩ := h3
     rw [Array.setIfInBounds_comm _ _ (Ne.symm e)] at hgo hsw
     have hst' : (listed.setIfInBounds j true).getD t true = false → S w' := fun h => hsw (by rwa [getD_set_ne true hit])
     have htl' : (∀ w, S0 w → S' w) ∨ (listed.setIfInBounds j true).getD t true = false := by
      by_cases ht : j = t
      · exact Or.inl (hjt ht)
      · exact htl.imp id fun h => by rwa [getD_set_ne true ht]
     refine ⟨hst', hs0', ih _ a' w' (fun k ok hk hki hunk hnok => hfree k ok hk hki ?_ hnok) (ready_mono hr (Ne.symm e)) hy' (htl'.elim (fun h => h w' hs0') fun h => hS _ (hst' h)) hst' hs0' htl' hgo⟩
     by_cases hjk : j = k
     · subst hjk; exact hun
     · rwa [getD_set_ne true hjk] at hunk
theorem anyU_take {i f : Nat} {oi : Oper} {v : Value} {listed : Array Bool} {a : Act} {w : World} (hi : ops[i]? = some oi) (hb : (Region.noSelect ops && Region.free md ops listed i && (Region.ready md ops listed).contains i && Region.waitsFor md ops t i && !listed.getD t true && !decide (i = t)) = true)
 (hQ : ∀ c a w, Q (.panic c) (a.put oi.dst v) w → Q (.panic c) a w) (hy : YieldsIf P ops S oi v a) (hS : S w) (hS0 : S0 w)
 (h : anyU P md ops Q S S0 t f (listed.setIfInBounds i true) (a.put oi.dst v) w) : anyU P md ops Q S S0 t (f + 1) listed a w := by
 simp only [Bool.and_eq_true, Bool.not_eq_true', decide_eq_false_iff_not] at hb
 obtain ⟨⟨⟨⟨⟨h1, h2⟩, h3⟩, h4⟩, h5⟩, h6⟩ := hb
 exact anyU_first hi (Region.noSelect_spec h1) hQ (fun _ h => h) h6 (Or.inr h4) f listed a w (Region.free_spec hi h2) (by simpa using h3) hy hS (fun _ => hS) hS0 (Or.inr h5) h
theorem anyU_keep {i f : Nat} {oi : Oper} {v : Value} {listed : Array Bool} {a : Act} {w : World} (hi : ops[i]? = some oi) (hb : (Region.noSelect ops && Region.free md ops listed i && (Region.ready md ops listed).contains i && !decide (i = t)) = true)
 (hQ : ∀ c a w, Q (.panic c) (a.put oi.dst v) w → Q (.panic c) a w) (hy : YieldsIf P ops S0 oi v a) (hSS : ∀ w, S w → S0 w) (hS : listed.getD t true = false → S w) (hS0 : S0 w)
 (h : anyU P md ops Q S S0 t f (listed.setIfInBounds i true) (a.put oi.dst v) w) : anyU P md ops Q S S0 t (f + 1) listed a w := by
 simp only [Bool.and_eq_true, Bool.not_eq_true', decide_eq_false_iff_not] at hb
 obtain ⟨⟨⟨h1, h2⟩, h3⟩, h6⟩ := hb
 exact anyU_first hi (Region.noSelect_spec h1) hQ hSS h6 (Or.inl fun _ h => h) f listed a w (Region.free_spec hi h2) (by simpa using h3) hy hS0 hS hS0 (Or.inl fun _ h => h) h
theorem anyU_pure {i f : Nat} {oi : Oper} {v : Value} {listed : Array Bool} {a : Act} {w : World} (hi : ops[i]? = some oi) (hb : (Region.noSelect ops && Region.free md ops listed i && (Region.ready md ops listed).contains i && !decide (i = t)) = true)
 (hQ : ∀ c a w, Q (.panic c) (a.put oi.dst v) w → Q (.panic c) a w) (hy : YieldsIf P ops (fun _ => True) oi v a) (hS : listed.getD t true = false → S w) (hS0 : S0 w)
 (h : anyU P md ops Q S S0 t f (listed.setIfInBounds i true) (a.put oi.dst v) w) : anyU P md ops Q S S0 t (f + 1) listed a w := by
 simp only [Bool.and_eq_true, Bool.not_eq_true', decide_eq_false_iff_not] at hb
 obtain ⟨⟨⟨h1, h2⟩, h3⟩, h6⟩ := hb
 exact anyU_first (S' := fun _ => True) hi (Region.noSelect_spec h1) hQ (fun _ _ => trivial) h6 (Or.inl fun _ _ => trivial) f listed a w (Region.free_spec hi h2) (by simpa using h3) hy trivial hS hS0 (Or.inl fun _ _ => trivial) h
theorem anyU_one {k f : Nat} {o : Oper} {listed : Array Bool} {a : Act} {w : World} (hr : Region.ready md ops listed = [k]) (ho : ops[k]? = some o)
 (h : ∀ K : Act → World → Prop, (∀ a' w', ((listed.setIfInBounds k true).getD t true = false → S w') → S0 w' → anyU P md ops Q S S0 t f (listed.setIfInBounds k true) a' w' → K a' w') → if Region.wanted o (yielded ops a.tmps) = true then Oper.wp P o a w K Q else K (a.put o.dst undef) w) : anyU P md ops Q S S0 t (f + 1) listed a w := by
 refine ⟨fun h0 => by rw [hr] at h0; exact absurd h0 (by simp), fun i hi => ?_⟩
 rw [hr] at hi
 obtain rfl := List.mem_singleton.1 hi
 have := h (fun a' w' => ((listed.setIfInBounds i true).getD t true = false → S w') ∧ S0 w' ∧ anyU P md ops Q S S0 t f (listed.setIfInBounds i true) a' w') fun a' w' h1 h0 h2 => ⟨h1, h0, h2⟩
 unfold wpOp
 rw [ho]
 show if Region.wanted o (yielded ops a.tmps) = true then _ else _
 split
 · rename_i hw; rw [if_pos hw] at this; exact Or.inl this
 · rename_i hw; rw [if_neg hw] at this; exact this
theorem anyU_two {k k' f : Nat} {o o' : Oper} {listed : Array Bool} {a : Act} {w : World} (hr : Region.ready md ops listed = [k, k']) (ho : ops[k]? = some o) (ho' : ops[k']? = some o')
 (h : ∀ K : Act → World → Prop, (∀ a' w', ((listed.setIfInBounds k true).getD t true = false → S w') → S0 w' → anyU P md ops Q S S0 t f (listed.setIfInBounds k true) a' w' → K a' w') → if Region.wanted o (yielded ops a.tmps) = true then Oper.wp P o a w K Q else K (a.put o.dst undef) w)
 (h' : ∀ K : Act → World → Prop, (∀ a' w', ((listed.setIfInBounds k' true).getD t true = false → S w') → S0 w' → anyU P md ops Q S S0 t f (listed.setIfInBounds k' true) a' w' → K a' w') → if Region.wanted o' (yielded ops a.tmps) = true then Oper.wp P o' a w K Q else K (a.put o'.dst undef) w) : anyU P md ops Q S S0 t (f + 1) listed a w := by
 have one : ∀ (k : Nat) (o : Oper), ops[k]? = some o → (∀ K : Act → World → Prop, (∀ a' w', ((listed.setIfInBounds k true).getD t true = false → S w') → S0 w' → anyU P md ops Q S S0 t f (listed.setIfInBounds k true) a' w' → K a' w') → if Region.wanted o (yielded ops a.tmps) = true then Oper.wp P o a w K Q else K (a.put o.dst undef) w) →
  wpOp P ops Q k (fun a' w' => ((listed.setIfInBounds k true).getD t true = false → S w') ∧ S0 w' ∧ anyU P md ops Q S S0 t f (listed.setIfInBounds k true) a' w') a w := by
  intro k o ho h
  have := h (fun a' w' => ((listed.setIfInBounds k true).getD t true = false → S w') ∧ S0 w' ∧ anyU P md ops Q S S0 t f (listed.setIfInBounds k true) a' w') fun a' w' h1 h0 h2 => ⟨h1, h0, h2⟩
  unfold wpOp
  rw [ho]
  show if Region.wanted o (yielded ops a.tmps) = true then _ else _
  split
  · rename_i hw; rw [if_pos hw] at this; exact Or.inl this
  · rename_i hw; rw [if_neg hw] at this; exact this
 refine ⟨fun h0 => by rw [hr] at h0; exact absurd h0 (by simp), fun i hi => ?_⟩
 rw [hr] at hi
 rcases List.mem_cons.1 hi with rfl | hi
 · exact one _ _ ho h
 · obtain rfl := List.mem_singleton.1 hi
   exact one _ _ ho' h'
theorem anyU_done {listed : Array Bool} {a : Act} {w : World} (hr : Region.ready md ops listed = []) (h : Q .normal a w) : anyU P md ops Q S S0 t 0 listed a w := ⟨hr, h⟩
theorem wp_region_U {id : Nat} {a : Act} {w : World} (S S0 : World → Prop) (t : Nat) (hm : P.follows .mixedOrders = true) (h : ∀ W : World, W = w.drew → anyU P .any ops Q S S0 t ops.size (Array.replicate ops.size false) a W) : (Code.region id ops true).wp P Q a w :=
 wp_region_any hm (wpAny_of_anyU _ _ _ _ (h _ rfl))
end
end Go.Proofs.YtjlknaahpjiibaaGreatDoor
