/- A region that draws its order: reads are taken first under a condition on the world that the region's last operation need not keep. -/
import Derived.OrdersHeld
import Derived.StillTail
import Derived.KernelRfl
namespace Go.Proofs.YtiklgipcgdgkoaaDoor
open Go
section
variable {P : Program} {ops : Array Oper} {Q : Exit → Act → World → Prop} {md : Region.Mode} {S : World → Prop} {t : Nat}
/-- whatever may come up comes up; behind each but number t the world meets S -/
def anyT (P : Program) (md : Region.Mode) (ops : Array Oper) (Q : Exit → Act → World → Prop) (S : World → Prop) (t : Nat) : Nat → Array Bool → Act → World → Prop
  | 0, listed, a, w => Region.ready md ops listed = [] ∧ Q .normal a w
  | f + 1, listed, a, w => (Region.ready md ops listed = [] → Q .normal a w) ∧ ∀ i ∈ Region.ready md ops listed, wpOp P ops Q i (fun a' w' => ((listed.setIfInBounds i true).getD t true = false → S w') ∧ anyT P md ops Q S t f (listed.setIfInBounds i true) a' w') a w
theorem wpAny_of_anyT : ∀ (f : Nat) (listed : Array Bool) (a : Act) (w : World), anyT P md ops Q S t f listed a w → wpAny P md ops Q f listed a w
  | 0, _, _, _, h => h
  | f + 1, _, _, _, h => ⟨h.1, fun i hi => wpOp_mono (fun a' w' h' => wpAny_of_anyT f _ a' w' h'.2) (h.2 i hi)⟩
theorem unlisted {listed : Array Bool} {i : Nat} (h : listed.getD i true = false) : listed.getD i false ≠ true := by rw [getD_both h]; simp
theorem anyT_first {S' : World → Prop} {i : Nat} {oi : Oper} {v : Value} (hi : ops[i]? = some oi) (hsel : ∀ (j : Nat) (o : Oper) cs b, ops[j]? = some o → o.op ≠ .select cs b) (hQ : ∀ c a w, Q (.panic c) (a.put oi.dst v) w → Q (.panic c) a w)
    (hS : ∀ w, S w → S' w) (hit : i ≠ t) (hT : (∀ w, S' w) ∨ Region.waitsFor md ops t i = true) : ∀ (f : Nat) (listed : Array Bool) (a : Act) (w : World),
      (∀ j oj, ops[j]? = some oj → j ≠ i → listed.getD j true = false → (∀ e ∈ oj.after, Region.binds md e = true → e.on ≠ i) → oi.apart ops oj = true) →
      i ∈ Region.ready md ops listed → YieldsIf P ops S' oi v a → S' w → (listed.getD t true = false → S w) → ((∀ w, S' w) ∨ listed.getD t true = false) →
      anyT P md ops Q S t f (listed.setIfInBounds i true) (a.put oi.dst v) w → anyT P md ops Q S t (f + 1) listed a w := by
  intro f
  induction f with
  | zero =>
    intro listed a w _ hr hy hs hst _ H
    refine ⟨fun h => by rw [h] at hr; exact absurd hr (by simp), fun j hj => ?_⟩
    by_cases e : j = i
    · subst e; exact hy.wpOp hi hs ⟨fun h => hst (by rwa [getD_set_ne true hit] at h), H⟩
    · have h1 := ready_mono hj e
      rw [H.1] at h1
      exact absurd h1 (by simp)
  | succ f ih =>
    intro listed a w hfree hr hy hs hst htl H
    refine ⟨fun h => by rw [h] at hr; exact absurd hr (by simp), fun j hj => ?_⟩
    by_cases e : j = i
    · subst e; exact hy.wpOp hi hs ⟨fun h => hst (by rwa [getD_set_ne true hit] at h), H⟩
    · obtain ⟨hun, oj, hoj, hall⟩ := mem_ready.1 hj
      have hno : ∀ x ∈ oj.after, Region.binds md x = true → x.on ≠ i := fun x hx hb he => unlisted (mem_ready.1 hr).1 (he ▸ hall x hx hb)
      have hjt : j = t → ∀ w, S' w := fun ht => hT.resolve_right fun hw => by
        obtain ⟨ot, hot, x, hx, hb, he⟩ := Region.waitsFor_spec hw
        rw [← ht, hoj] at hot
        cases hot
        exact hno x hx hb he
      have h2 := wpOp_putIf hoj (hfree j oj hoj e hun hno) (fun cs b => hsel i oi cs b hi) (fun cs b => hsel j oj cs b hoj) hQ hy (H.2 j (ready_mono hj e))
      refine wpOp_mono (fun a' w' h3 => ?_) h2
      obtain ⟨hy', hsw, hgo⟩ := h3
      rw [Array.setIfInBounds_comm _ _ (Ne.symm e)] at hgo hsw
      have hst' : (listed.setIfInBounds j true).getD t true = false → S w' := fun h => hsw (by rwa [getD_set_ne true hit])
      have htl' : (∀ w, S' w) ∨ (listed.setIfInBounds j true).getD t true = false := by
        by_cases ht : j = t
        · exact Or.inl (hjt ht)
        · exact htl.imp id fun h => by rwa [getD_set_ne true ht]
      refine ⟨hst', ih _ a' w' (fun k ok hk hki hunk hnok => hfree k ok hk hki ?_ hnok) (ready_mono hr (Ne.symm e)) hy' (htl'.elim (fun h => h w') fun h => hS _ (hst' h)) hst' htl' hgo⟩
      by_cases hjk : j = k
      · subst hjk; exact hun
      · rwa [getD_set_ne true hjk] at hunk
/-- a load is taken first -/
theorem anyT_take {i f : Nat} {oi : Oper} {v : Value} {listed : Array Bool} {a : Act} {w : World} (hi : ops[i]? = some oi) (hb : (Region.noSelect ops && Region.free md ops listed i && (Region.ready md ops listed).contains i && Region.waitsFor md ops t i && !listed.getD t true && !decide (i = t)) = true)
    (hQ : ∀ c a w, Q (.panic c) (a.put oi.dst v) w → Q (.panic c) a w) (hy : YieldsIf P ops S oi v a) (hS : S w)
    (h : anyT P md ops Q S t f (listed.setIfInBounds i true) (a.put oi.dst v) w) : anyT P md ops Q S t (f + 1) listed a w := by
  simp only [Bool.and_eq_true, Bool.not_eq_true', decide_eq_false_iff_not] at hb
  obtain ⟨⟨⟨⟨⟨h1, h2⟩, h3⟩, h4⟩, h5⟩, h6⟩ := hb
  exact anyT_first hi (Region.noSelect_spec h1) hQ (fun _ h => h) h6 (Or.inr h4) f listed a w (Region.free_spec hi h2) (by simpa using h3) hy hS (fun _ => hS) (Or.inr h5) h
/-- an address, a copy, a sum is taken first -/
theorem anyT_pure {i f : Nat} {oi : Oper} {v : Value} {listed : Array Bool} {a : Act} {w : World} (hi : ops[i]? = some oi) (hb : (Region.noSelect ops && Region.free md ops listed i && (Region.ready md ops listed).contains i && !decide (i = t)) = true)
    (hQ : ∀ c a w, Q (.panic c) (a.put oi.dst v) w → Q (.panic c) a w) (hy : YieldsIf P ops (fun _ => True) oi v a) (hS : S w)
    (h : anyT P md ops Q S t f (listed.setIfInBounds i true) (a.put oi.dst v) w) : anyT P md ops Q S t (f + 1) listed a w := by
  simp only [Bool.and_eq_true, Bool.not_eq_true', decide_eq_false_iff_not] at hb
  obtain ⟨⟨⟨h1, h2⟩, h3⟩, h6⟩ := hb
  exact anyT_first (S' := fun _ => True) hi (Region.noSelect_spec h1) hQ (fun _ _ => trivial) h6 (Or.inl fun _ => trivial) f listed a w (Region.free_spec hi h2) (by simpa using h3) hy trivial (fun _ => hS) (Or.inl fun _ => trivial) h
/-- one operation alone may come up -/
theorem anyT_one {k f : Nat} {o : Oper} {listed : Array Bool} {a : Act} {w : World} (hr : Region.ready md ops listed = [k]) (ho : ops[k]? = some o)
    (h : ∀ K : Act → World → Prop, (∀ a' w', ((listed.setIfInBounds k true).getD t true = false → S w') → anyT P md ops Q S t f (listed.setIfInBounds k true) a' w' → K a' w') → if Region.wanted o (yielded ops a.tmps) = true then Oper.wp P o a w K Q else K (a.put o.dst undef) w) : anyT P md ops Q S t (f + 1) listed a w := by
  refine ⟨fun h0 => by rw [hr] at h0; exact absurd h0 (by simp), fun i hi => ?_⟩
  rw [hr] at hi
  obtain rfl := List.mem_singleton.1 hi
  have := h (fun a' w' => ((listed.setIfInBounds i true).getD t true = false → S w') ∧ anyT P md ops Q S t f (listed.setIfInBounds i true) a' w') fun a' w' h1 h2 => ⟨h1, h2⟩
  unfold wpOp
  rw [ho]
  show if Region.wanted o (yielded ops a.tmps) = true then _ else _
  split
  · rename_i hw; rw [if_pos hw] at this; exact Or.inl this
  · rename_i hw; rw [if_neg hw] at this; exact this
theorem anyT_done {listed : Array Bool} {a : Act} {w : World} (hr : Region.ready md ops listed = []) (h : Q .normal a w) : anyT P md ops Q S t 0 listed a w := ⟨hr, h⟩
/-- the beginning -/
theorem wp_region_T {id : Nat} {a : Act} {w : World} (S : World → Prop) (t : Nat) (hm : P.follows .mixedOrders = true) (h : ∀ W : World, W = w.drew → anyT P .any ops Q S t ops.size (Array.replicate ops.size false) a W) : (Code.region id ops true).wp P Q a w :=
  wp_region_any hm (wpAny_of_anyT _ _ _ _ (h _ rfl))
end
end Go.Proofs.YtiklgipcgdgkoaaDoor
