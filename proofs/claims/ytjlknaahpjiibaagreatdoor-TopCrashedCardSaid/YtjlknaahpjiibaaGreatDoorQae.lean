/- Part of the proof of topCrashedLaw_holds. -/
import Derived.StillTailTactics
import Derived.Deep.QuietTactic
import Derived.BigQuiet
namespace Go.Proofs.YtjlknaahpjiibaaGreatDoor
open Go
section
variable {P : Program} {ops : Array Oper} {Q : Act → Prop} {a : Act} {o : Oper} {l : List Oper} {w : World}
theorem still_of_quiet {K : Act → Prop} (h : o.quiet P a (fun x => x = w) K) : o.still P a w K := by
 obtain ⟨v, h1, h2⟩ := h
 have h3 := h1 w rfl
 unfold Oper.quietAt at h3
 unfold Oper.still
 generalize (execOp a.eval o).run P w = r at *
 cases r with
 | ok n w' =>
   cases n <;> simp only [Oper.quietUpon, Oper.stillUpon] at h3 ⊢
   case value u => obtain ⟨rfl, rfl⟩ := h3; exact ⟨rfl, h2⟩
   case skip => obtain ⟨rfl, rfl⟩ := h3; exact ⟨rfl, h2⟩
   case enter f args => exact ⟨h3.1, v, h3.2, h2⟩
 | halt x w' => simp only [Oper.quietUpon] at h3
theorem wpStill_of_quiet : ∀ {l : List Oper} {a : Act}, wpQuiet P ops (fun x => x = w) Q l a → wpStill P ops w Q l a
 | [], _, h => h
 | o :: l, a, h => by
   refine wpStill_step fun K hK => ?_
   unfold wpQuiet at h
   split at h
   · rename_i hw
     rw [if_pos hw]
     exact Oper.still_mono (fun a' h' => hK a' (wpStill_of_quiet h')) (still_of_quiet h)
   · rename_i hw
     rw [if_neg hw]
     exact hK _ (wpStill_of_quiet h)
end
theorem wp_region_readsQ {P : Program} {id : Nat} {Q : Exit → Act → World → Prop} {a : Act} {w : World} {l : List Oper} (n : Nat) (hm : P.follows .mixedOrders = true) (hB : Region.lexTailB .any l.toArray n = true)
 (h : ∀ W : World, W = w.drew → wpQuiet P l.toArray (fun x => x = W) (fun a' => wpList P l.toArray Q (l.drop n) a' W) (l.take n) a) : (Code.region id l.toArray true).wp P Q a w :=
 wp_region_still_tail n hm hB (wpStill_of_quiet (h _ rfl))
end Go.Proofs.YtjlknaahpjiibaaGreatDoor
