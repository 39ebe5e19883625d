/- Part of the proof of topCrashedLaw_holds. -/
import Derived.Lib.Bytealg
import Derived.Test.YtjlknaahpjiibaaGreatDoorQaa
import Derived.Test.YtjlknaahpjiibaaGreatDoorQai
namespace Go.Proofs.YtjlknaahpjiibaaGreatDoor.J
open Go.RowKit
set_option linter.unusedVariables false
set_option linter.unusedSimpArgs false
theorem cb_neg : ∀ (a b : List UInt8), Lib.compareBytes b a = - Lib.compareBytes a b := by
 intro a
 induction a with
 | nil => intro b; cases b <;> rfl
 | cons x a ih =>
   intro b
   cases b with
   | nil => rfl
   | cons y b =>
     unfold Lib.compareBytes
     by_cases h : x < y
     · have h2 : ¬ y < x := fun h' => by rw [UInt8.lt_iff_toNat_lt] at h h'; omega
       rw [if_neg h2, if_pos h, if_pos h]; rfl
     · by_cases h2 : y < x
       · rw [if_pos h2, if_neg h, if_pos h2]
       · rw [if_neg h2, if_neg h, if_neg h, if_neg h2]; exact ih b
theorem cb_eq : ∀ (a b : List UInt8), Lib.compareBytes a b = 0 ↔ a = b := by
 intro a
 induction a with
 | nil => intro b; cases b <;> simp [Lib.compareBytes]
 | cons x a ih =>
   intro b
   cases b with
   | nil => simp [Lib.compareBytes]
   | cons y b =>
     unfold Lib.compareBytes
     rw [List.cons.injEq]
     by_cases h : x < y
     · rw [if_pos h]
       exact ⟨fun h' => by omega, fun ⟨e, _⟩ => by subst e; rw [UInt8.lt_iff_toNat_lt] at h; omega⟩
     · by_cases h2 : y < x
       · rw [if_neg h, if_pos h2]
         exact ⟨fun h' => by omega, fun ⟨e, _⟩ => by subst e; rw [UInt8.lt_iff_toNat_lt] at h2; omega⟩
       · rw [if_neg h, if_neg h2, ih]
         have e : x = y := by
          rw [UInt8.lt_iff_toNat_lt] at h h2
          exact UInt8.toNat_inj.1 (by omega)
         exact ⟨fun h' => ⟨e, h'⟩, fun h' => h'.2⟩
theorem cb_trans : ∀ (a b c : List UInt8), Lib.compareBytes a b < 0 → Lib.compareBytes b c < 0 → Lib.compareBytes a c < 0 := by
 intro a
 induction a with
 | nil => intro b c h1 h2; cases b <;> cases c <;> simp_all [Lib.compareBytes]
 | cons x a ih =>
   intro b c h1 h2
   cases b with
   | nil => simp [Lib.compareBytes] at h1
   | cons y b =>
     cases c with
     | nil => simp [Lib.compareBytes] at h2
     | cons z c =>
       unfold Lib.compareBytes at h1 h2 ⊢
       simp only [UInt8.lt_iff_toNat_lt] at h1 h2 ⊢
       by_cases e1 : x.toNat < y.toNat
       · by_cases e2 : y.toNat < z.toNat
         · rw [if_pos (by omega)]; decide
         · by_cases e3 : z.toNat < y.toNat
           · rw [if_neg e2, if_pos e3] at h2; omega
           · rw [if_pos (by omega)]; decide
       · by_cases e1' : y.toNat < x.toNat
         · rw [if_neg e1, if_pos e1'] at h1; omega
         · rw [if_neg e1, if_neg e1'] at h1
           by_cases e2 : y.toNat < z.toNat
           · rw [if_pos (by omega)]; decide
           · by_cases e3 : z.toNat < y.toNat
             · rw [if_neg e2, if_pos e3] at h2; omega
             · rw [if_neg e2, if_neg e3] at h2
               rw [if_neg (by omega), if_neg (by omega)]
               exact ih b c h1 h2
def cfR (a b : Rec) : Int := Lib.compareBytes a.key.data.toList b.key.data.toList
theorem key_eq {a b : ByteArray} : a = b ↔ a.data.toList = b.data.toList := ⟨fun h => by rw [h], fun h => by
 obtain ⟨⟨a⟩⟩ := a
 obtain ⟨⟨b⟩⟩ := b
 simp only at h
 rw [h]⟩
theorem cfR_zero {a b : Rec} : cfR a b = 0 ↔ a.key = b.key := (cb_eq _ _).trans key_eq.symm
theorem cfR_neg (a b : Rec) : cfR b a = - cfR a b := cb_neg _ _
theorem cfR_trans {a b c : Rec} (h : cfR a b < 0) (k : cfR b c < 0) : cfR a c < 0 := cb_trans _ _ _ h k
def lastRec (rs : List Rec) (k : ByteArray) : Option Rec := rs.foldl (fun o r => if r.key = k then some r else o) none
theorem lastRec_snoc (rs : List Rec) (r : Rec) (k : ByteArray) : lastRec (rs ++ [r]) k = if r.key = k then some r else lastRec rs k := by
 unfold lastRec
 rw [List.foldl_append]
 rfl
def mapOf (rs : List Rec) : List (ByteArray × Rec) := rs.foldl (fun E r => ups E r.key r) []
theorem mapOf_snoc (rs : List Rec) (r : Rec) : mapOf (rs ++ [r]) = ups (mapOf rs) r.key r := by
 unfold mapOf
 rw [List.foldl_append]
 rfl
theorem mapOf_get (rs : List Rec) (k : ByteArray) : aget (mapOf rs) k = lastRec rs k := by
 obtain ⟨n, hn⟩ : ∃ n, n = rs.length := ⟨_, rfl⟩
 induction n generalizing rs with
 | zero => rw [List.eq_nil_of_length_eq_zero hn.symm]; rfl
 | succ n ih =>
   obtain ⟨l, r, rfl⟩ : ∃ l r, rs = l ++ [r] := ⟨rs.dropLast, rs.getLast (by intro h; rw [h] at hn; simp at hn), (List.dropLast_concat_getLast _).symm⟩
   rw [mapOf_snoc, lastRec_snoc, aget_ups, ih l (by simp at hn; omega)]
theorem mapOf_key (rs : List Rec) : ∀ p ∈ mapOf rs, p.2.key = p.1 ∧ p.2 ∈ rs := by
 obtain ⟨n, hn⟩ : ∃ n, n = rs.length := ⟨_, rfl⟩
 induction n generalizing rs with
 | zero => rw [List.eq_nil_of_length_eq_zero hn.symm]; intro p hp; simp [mapOf] at hp
 | succ n ih =>
   obtain ⟨l, r, rfl⟩ : ∃ l r, rs = l ++ [r] := ⟨rs.dropLast, rs.getLast (by intro h; rw [h] at hn; simp at hn), (List.dropLast_concat_getLast _).symm⟩
   intro p hp
   rw [mapOf_snoc] at hp
   rcases mem_ups hp with rfl | hp
   · exact ⟨rfl, by simp⟩
   · have := ih l (by simp at hn; omega) p hp
     exact ⟨this.1, by simp [this.2]⟩
structure IsState (rs st : List Rec) : Prop where
 mem : ∀ r, r ∈ st ↔ lastRec rs r.key = some r ∧ r.del = false
 sorted : st.Pairwise fun a b => cfR a b < 0
theorem lastRec_mem {rs : List Rec} {k : ByteArray} {r : Rec} (h : lastRec rs k = some r) : r ∈ rs ∧ r.key = k := by
 rw [← mapOf_get] at h
 have := mapOf_key rs _ (aget_mem h)
 exact ⟨this.2, this.1⟩
theorem lastRec_distinct : ∀ {rs : List Rec}, (∀ a ∈ rs, ∀ b ∈ rs, a.key = b.key → a = b) → ∀ r ∈ rs, lastRec rs r.key = some r := by
 intro rs h r hr
 cases hl : lastRec rs r.key with
 | none =>
   exfalso
   rw [← mapOf_get] at hl
   obtain ⟨a, b, rfl⟩ := List.append_of_mem hr
   have hn : ∀ (c : List Rec), (lastRec (a ++ r :: c) r.key).isSome := by
    intro c
    obtain ⟨n, hn⟩ : ∃ n, n = c.length := ⟨_, rfl⟩
    induction n generalizing c with
    | zero =>
      rw [List.eq_nil_of_length_eq_zero hn.symm, lastRec_snoc, if_pos rfl]
      rfl
    | succ n ih =>
      obtain ⟨l, x, rfl⟩ : ∃ l x, c = l ++ [x] := ⟨c.dropLast, c.getLast (by intro h; rw [h] at hn; simp at hn), (List.dropLast_concat_getLast _).symm⟩
      rw [show a ++ r :: (l ++ [x]) = (a ++ r :: l) ++ [x] by simp, lastRec_snoc]
      split
      · rfl
      · exact ih l (by simp at hn; omega)
   rw [mapOf_get] at hl
   have := hn b
   rw [hl] at this
   simp at this
 | some r' =>
   obtain ⟨h1, h2⟩ := lastRec_mem hl
   rw [h r' h1 r hr h2]
theorem IsState.make {rs : List Rec} {rest st : List Rec} (hp : st.Perm (((mapOf rs).map (·.2)).filter fun r => !r.del)) (hn : ((mapOf rs).map (·.1)).Nodup) (hs : st.Pairwise fun a b => ¬ cfR b a < 0) : IsState rs st := by
 have hm : ∀ r, r ∈ st ↔ lastRec rs r.key = some r ∧ r.del = false := fun r => by
  rw [hp.mem_iff, List.mem_filter]
  constructor
  · rintro ⟨h1, h2⟩
    obtain ⟨p, hp1, rfl⟩ := List.mem_map.1 h1
    refine ⟨?_, by simpa using h2⟩
    rw [← mapOf_get, (mapOf_key rs p hp1).1]
    exact aget_of_mem hn hp1
  · rintro ⟨h1, h2⟩
    rw [← mapOf_get] at h1
    exact ⟨List.mem_map.2 ⟨_, aget_mem h1, rfl⟩, by simpa using h2⟩
 have hnd : st.Pairwise fun a b => a.key ≠ b.key := by
  have h1 : (((mapOf rs).map (·.2)).filter fun r => !r.del).Pairwise fun a b => a.key ≠ b.key := by
   refine List.Pairwise.filter _ ?_
   rw [List.pairwise_map]
   have : (mapOf rs).Pairwise fun p q => p.1 ≠ q.1 := List.pairwise_map.1 hn
   refine List.Pairwise.imp_of_mem (fun {p q} hp hq h => ?_) this
   rw [(mapOf_key rs p hp).1, (mapOf_key rs q hq).1]
   exact h
  exact (hp.pairwise_iff fun {a b} h => Ne.symm h).2 h1
 refine ⟨hm, (hs.and hnd).imp fun {a b} h => ?_⟩
 have h1 := cfR_neg a b
 have h2 : cfR a b ≠ 0 := fun e => h.2 (cfR_zero.1 e)
 have h3 := h.1
 omega
theorem nodup_ups {es : List (ByteArray × Rec)} (h : (es.map (·.1)).Nodup) (x : ByteArray) (v : Rec) : ((ups es x v).map (·.1)).Nodup := by
 induction es with
 | nil => simp [ups]
 | cons p r ih =>
   obtain ⟨h1, h2⟩ := List.nodup_cons.1 h
   unfold ups
   split
   · rename_i e
     exact List.nodup_cons.2 ⟨by first | exact e ▸ h1 | (simpa [e] using h1), h2⟩
   · rename_i e
     refine List.nodup_cons.2 ⟨fun hm => ?_, ih h2⟩
     obtain ⟨q, hq, e2⟩ := List.mem_map.1 hm
     rcases mem_ups hq with rfl | hq
     · exact e (by simpa using e2.symm)
     · exact h1 (List.mem_map.2 ⟨q, hq, e2⟩)
theorem nodup_mapOf (rs : List Rec) : ((mapOf rs).map (·.1)).Nodup := by
 obtain ⟨n, hn⟩ : ∃ n, n = rs.length := ⟨_, rfl⟩
 induction n generalizing rs with
 | zero => rw [List.eq_nil_of_length_eq_zero hn.symm]; simp [mapOf]
 | succ n ih =>
   obtain ⟨l, r, rfl⟩ : ∃ l r, rs = l ++ [r] := ⟨rs.dropLast, rs.getLast (by intro h; rw [h] at hn; simp at hn), (List.dropLast_concat_getLast _).symm⟩
   rw [mapOf_snoc]
   exact nodup_ups (ih l (by simp at hn; omega)) _ _
end Go.Proofs.YtjlknaahpjiibaaGreatDoor.J
