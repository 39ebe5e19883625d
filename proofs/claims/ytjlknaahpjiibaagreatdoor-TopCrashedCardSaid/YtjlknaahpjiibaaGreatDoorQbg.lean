/- Part of the proof of topCrashedLaw_holds. -/
import Derived.Test.YtjlknaahpjiibaaGreatDoorQaa
import Derived.Test.YtjlknaahpjiibaaGreatDoorQba
namespace Go.Proofs.YtjlknaahpjiibaaGreatDoor
open Go
set_option linter.unusedVariables false
set_option linter.unusedSimpArgs false
section
variable {P : Program} {ops : Array Oper} {Q : Exit → Act → World → Prop} {md : Region.Mode}
def updV (u : Nat → Value) (i : Nat) (v : Value) : Nat → Value := fun j => if j = i then v else u j
theorem updV_same (u : Nat → Value) (i : Nat) (v : Value) : updV u i v i = v := if_pos rfl
theorem updV_ne (u : Nat → Value) {i j : Nat} (v : Value) (h : j ≠ i) : updV u i v j = u j := if_neg h
def awaits (md : Region.Mode) (ops : Array Oper) : Nat → Nat → Nat → Bool
 | 0, _, _ => false
 | f + 1, k, j => match ops[k]? with
   | none => false
   | some o => o.after.any fun e => Region.binds md e && (decide (e.on = j) || awaits md ops f e.on j)
def Cl (md : Region.Mode) (ops : Array Oper) (listed : Array Bool) : Prop := ∀ j o, listed.getD j false = true → ops[j]? = some o → ∀ e ∈ o.after, Region.binds md e = true → listed.getD e.on false = true
theorem awaits_listed {listed : Array Bool} (hc : Cl md ops listed) {j : Nat} : ∀ (f k : Nat) (o : Oper), ops[k]? = some o → (∀ e ∈ o.after, Region.binds md e = true → listed.getD e.on false = true) → awaits md ops f k j = true → listed.getD j false = true
 | 0, _, _, _, _, h => by simp [awaits] at h
 | f + 1, k, o, ho, hl, h => by
   rw [awaits, ho] at h
   simp only [Array.any_eq_true', Bool.and_eq_true, Bool.or_eq_true, decide_eq_true_eq] at h
   obtain ⟨e, he, hb, h⟩ := h
   have hle := hl e he hb
   rcases h with rfl | h
   · exact hle
   · cases ho' : ops[e.on]? with
     | none =>
       cases f with
       | zero => simp [awaits] at h
       | succ f => rw [awaits, ho'] at h; cases h
     | some o' => exact awaits_listed hc f e.on o' ho' (hc e.on o' hle ho') h
def chkN (md : Region.Mode) (ops : Array Oper) (n : Nat) : Bool :=
 decide (n ≤ ops.size) && ((List.range ops.size).all fun k => if k < n then ((ops[k]?).map fun o => o.after.all fun e => !Region.binds md e || decide (e.on < k)).getD false else (List.range n).all fun j => awaits md ops ops.size k j)
def lastN (n m : Nat) : Array Bool := (List.replicate n true ++ List.replicate (m - n) false).toArray
theorem getD_tf {listed : Array Bool} {j : Nat} (h : listed.getD j false = false) (hl : j < listed.size) : listed.getD j true = false := by
 simp [Array.getD, hl] at h ⊢; exact h
theorem getD_ft {listed : Array Bool} {j : Nat} (h : listed.getD j true = false) : listed.getD j false = false ∧ j < listed.size := by
 by_cases hl : j < listed.size
 · simp [Array.getD, hl] at h ⊢; exact h
 · simp [Array.getD, hl] at h
theorem wpAny_inv {n : Nat} {A : (Nat → Value) → Act} {R : Nat → Value → World → Prop} {G : Array Bool → (Nat → Value) → World → Prop} (F : Nat → World → World → Prop) (F0 : World → Prop) (hF0 : ∀ i w w', F0 w → F i w w' → F0 w') (hchk : chkN md ops n = true)
 (hmono : ∀ i j v w w', i ≠ j → F i w w' → R j v w → R j v w')
 (hput : ∀ i o, i < n → ops[i]? = some o → ∀ u v, (A u).put o.dst v = A (updV u i v))
 (hstep : ∀ i o, i < n → ops[i]? = some o → ∀ listed u w, listed.getD i false = false → (∀ j, j < n → listed.getD j false = true → R j (u j) w) → (∀ d, awaits md ops ops.size i d = true → d < n → R d (u d) w) → F0 w → G listed u w →
  ∀ K : Act → World → Prop, (∀ v w', F i w w' → R i v w' → G (listed.setIfInBounds i true) (updV u i v) w' → K ((A u).put o.dst v) w') → if Region.wanted o (yielded ops (A u).tmps) = true then Oper.wp P o (A u) w K Q else K ((A u).put o.dst undef) w)
 (hfin : ∀ u w, F0 w → (∀ j, j < n → R j (u j) w) → G (lastN n ops.size) u w → anyU P md ops Q (fun _ => True) (fun _ => True) 0 (ops.size - n) (lastN n ops.size) (A u) w) :
 ∀ (m : Nat) (listed : Array Bool) (u : Nat → Value) (w : World), ((List.range n).countP fun j => !listed.getD j false) = m → listed.size = ops.size → (∀ j, n ≤ j → listed.getD j false = false) → Cl md ops listed → F0 w → (∀ j, j < n → listed.getD j false = true → R j (u j) w) → G listed u w →
  wpAny P md ops Q (ops.size - n + m) listed (A u) w := by
 have hchk' := hchk
 unfold chkN at hchk'
 simp only [Bool.and_eq_true, decide_eq_true_eq, List.all_eq_true, List.mem_range] at hchk'
 obtain ⟨hn, hall⟩ := hchk'
 intro m
 induction m with
 | zero =>
   intro listed u w hcnt hsz hno hcl hc hR hG
   have hl : ∀ j, j < n → listed.getD j false = true := fun j hj => by
    have := List.countP_eq_zero.1 hcnt j (List.mem_range.2 hj)
    simpa using this
   have e : listed = lastN n ops.size := by
    apply Array.ext
    · rw [hsz]; simp [lastN]; omega
    · intro j h1 h2
      have hg : listed.getD j false = listed[j] := by simp [Array.getD, h1]
      by_cases hj : j < n
      · rw [← hg, hl j hj]
        simp [lastN, List.getElem_append, hj]
      · rw [← hg, hno j (by omega)]
        simp [lastN, List.getElem_append, hj]
   subst e
   exact wpAny_of_anyU _ _ _ _ (hfin u w hc (fun j hj => hR j hj (hl j hj)) hG)
 | succ m ih =>
   intro listed u w hcnt hsz hno hcl hc hR hG
   have hpos : 0 < ((List.range n).countP fun j => !listed.getD j false) := by omega
   obtain ⟨j0, hj0, hj0'⟩ := List.countP_pos_iff.1 hpos
   have hex : ∃ j, j < n ∧ listed.getD j false = false := ⟨j0, List.mem_range.1 hj0, by simpa using hj0'⟩
   refine ⟨fun hr => ?_, fun i hi => ?_⟩
   · exfalso
     have : ∀ j, j < n → listed.getD j false = true := by
      intro j
      induction j using Nat.strongRecOn with
      | ind j ihj =>
        intro hj
        apply Classical.byContradiction
        intro hf
        have hf' : listed.getD j false = false := by simpa using hf
        have hk := hall j (by omega)
        rw [if_pos hj] at hk
        cases ho : ops[j]? with
        | none => rw [ho] at hk; cases hk
        | some o =>
          rw [ho] at hk
          simp only [Option.map_some, Option.getD_some, Array.all_eq_true', Bool.or_eq_true, Bool.not_eq_true', decide_eq_true_eq] at hk
          have : j ∈ Region.ready md ops listed := mem_ready.2 ⟨getD_tf hf' (by omega), o, ho, fun e he hb => ihj e.on ((hk e he).resolve_left (by simp [hb])) (by have := (hk e he).resolve_left (by simp [hb]); omega)⟩
          rw [hr] at this
          cases this
     obtain ⟨j, hj, hf⟩ := hex
     rw [this j hj] at hf
     cases hf
   · obtain ⟨hun, o, ho, hdeps⟩ := mem_ready.1 hi
     obtain ⟨hun', hil⟩ := getD_ft hun
     have hin : i < n := by
      apply Classical.byContradiction
      intro hge
      have hk := hall i (by omega)
      rw [if_neg hge] at hk
      simp only [List.all_eq_true, List.mem_range] at hk
      obtain ⟨j, hj, hf⟩ := hex
      rw [awaits_listed hcl _ i o ho hdeps (hk j hj)] at hf
      cases hf
     have hk := hall i (by omega)
     rw [if_pos hin, ho] at hk
     simp only [Option.map_some, Option.getD_some, Array.all_eq_true', Bool.or_eq_true, Bool.not_eq_true', decide_eq_true_eq] at hk
     have key := hstep i o hin ho listed u w hun' hR (fun d hd hdn => hR d hdn (awaits_listed hcl _ i o ho hdeps hd)) hc hG (wpAny P md ops Q (ops.size - n + m) (listed.setIfInBounds i true)) (fun v w' hcw hRi hGi => ?_)
     · unfold wpOp
       rw [ho]
       show if Region.wanted o (yielded ops (A u).tmps) = true then _ else _
       split
       · rename_i hw; rw [if_pos hw] at key; exact Or.inl key
       · rename_i hw; rw [if_neg hw] at key; exact key
     · rw [hput i o hin ho u v]
       refine ih _ _ w' ?_ (by rw [Array.size_setIfInBounds, hsz]) (fun j hj => by rw [getD_set_ne false (by omega)]; exact hno j hj) ?_ (hF0 i w w' hc hcw) ?_ hGi
       · have hs : (listed.setIfInBounds i true).getD i false = true := by simp [Array.getD, hil]
         have : ∀ (l : List Nat), l.Nodup → i ∈ l → (l.countP fun j => !(listed.setIfInBounds i true).getD j false) + 1 = l.countP fun j => !listed.getD j false := by
          intro l
          induction l with
          | nil => intro _ h; cases h
          | cons x l ihl =>
            intro hnd hm
            rw [List.nodup_cons] at hnd
            rw [List.countP_cons, List.countP_cons]
            by_cases hx : x = i
            · subst hx
              rw [hs, hun']
              have hcong : (l.countP fun j => !(listed.setIfInBounds x true).getD j false) = l.countP fun j => !listed.getD j false := List.countP_congr fun j hj => by
               have hne : x ≠ j := fun e => hnd.1 (by rw [e]; exact hj)
               rw [getD_set_ne false hne]
              rw [hcong]
              simp
            · have hm' : i ∈ l := (List.mem_cons.1 hm).resolve_left (fun e => hx e.symm)
              have := ihl hnd.2 hm'
              rw [getD_set_ne false (Ne.symm hx)]
              omega
         have := this (List.range n) List.nodup_range (List.mem_range.2 hin)
         omega
       · intro j oj hj hoj e he hb
         by_cases hji : j = i
         · subst hji
           rw [ho] at hoj
           cases hoj
           exact getD_set_true (hdeps e he hb)
         · rw [getD_set_ne false (Ne.symm hji)] at hj
           exact getD_set_true (hcl j oj hj hoj e he hb)
       · intro j hj hjl
         by_cases hji : j = i
         · subst hji
           rw [updV_same]; exact hRi
         · rw [getD_set_ne false (Ne.symm hji)] at hjl
           rw [updV_ne _ _ hji]
           exact hmono i j _ w w' (Ne.symm hji) hcw (hR j hj hjl)
theorem wp_region_invF {id n : Nat} {w : World} (F : Nat → World → World → Prop) (F0 : World → Prop) (A : (Nat → Value) → Act) (R : Nat → Value → World → Prop) (G : Array Bool → (Nat → Value) → World → Prop) (hm : P.follows .mixedOrders = true) (hchk : chkN .any ops n = true) (u : Nat → Value) (hG0 : G (Array.replicate ops.size false) u w.drew) (h00 : F0 w.drew) (hF0 : ∀ i w w', F0 w → F i w w' → F0 w')
 (hmono : ∀ i j v w w', i ≠ j → F i w w' → R j v w → R j v w')
 (hput : ∀ i o, i < n → ops[i]? = some o → ∀ u v, (A u).put o.dst v = A (updV u i v))
 (hstep : ∀ i o, i < n → ops[i]? = some o → ∀ listed u w', listed.getD i false = false → (∀ j, j < n → listed.getD j false = true → R j (u j) w') → (∀ d, awaits .any ops ops.size i d = true → d < n → R d (u d) w') → F0 w' → G listed u w' →
  ∀ K : Act → World → Prop, (∀ v w'', F i w' w'' → R i v w'' → G (listed.setIfInBounds i true) (updV u i v) w'' → K ((A u).put o.dst v) w'') → if Region.wanted o (yielded ops (A u).tmps) = true then Oper.wp P o (A u) w' K Q else K ((A u).put o.dst undef) w')
 (hfin : ∀ u w', F0 w' → (∀ j, j < n → R j (u j) w') → G (lastN n ops.size) u w' → anyU P .any ops Q (fun _ => True) (fun _ => True) 0 (ops.size - n) (lastN n ops.size) (A u) w') : (Code.region id ops true).wp P Q (A u) w := by
 have hn : n ≤ ops.size := by
  unfold chkN at hchk
  simp only [Bool.and_eq_true, decide_eq_true_eq] at hchk
  exact hchk.1
 have hf : ∀ j, (Array.replicate ops.size false).getD j false = false := fun j => by
  by_cases hj : j < ops.size <;> simp [Array.getD, hj]
 have h := wpAny_inv F F0 hF0 hchk hmono hput hstep hfin n (Array.replicate ops.size false) u w.drew ?_ (by simp) (fun j _ => hf j) (fun j o hj => by rw [hf j] at hj; cases hj) h00 (fun j _ hj => by rw [hf j] at hj; cases hj) hG0
 · rw [show ops.size - n + n = ops.size by omega] at h
   exact wp_region_any hm h
 · have : ∀ l : List Nat, (l.countP fun j => !(Array.replicate ops.size false).getD j false) = l.length := fun l => by
    rw [List.countP_eq_length]
    intro j _
    rw [hf j]; rfl
   rw [this, List.length_range]
def putU (a : Act) : List (Option Nat) → Nat → (Nat → Value) → Act
 | [], _, _ => a
 | d :: ds, i, u => putU (a.put d (u i)) ds (i + 1) u
theorem put_same (a : Act) (d : Option Nat) (x v : Value) : (a.put d x).put d v = a.put d v := by
 cases d with
 | none => rfl
 | some d => simp [Act.put]
theorem put_swap (a : Act) (d d' : Option Nat) (x v : Value) (h : d = none ∨ d ≠ d') : (a.put d x).put d' v = (a.put d' v).put d x := by
 cases d with
 | none => rfl
 | some d =>
   cases d' with
   | none => rfl
   | some d' =>
     have hne : d ≠ d' := by
      rcases h with h | h
      · cases h
      · exact fun e => h (by rw [e])
     simp only [Act.put]
     rw [Array.setIfInBounds_comm _ _ hne]
theorem putU_put : ∀ (ds : List (Option Nat)) (a : Act) (k : Nat) (u : Nat → Value) (d : Option Nat) (v : Value), (∀ d' ∈ ds, d = none ∨ d ≠ d') → (putU a ds k u).put d v = putU (a.put d v) ds k u
 | [], _, _, _, _, _, _ => rfl
 | d' :: ds, a, k, u, d, v, h => by
   show (putU (a.put d' (u k)) ds (k + 1) u).put d v = putU ((a.put d v).put d' (u k)) ds (k + 1) u
   rw [putU_put ds _ _ _ _ _ fun x hx => h x (List.mem_cons_of_mem _ hx), put_swap a d d' v (u k) (h d' List.mem_cons_self)]
theorem putU_congr : ∀ (ds : List (Option Nat)) (a : Act) (k : Nat) (u u' : Nat → Value), (∀ j, k ≤ j → u j = u' j) → putU a ds k u = putU a ds k u'
 | [], _, _, _, _, _ => rfl
 | d :: ds, a, k, u, u', h => by
   show putU (a.put d (u k)) ds (k + 1) u = putU (a.put d (u' k)) ds (k + 1) u'
   rw [h k (Nat.le_refl _), putU_congr ds _ _ u u' fun j hj => h j (by omega)]
def distD : List (Option Nat) → Bool
 | [] => true
 | d :: ds => (d.isNone || !ds.contains d) && distD ds
theorem putU_upd : ∀ (ds : List (Option Nat)) (a : Act) (k i : Nat) (hi : i < ds.length) (u : Nat → Value) (v : Value), distD ds = true → (putU a ds k u).put ds[i] v = putU a ds k (updV u (k + i) v)
 | d :: ds, a, k, 0, _, u, v, h => by
   rw [distD, Bool.and_eq_true, Bool.or_eq_true] at h
   have hd : ∀ d' ∈ ds, d = none ∨ d ≠ d' := fun d' hd' => by
    rcases h.1 with h1 | h1
    · left; simpa using h1
    · right
      intro e
      subst e
      simp [hd'] at h1
   show (putU (a.put d (u k)) ds (k + 1) u).put d v = putU (a.put d (updV u k v k)) ds (k + 1) (updV u k v)
   rw [putU_put ds _ _ _ _ _ hd, put_same, updV_same]
   exact putU_congr ds _ _ _ _ fun j hj => (updV_ne u v (by omega)).symm
 | d :: ds, a, k, i + 1, hi, u, v, h => by
   rw [distD, Bool.and_eq_true] at h
   have hi' : i < ds.length := by simpa using hi
   show (putU (a.put d (u k)) ds (k + 1) u).put (ds[i]'hi') v = putU (a.put d (updV u (k + (i + 1)) v k)) ds (k + 1) (updV u (k + (i + 1)) v)
   rw [putU_upd ds _ (k + 1) i hi' u v h.2, updV_ne u v (by omega), show k + 1 + i = k + (i + 1) by omega]
def valsOf (a : Act) (ds : List (Option Nat)) (j : Nat) : Value := match ds[j]? with
 | some (some d) => a.tmps.getD d undef
 | _ => undef
theorem put_self (a : Act) (d : Nat) : a.put (some d) (a.tmps.getD d undef) = a := by
 obtain ⟨t, de⟩ := a
 simp only [Act.put]
 congr 1
 apply Array.ext (by simp)
 intro j h1 h2
 rw [Array.getElem_setIfInBounds]
 split
 · rename_i e
   subst e
   simp [Array.getD, h2]
 · rfl
theorem putU_self (a : Act) : ∀ (ds : List (Option Nat)) (k : Nat) (u : Nat → Value), (∀ i, i < ds.length → u (k + i) = valsOf a ds i) → putU a ds k u = a
 | [], _, _, _ => rfl
 | d :: ds, k, u, h => by
   show putU (a.put d (u k)) ds (k + 1) u = a
   have h0 := h 0 (by simp)
   have e : a.put d (u k) = a := by
    rw [Nat.add_zero] at h0
    rw [h0]
    cases d with
    | none => rfl
    | some d => exact put_self a d
   rw [e]
   exact putU_self a ds (k + 1) u fun i hi => by
    have := h (i + 1) (by simpa using hi)
    rw [show k + 1 + i = k + (i + 1) by omega, this]
    rfl
def dsts (ops : Array Oper) (n : Nat) : List (Option Nat) := (ops.toList.take n).map (·.dst)
def noGuards (ops : Array Oper) (n : Nat) : Bool := (ops.toList.take n).all fun o => o.guard.isNone
theorem wp_region_putF {id : Nat} {a : Act} {w : World} (F : Nat → World → World → Prop) (F0 : World → Prop) (n : Nat) (ds : List (Option Nat)) (R : Nat → Value → World → Prop) (G : Array Bool → (Nat → Value) → World → Prop) (hm : P.follows .mixedOrders = true) (hds : dsts ops n = ds) (hchk : (chkN .any ops n && distD ds && noGuards ops n) = true) (hG0 : ∀ u, G (Array.replicate ops.size false) u w.drew) (h00 : F0 w.drew) (hF0 : ∀ i w w', F0 w → F i w w' → F0 w')
 (hmono : ∀ i j v w w', i ≠ j → F i w w' → R j v w → R j v w')
 (hstep : ∀ i o, ops[i]? = some o → i < n → ∀ listed u w', listed.getD i false = false → (∀ j, j < n → listed.getD j false = true → R j (u j) w') → (∀ d, awaits .any ops ops.size i d = true → d < n → R d (u d) w') → F0 w' → G listed u w' →
  ∀ K : Act → World → Prop, (∀ v w'', F i w' w'' → R i v w'' → G (listed.setIfInBounds i true) (updV u i v) w'' → K ((putU a ds 0 u).put o.dst v) w'') → Oper.wp P o (putU a ds 0 u) w' K Q)
 (hfin : ∀ u w', F0 w' → (∀ j, j < n → R j (u j) w') → G (lastN n ops.size) u w' → anyU P .any ops Q (fun _ => True) (fun _ => True) 0 (ops.size - n) (lastN n ops.size) (putU a ds 0 u) w') : (Code.region id ops true).wp P Q a w := by
 subst hds
 rw [Bool.and_eq_true, Bool.and_eq_true] at hchk
 obtain ⟨⟨hchk, hdist⟩, hng⟩ := hchk
 have hchk' := hchk
 unfold chkN at hchk'
 simp only [Bool.and_eq_true, decide_eq_true_eq, List.all_eq_true, List.mem_range] at hchk'
 obtain ⟨hn, hall⟩ := hchk'
 have hlen : (dsts ops n).length = n := by unfold dsts; rw [List.length_map, List.length_take, Array.length_toList]; omega
 have h := wp_region_invF (id := id) (Q := Q) (w := w) F F0 (fun u => putU a (dsts ops n) 0 u) R G hm hchk (valsOf a (dsts ops n)) (hG0 _) h00 hF0 hmono ?_ ?_ hfin
 · rw [putU_self a (dsts ops n) 0 _ fun i _ => by rw [Nat.zero_add]] at h
   exact h
 · intro i o hi ho u v
   have hil : i < (dsts ops n).length := by omega
   have e : (dsts ops n)[i] = o.dst := by
    obtain ⟨hx, he⟩ := Array.getElem?_eq_some_iff.1 ho
    simp only [dsts, List.getElem_map, List.getElem_take]
    rw [← he]; rfl
   have := putU_upd (dsts ops n) a 0 i hil u v hdist
   rw [e, Nat.zero_add] at this
   exact this
 · intro i o hi ho listed u w' h1 h2 h3 h4 h5 K hK
   have hg : o.guard = none := by
    unfold noGuards at hng
    rw [List.all_eq_true] at hng
    obtain ⟨hx, he⟩ := Array.getElem?_eq_some_iff.1 ho
    have hmem : o ∈ ops.toList.take n := by
     rw [List.mem_take_iff_getElem]
     refine ⟨i, by rw [Array.length_toList]; omega, ?_⟩
     rw [← he]; rfl
    simpa using hng o hmem
   have hw : Region.wanted o (yielded ops (putU a (dsts ops n) 0 u).tmps) = true := by simp [Region.wanted, hg]
   rw [if_pos hw]
   exact hstep i o ho hi listed u w' h1 h2 h3 h4 h5 K hK
theorem wp_region_put {id : Nat} {a : Act} {w : World} (n : Nat) (ds : List (Option Nat)) (R : Nat → Value → World → Prop) (G : Array Bool → (Nat → Value) → World → Prop) (hm : P.follows .mixedOrders = true) (hds : dsts ops n = ds) (hchk : (chkN .any ops n && distD ds && noGuards ops n) = true) (hG0 : ∀ u, G (Array.replicate ops.size false) u w.drew)
 (hmono : ∀ j v w w', Chg [] w w' → R j v w → R j v w')
 (hstep : ∀ i o, ops[i]? = some o → i < n → ∀ listed u w', listed.getD i false = false → (∀ j, j < n → listed.getD j false = true → R j (u j) w') → (∀ d, awaits .any ops ops.size i d = true → d < n → R d (u d) w') → Chg [] w.drew w' → G listed u w' →
  ∀ K : Act → World → Prop, (∀ v w'', Chg [] w' w'' → R i v w'' → G (listed.setIfInBounds i true) (updV u i v) w'' → K ((putU a ds 0 u).put o.dst v) w'') → Oper.wp P o (putU a ds 0 u) w' K Q)
 (hfin : ∀ u w', Chg [] w.drew w' → (∀ j, j < n → R j (u j) w') → G (lastN n ops.size) u w' → anyU P .any ops Q (fun _ => True) (fun _ => True) 0 (ops.size - n) (lastN n ops.size) (putU a ds 0 u) w') : (Code.region id ops true).wp P Q a w :=
 wp_region_putF (fun _ => Chg []) (fun w' => Chg [] w.drew w') n ds R G hm hds hchk hG0 (Chg.refl _ _) (fun _ _ _ h k => h.trans k) (fun _ j v w w' _ h k => hmono j v w w' h k) hstep hfin
end
end Go.Proofs.YtjlknaahpjiibaaGreatDoor
