/- File events, plain: Apply and Consistent over maps; the law of the files. -/
import Derived.Test.YtdekngkcojfhmaaFwPlainC
namespace Go.Proofs.Ytdekngkcojfhmaa
set_option linter.unusedVariables false
set_option linter.unusedSimpArgs false
abbrev Fm := List (ByteArray × Int)
def exM (F : List ByteArray) : Fm := F.foldl (fun M f => ups M f 1) []
def apS (M : Fm) (e : FEv) : Fm := if e.2.2 = 1 ∨ e.2.2 = 2 then ups M e.2.1 1 else if e.2.2 = 3 then adel M e.2.1 else M
def apM (M : Fm) (E : List FEv) : Fm := E.foldl apS M
def apL (F : List ByteArray) (E : List FEv) : List ByteArray := srt ((apM (exM F) E).map (·.1))
/-- the loop of Consistent: false as soon as an event cannot occur -/
def coM : Fm → List FEv → Bool
  | _, [] => true
  | M, e :: r => if vk e.2.2 then (if (decide ((aget M e.2.1).getD 0 ≠ 0) == decide (e.2.2 = 1)) then false else coM (ups M e.2.1 (if e.2.2 = 3 then 0 else 1)) r) else coM M r
theorem co_iff : ∀ (E : List FEv) (M : Fm), Vk E → (coM M E = true ↔ ∀ p, cp p (decide ((aget M p).getD 0 ≠ 0)) E) := by
  intro E
  induction E with
  | nil => intro M _; simp [coM, cp]
  | cons e E ih =>
    intro M hv
    have hve := hv e (by simp)
    have hvk : vk e.2.2 = true := by unfold vk; simpa using hve
    have hst : ∀ p, decide ((aget (ups M e.2.1 (if e.2.2 = 3 then 0 else 1)) p).getD 0 ≠ 0) = if e.2.1 = p then decide (e.2.2 ≠ 3) else decide ((aget M p).getD 0 ≠ 0) := by
      intro p
      rw [aget_ups]
      by_cases hp : e.2.1 = p
      · simp only [if_pos hp, Option.getD_some]
        by_cases h3 : e.2.2 = 3 <;> simp [h3]
      · simp only [if_neg hp]
    unfold coM
    rw [if_pos hvk]
    simp only [cp]
    by_cases hc : (decide ((aget M e.2.1).getD 0 ≠ 0) == decide (e.2.2 = 1)) = true
    · rw [if_pos hc]
      simp only [Bool.false_eq_true, false_iff]
      intro h
      have := (h e.2.1).1 rfl
      rw [beq_iff_eq] at hc
      rw [hc] at this
      simp at this
    · rw [if_neg hc, ih _ (fun x hx => hv x (by simp [hx]))]
      constructor
      · intro h p
        refine ⟨fun hp => ?_, by have := h p; rwa [hst p] at this⟩
        subst hp
        by_cases h0 : (aget M e.2.1).getD 0 = 0 <;> by_cases h1 : e.2.2 = 1 <;> simp [h0, h1] at hc ⊢
      · intro h p
        rw [hst p]
        exact (h p).2
theorem ap_get : ∀ (E : List FEv) (M : Fm) (p : ByteArray), Vk E → (aget (apM M E) p).isSome = rp p (aget M p).isSome E := by
  intro E
  induction E with
  | nil => intro M p _; rfl
  | cons e E ih =>
    intro M p hv
    have hve := hv e (by simp)
    have hs : (aget (apS M e) p).isSome = if e.2.1 = p then decide (e.2.2 ≠ 3) else (aget M p).isSome := by
      unfold apS
      split
      · rename_i h
        rw [aget_ups]
        split
        · rcases h with h | h <;> simp [h]
        · rfl
      · rw [if_pos (by omega), aget_adel]
        have h3 : e.2.2 = 3 := by omega
        split
        · simp [h3]
        · rfl
    have := ih (apS M e) p (fun x hx => hv x (by simp [hx]))
    show (aget (apM (apS M e) E) p).isSome = _
    rw [this, hs]; rfl
theorem ups_nodup {V : Type} {es : List (ByteArray × V)} (h : (es.map (·.1)).Nodup) (x : ByteArray) (v : V) : ((ups es x v).map (·.1)).Nodup := by
  induction es with
  | nil => simp [ups]
  | cons q r ih =>
    rw [List.map_cons, List.nodup_cons] at h
    unfold ups
    split
    · rename_i hq
      rw [List.map_cons, List.nodup_cons]
      exact ⟨by rw [← hq]; exact h.1, h.2⟩
    · rename_i hq
      rw [List.map_cons, List.nodup_cons]
      refine ⟨fun hm => ?_, ih h.2⟩
      obtain ⟨y, hy, hye⟩ := List.mem_map.1 hm
      have hg := aget_of_mem (ih h.2) (show (y.1, y.2) ∈ ups r x v from hy)
      rw [aget_ups] at hg
      split at hg
      · rename_i hxy; exact hq (by rw [← hye, ← hxy])
      · exact h.1 (List.mem_map.2 ⟨_, aget_mem hg, hye⟩)
theorem adel_nodup {V : Type} {es : List (ByteArray × V)} (h : (es.map (·.1)).Nodup) (x : ByteArray) : ((adel es x).map (·.1)).Nodup :=
  h.sublist ((show (adel es x).Sublist es from List.filter_sublist).map _)
theorem exM_nodup (F : List ByteArray) : ((exM F).map (·.1)).Nodup := by
  have : ∀ (F : List ByteArray) (M : Fm), (M.map (·.1)).Nodup → ((F.foldl (fun M f => ups M f 1) M).map (·.1)).Nodup := by
    intro F
    induction F with
    | nil => intro M h; exact h
    | cons f F ih => intro M h; exact ih _ (ups_nodup h _ _)
  exact this F [] (by simp)
theorem apM_nodup : ∀ (E : List FEv) (M : Fm), (M.map (·.1)).Nodup → ((apM M E).map (·.1)).Nodup := by
  intro E
  induction E with
  | nil => intro M h; exact h
  | cons e E ih =>
    intro M h
    refine ih _ ?_
    unfold apS
    split
    · exact ups_nodup h _ _
    · split
      · exact adel_nodup h _
      · exact h
theorem exM_val (F : List ByteArray) (p : ByteArray) : decide ((aget (exM F) p).getD 0 ≠ 0) = (aget (exM F) p).isSome := by
  have : ∀ (F : List ByteArray) (M : Fm), (∀ v, aget M p = some v → v = 1) → ∀ v, aget (F.foldl (fun M f => ups M f 1) M) p = some v → v = 1 := by
    intro F
    induction F with
    | nil => intro M h; exact h
    | cons f F ih =>
      intro M h
      refine ih _ fun v hv => ?_
      rw [aget_ups] at hv
      split at hv
      · simpa using hv.symm
      · exact h v hv
  have h := this F [] (by simp [aget_nil])
  change ∀ v, aget (exM F) p = some v → v = 1 at h
  cases ha : aget (exM F) p with
  | none => rfl
  | some v => rw [h v ha]; rfl
theorem mem_some {V : Type} {es : List (ByteArray × V)} (h : (es.map (·.1)).Nodup) (p : ByteArray) : p ∈ es.map (·.1) ↔ (aget es p).isSome = true := by
  constructor
  · intro h'
    obtain ⟨q, hq, rfl⟩ := List.mem_map.1 h'
    rw [aget_of_mem h (show (q.1, q.2) ∈ es from hq)]; rfl
  · intro h'
    obtain ⟨e, he⟩ := Option.isSome_iff_exists.1 h'
    exact List.mem_map.2 ⟨_, aget_mem he, rfl⟩
theorem nb_vk {G : List FEv} (hv : Vk G) : Vk (nbE G) := by
  intro e he
  obtain ⟨h1, h2⟩ := (nb_mem G e).1 he
  have hk := ((mgd_get G e.2.1).1 e h1).2.1
  have hb : ∀ (G : List FEv) (p : ByteArray), 0 ≤ kof G p ∧ kof G p ≤ 3 := by
    intro G p
    refine snocInd (p := fun G => 0 ≤ kof G p ∧ kof G p ≤ 3) (by simp [kof]) ?_ G
    intro L x ih
    rw [kof_snoc]
    split
    · unfold mrg vk
      simp only [decide_eq_true_eq]
      repeat' split
      all_goals omega
    · exact ih
  have := hb G e.2.1
  omega
theorem bat_vk (d : Int) : ∀ (rest G : List FEv), Vk (G ++ rest) → Vk ((bat d G rest).flatMap (·.2)) := by
  intro rest
  induction rest with
  | nil => intro G _ e he; simp [bat] at he
  | cons x rest ih =>
    intro G hv
    unfold bat
    split
    · exact ih (G ++ [x]) (by simpa using hv)
    · intro e he
      rw [List.flatMap_append] at he
      rcases List.mem_append.1 he with he | he
      · refine nb_vk (G := G ++ [x]) (fun e' he' => hv e' ?_) e ?_
        · rcases List.mem_append.1 he' with h | h
          · simp [h]
          · rw [List.mem_singleton.1 h]; simp
        · split at he
          · simp at he
          · simpa using he
      · exact ih [] (fun e' he' => hv e' (by simp at he'; simp [he'])) e he
theorem files_law (F : List ByteArray) (E : List FEv) (d : Int) (hv : Vk E) (hc : coM (exM F) E = true) :
    apL F E = apL F ((bat d [] E).flatMap (·.2)) ∧ coM (exM F) ((bat d [] E).flatMap (·.2)) = true := by
  have hvD := bat_vk d E [] hv
  have hcp := (co_iff E (exM F) hv).1 hc
  have hk := fun p => bat_keeps p d E [] (decide ((aget (exM F) p).getD 0 ≠ 0)) (fun _ => rfl) hv (hcp p)
  refine ⟨?_, (co_iff _ _ hvD).2 fun p => (hk p).2⟩
  unfold apL
  refine srt_congr ?_
  have n1 := apM_nodup E _ (exM_nodup F)
  have n2 := apM_nodup ((bat d [] E).flatMap (·.2)) _ (exM_nodup F)
  refine (List.perm_ext_iff_of_nodup n1 n2).2 fun p => ?_
  rw [mem_some n1, mem_some n2, ap_get _ _ _ hv, ap_get _ _ _ hvD, ← exM_val, (hk p).1]
  rfl
end Go.Proofs.Ytdekngkcojfhmaa
