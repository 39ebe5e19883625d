/- JsonrpcConversation: the count, in plain words. -/
import Derived.Test.YtiklgipcgdgkoaaDoorJsU
import Derived.Test.YtiklgipcgdgkoaaDoorJsN
namespace Go.Proofs.YtiklgipcgdgkoaaDoor.Jv
open Go.RowKit Go.ChangeMaps Go.MapKept
set_option linter.unusedVariables false
set_option linter.unusedSimpArgs false
/-- requests, pending jobs, answers with an ID -/
def cR (ts : List Qm) (i : Int) : Nat := ts.countP fun m => decide (m.k = 1) && decide (m.i = i)
def cJ (js : List Jb) (i : Int) : Nat := js.countP fun j => j.2.1 && decide (j.1 = i)
def cA (qs : List Qm) (i : Int) : Nat := qs.countP fun m => decide (m.i = i)
def b2n (b : Bool) : Nat := if b then 1 else 0
theorem cR_snoc (ts : List Qm) (m : Qm) (i : Int) : cR (ts ++ [m]) i = cR ts i + if m.k = 1 ∧ m.i = i then 1 else 0 := by
  unfold cR; rw [List.countP_append, List.countP_singleton]; simp
theorem cR_cons (ts : List Qm) (m : Qm) (i : Int) : cR (m :: ts) i = (if m.k = 1 ∧ m.i = i then 1 else 0) + cR ts i := by
  unfold cR; rw [List.countP_cons]; simp; omega
theorem cJ_snoc (js : List Jb) (j : Jb) (i : Int) : cJ (js ++ [j]) i = cJ js i + if j.2.1 = true ∧ j.1 = i then 1 else 0 := by
  unfold cJ; rw [List.countP_append, List.countP_singleton]; simp
theorem cA_snoc (qs : List Qm) (m : Qm) (i : Int) : cA (qs ++ [m]) i = cA qs i + if m.i = i then 1 else 0 := by
  unfold cA; rw [List.countP_append, List.countP_singleton]; simp
theorem cA_append (qs tc : List Qm) (i : Int) : cA (tc ++ qs) i = cA tc i + cA qs i := by unfold cA; rw [List.countP_append]
theorem cA_erase (tc : List Qm) (k : Nat) (hk : k < tc.length) (i : Int) : cA tc i = cA (tc.eraseIdx k) i + if tc[k].i = i then 1 else 0 := by
  rw [List.eraseIdx_eq_take_drop_succ]
  conv => lhs; rw [← List.take_append_drop k tc, List.drop_eq_getElem_cons hk]
  unfold cA
  rw [List.countP_append, List.countP_append, List.countP_cons]
  simp; omega
theorem cJ_pr {js js' : List Jb} (h : prJ js' = prJ js) (i : Int) : cJ js' i = cJ js i := by
  have e : ∀ l : List Jb, cJ l i = (prJ l).countP fun p => p.2 && decide (p.1 = i) := fun l => by
    unfold cJ prJ
    rw [List.countP_map]
    rfl
  rw [e, e, h]
theorem pr_len' {js js' : List Jb} (h : prJ js' = prJ js) : js'.length = js.length := by
  have := congrArg List.length h
  simpa [prJ] using this
theorem pr_ids {js js' : List Jb} {N : Nat} (h : ∀ j ∈ js, 0 ≤ j.1 ∧ j.1 < (N : Int)) (he : prJ js' = prJ js) : ∀ j ∈ js', 0 ≤ j.1 ∧ j.1 < (N : Int) := by
  intro j hj
  have h1 : (j.1, j.2.1) ∈ prJ js' := List.mem_map.2 ⟨j, hj, rfl⟩
  rw [he] at h1
  obtain ⟨j', hj', e⟩ := List.mem_map.1 h1
  have := h j' hj'
  simp only [Prod.mk.injEq] at e
  rw [← e.1]
  exact this
theorem cJ_ans {js : List Jb} {n : Nat} (hn : n < js.length) (hp : (js.getD n jd).2.1 = true) (i : Int) : cJ (ansJ js n) i + (if (js.getD n jd).1 = i then 1 else 0) = cJ js i := by
  unfold cJ ansJ
  rw [getD_ge hn] at hp ⊢
  rw [List.countP_set hn]
  have hpos : (js[n].1 = i) → 0 < js.countP fun j => j.2.1 && decide (j.1 = i) := fun e => List.countP_pos_iff.2 ⟨js[n], List.getElem_mem hn, by simp [hp, e]⟩
  by_cases he : js[n].1 = i
  · have := hpos he
    simp only [hp, he, decide_true, Bool.and_self, if_true, Bool.false_and, Bool.false_eq_true, if_false]
    omega
  · simp [hp, he]
/-- a message for the server -/
def Qs (N : Nat) (m : Qm) : Prop := (m.k = 1 ∨ m.k = 5) ∧ m.c = 0 ∧ Gd m.k m.i 0 m.t ∧ m.i < (N : Int)
/-- the state of both sides after k steps -/
structure CI (k N : Nat) (es : List (Int × Value)) (js : List Jb) (qs ts tc : List Qm) : Prop where
  n : N ≤ k
  lj : js.length ≤ k
  lq : qs.length + tc.length ≤ k
  lt : ts.length ≤ k
  keys : ∀ p ∈ es, 0 ≤ p.1 ∧ p.1 < (N : Int)
  ids : ∀ j ∈ js, 0 ≤ j.1 ∧ j.1 < (N : Int)
  okT : ∀ m ∈ ts, Qs N m
  okQ : ∀ m ∈ qs, Qk m
  okC : ∀ m ∈ tc, Qk m
  eq : ∀ i : Int, b2n (aget es i).isSome = cR ts i + cJ js i + cA qs i + cA tc i
theorem CI.start : CI 0 0 [] [] [] [] [] := ⟨by simp, by simp, by simp, by simp, by simp, by simp, by simp, by simp, by simp, fun i => by simp [aget, b2n, cR, cJ, cA]⟩
section
variable {k N : Nat} {es : List (Int × Value)} {js : List Jb} {qs ts tc : List Qm}
theorem CI.mono (h : CI k N es js qs ts tc) {k' : Nat} (hk : k ≤ k') : CI k' N es js qs ts tc :=
  ⟨Nat.le_trans h.n hk, Nat.le_trans h.lj hk, Nat.le_trans h.lq hk, Nat.le_trans h.lt hk, h.keys, h.ids, h.okT, h.okQ, h.okC, h.eq⟩
theorem CI.none (h : CI k N es js qs ts tc) {i : Int} (hi : i < 0 ∨ (N : Int) ≤ i) : aget es i = none :=
  aget_eq_none fun p hp e => by have := h.keys p hp; omega
theorem CI.request (h : CI k N es js qs ts tc) (hk : k ≤ 1000) (t : ByteArray) (ht : 1 ≤ t.size ∧ t.size ≤ 60) (hu : u8 t = true) (v : Value) : CI (k + 1) (N + 1) (ups es (N : Nat) v) js qs (ts ++ [⟨1, (N : Nat), 0, t⟩]) tc := by
  have hn := h.n
  have h0 := h.none (i := (N : Nat)) (Or.inr (by omega))
  refine ⟨by omega, by have := h.lj; omega, by have := h.lq; omega, by rw [List.length_append]; have := h.lt; simpa using this, ?_, fun j hj => by have := h.ids j hj; omega, ?_, h.okQ, h.okC, fun i => ?_⟩
  · intro p hp
    rcases mem_ups hp with rfl | hp
    · simp only; omega
    · have := h.keys p hp; omega
  · intro m hm
    rcases List.mem_append.1 hm with hm | hm
    · obtain ⟨h1, h2, h3, h4⟩ := h.okT m hm
      exact ⟨h1, h2, h3, by omega⟩
    · rw [List.mem_singleton.1 hm]
      exact ⟨Or.inl rfl, rfl, ⟨by simp only; omega, Or.inl ⟨rfl, rfl, ht.1, ht.2, hu⟩⟩, by simp only; omega⟩
  · rw [aget_ups, cR_snoc]
    have he := h.eq i
    by_cases hi : ((N : Nat) : Int) = i
    · subst hi
      rw [h0] at he
      simp [b2n] at he ⊢
      omega
    · rw [if_neg hi, if_neg (by simp only; omega)]; omega
theorem CI.cancel (h : CI k N es js qs ts tc) (hk : k ≤ 1000) {x : Int} (hx : aget es x ≠ .none) (v : Value) : CI (k + 1) N (ups es x v) js qs (ts ++ [⟨5, x, 0, ⟨#[]⟩⟩]) tc := by
  have hn := h.n
  have hxb : 0 ≤ x ∧ x < (N : Int) := by
    refine ⟨Int.not_lt.1 fun h1 => hx (h.none (Or.inl h1)), Int.not_le.1 fun h1 => hx (h.none (Or.inr h1))⟩
  refine ⟨by omega, by have := h.lj; omega, by have := h.lq; omega, by rw [List.length_append]; have := h.lt; simpa using this, ?_, h.ids, ?_, h.okQ, h.okC, fun i => ?_⟩
  · intro p hp
    rcases mem_ups hp with rfl | hp
    · exact hxb
    · exact h.keys p hp
  · intro m hm
    rcases List.mem_append.1 hm with hm | hm
    · exact h.okT m hm
    · rw [List.mem_singleton.1 hm]
      exact ⟨Or.inr rfl, rfl, ⟨⟨hxb.1, by show x ≤ 2147483647; omega⟩, Or.inr (Or.inr ⟨Or.inr rfl, rfl, rfl⟩)⟩, hxb.2⟩
  · rw [aget_ups, cR_snoc, show (if ((⟨5, x, 0, ⟨#[]⟩⟩ : Qm).k = 1 ∧ (⟨5, x, 0, ⟨#[]⟩⟩ : Qm).i = i) then 1 else 0) = 0 from if_neg (fun h => absurd (show (5 : Int) = 1 from h.1) (by decide))]
    have he := h.eq i
    by_cases hi : x = i
    · subst hi
      rw [if_pos rfl]
      cases e : aget es x with
      | none => exact absurd e hx
      | some y =>
        rw [e] at he
        simpa [b2n] using he
    · rw [if_neg hi]; omega
theorem CI.recv (h : CI k N es js qs ts tc) {m : Qm} {ts' : List Qm} (hm : ts = m :: ts') {js' : List Jb} {qs' : List Qm} (hN : RcN m.k js qs m.i js' qs') : CI (k + 1) N es js' qs' ts' tc := by
  subst hm
  have hm0 := h.okT m List.mem_cons_self
  have hlt := h.lt
  rw [List.length_cons] at hlt
  have hokT : ∀ m ∈ ts', Qs N m := fun m' hm' => h.okT m' (List.mem_cons_of_mem _ hm')
  have hids : 0 ≤ m.i ∧ m.i < (N : Int) := ⟨hm0.2.2.1.1.1, hm0.2.2.2⟩
  rcases hN with ⟨h1, hS⟩ | ⟨h1, hp, rfl⟩
  · rcases hS with ⟨rfl, rfl⟩ | ⟨rfl, m', rfl, hmi, hk⟩
    · refine ⟨by have := h.n; omega, by rw [List.length_append]; have := h.lj; simpa using this, by have := h.lq; omega, by omega, h.keys, ?_, hokT, h.okQ, h.okC, fun i => ?_⟩
      · intro j hj
        rcases List.mem_append.1 hj with hj | hj
        · exact h.ids j hj
        · rw [List.mem_singleton.1 hj]; exact hids
      · rw [h.eq i, cR_cons, cJ_snoc]
        by_cases hi : m.i = i
        · simp [h1, hi]; omega
        · simp [h1, hi]
    · refine ⟨by have := h.n; omega, by have := h.lj; omega, by rw [List.length_append]; have := h.lq; simp; omega, by omega, h.keys, h.ids, hokT, ?_, h.okC, fun i => ?_⟩
      · intro q hq
        rcases List.mem_append.1 hq with hq | hq
        · exact h.okQ q hq
        · rw [List.mem_singleton.1 hq]; exact hk
      · rw [h.eq i, cR_cons, cA_snoc, hmi]
        by_cases hi : m.i = i
        · simp [h1, hi]; omega
        · simp [h1, hi]
  · refine ⟨by have := h.n; omega, by have := pr_len' hp; have := h.lj; omega, by have := h.lq; omega, by omega, h.keys, pr_ids h.ids hp, hokT, h.okQ, h.okC, fun i => ?_⟩
    rw [h.eq i, cR_cons, cJ_pr hp, if_neg (by omega)]
    omega
theorem CI.ans (h : CI k N es js qs ts tc) {x : Int} {js' : List Jb} {qs' : List Qm} (hN : AnN js qs x js' qs') : CI (k + 1) N es js' qs' ts tc := by
  rcases hN with ⟨_, rfl, rfl⟩ | ⟨n, m, rfl, hn, hp, rfl, rfl, hmi, hk⟩
  · exact h.mono (by omega)
  · refine ⟨by have := h.n; omega, by unfold ansJ; rw [List.length_set]; have := h.lj; omega, by rw [List.length_append]; have := h.lq; simp; omega, by have := h.lt; omega, h.keys, ?_, h.okT, ?_, h.okC, fun i => ?_⟩
    · intro j hj
      unfold ansJ at hj
      rcases List.mem_or_eq_of_mem_set hj with hj | rfl
      · exact h.ids j hj
      · rw [getD_ge hn]
        have := h.ids js[n] (List.getElem_mem hn)
        exact this
    · intro q hq
      rcases List.mem_append.1 hq with hq | hq
      · exact h.okQ q hq
      · rw [List.mem_singleton.1 hq]; exact hk
    · rw [h.eq i, cA_snoc, hmi, ← cJ_ans hn hp i]
      omega
theorem CI.flush (h : CI k N es js qs ts tc) : CI k N es js [] ts (tc ++ qs) := by
  refine ⟨h.n, h.lj, by rw [List.length_append]; have := h.lq; simp; omega, h.lt, h.keys, h.ids, h.okT, by simp, ?_, fun i => ?_⟩
  · intro q hq
    rcases List.mem_append.1 hq with hq | hq
    · exact h.okC q hq
    · exact h.okQ q hq
  · rw [h.eq i, cA_append]
    simp [cA]; omega
theorem CI.waits (h : CI k N es js qs ts tc) {n : Nat} (hn : n < tc.length) : aget es tc[n].i ≠ .none := by
  intro e
  have he := h.eq tc[n].i
  have h2 : 0 < cA tc tc[n].i := List.countP_pos_iff.2 ⟨tc[n], List.getElem_mem hn, by simp⟩
  rw [e] at he
  simp [b2n] at he
  omega
theorem CI.got (h : CI k N es js qs ts tc) {n : Nat} (hn : n < tc.length) : CI k N (adel es tc[n].i) js qs ts (tc.eraseIdx n) := by
  refine ⟨h.n, h.lj, by rw [List.length_eraseIdx]; have := h.lq; split <;> omega, h.lt, fun p hp => h.keys p (mem_adel hp).1, h.ids, h.okT, h.okQ, fun m hm => h.okC m (List.mem_of_mem_eraseIdx hm), fun i => ?_⟩
  rw [aget_adel]
  have he := h.eq i
  have h1 := h.waits hn
  rw [cA_erase tc n hn i] at he
  by_cases hi : tc[n].i = i
  · rw [hi] at h1
    rw [if_pos hi] at he ⊢
    cases e : aget es i with
    | none => exact absurd e h1
    | some y =>
      rw [e] at he
      simp [b2n] at he ⊢
      omega
  · rw [if_neg hi] at he ⊢
    omega
/-- both sides are done -/
theorem CI.done (h : CI k N es js [] [] []) (hj : pendF 0 js = []) : es = [] := by
  have hJ : ∀ (l : List Jb) (q : Nat) (i : Int), pendF q l = [] → cJ l i = 0 := by
    intro l
    induction l with
    | nil => intro q i _; rfl
    | cons j l ih =>
      intro q i hq
      rw [pendF] at hq
      split at hq
      · cases hq
      · rename_i hf
        have h2 := ih (q + 1) i hq
        unfold cJ at h2 ⊢
        rw [List.countP_cons, h2]
        simp [hf]
  cases es with
  | nil => rfl
  | cons p r =>
    have he := h.eq p.1
    rw [hJ js 0 p.1 hj, aget_cons, if_pos rfl] at he
    simp [b2n, cR, cA] at he
end
end Go.Proofs.YtiklgipcgdgkoaaDoor.Jv
