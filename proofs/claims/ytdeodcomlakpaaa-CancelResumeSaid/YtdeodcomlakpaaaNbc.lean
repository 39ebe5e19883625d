/- Early cutoff (plain). -/
import Derived.Test.YtdeodcomlakpaaaNbb
import Derived.Test.YtdeodcomlakpaaaGn
namespace Go.Proofs.Ytdeodcomlakpaaa
open Go.RowKit
set_option linter.unusedVariables false
set_option linter.unusedSimpArgs false
variable {p : Prg}
/-- an evaluation that nobody stops, as steps -/
theorem RunP.steps (hp : PrgOk p) {n : Nat} {s : PS} {ins : List Int} (h : RunP p n s ins) {q : Nat} (hq : q < p.qs.length) {s' : PS} (hu : upQ p (fun _ => false) s (qk q) = (.ok (), s')) :
    ∃ ins', UpdR p ins' p.qs.length true s q s' ∧ ∀ q' : Nat, q' < p.qs.length → val p ins' q' = val p ins q' ∧ reads p ins' q' = reads p ins q' := by
  obtain ⟨H, hI⟩ := h.inv
  exact ⟨insH p H s.rev, ((big_UQ (ins := insH p H s.rev) (stp := fun _ => false) hp p.qs.length) s q hq hq hI rfl (idl_none h.act _)).1 s' hu, fun q' hq' => val_now hp hI h.inp hq'⟩
theorem RunP.stp (hp : PrgOk p) {n : Nat} {s : PS} {ins : List Int} (h : RunP p n s ins) {q : Nat} (hq : q < p.qs.length) : ∃ H s' r, upQ p (fun _ => false) s (qk q) = (.ok (), s') ∧ Stp p H (q + 1) s s' ∧ aget s'.es (qk q) = some r ∧ r.ver = s.rev := by
  obtain ⟨H, hI⟩ := h.inv
  obtain ⟨s', r, h1, h2, h3, h4, _⟩ := getI hp hI h.act hq
  exact ⟨H, s', r, h1, h2, h3, h4⟩
theorem RunP.chg {n : Nat} {s : PS} {ins : List Int} (h : RunP p n s ins) {q : Nat} {r : RV} (hr : aget s.es (qk q) = some r) : r.chg ≤ r.ver ∧ r.ver ≤ s.rev := by
  obtain ⟨H, hI⟩ := h.inv
  exact ⟨(hI.res q r hr).chg, (hI.res q r hr).ver⟩
/-- a change at durability 0 -/
theorem set0 {s : PS} {k : QK} {xs : List Int} (hdu : (s.inp k).du = 0) :
    (∀ k', ((setP s k xs 0).inp k').xs = if k = k' then xs else (s.inp k').xs) ∧ (∀ k', k ≠ k' → (setP s k xs 0).inp k' = s.inp k') ∧ ((setP s k xs 0).inp k).du = 0 ∧ ((s.inp k).ch ≤ s.rev → ((setP s k xs 0).inp k).ch ≤ (setP s k xs 0).rev) ∧
      (setP s k xs 0).es = s.es ∧ (setP s k xs 0).l1 = s.l1 ∧ (setP s k xs 0).l2 = s.l2 ∧ s.rev ≤ (setP s k xs 0).rev ∧ ((s.inp k).xs = xs → setP s k xs 0 = s) := by
  by_cases hno : (s.inp k).du = 0 ∧ (s.inp k).xs = xs
  · have e : setP s k xs 0 = s := by unfold setP; rw [if_pos hno]
    rw [e]
    refine ⟨fun k' => ?_, fun _ _ => rfl, hdu, id, rfl, rfl, rfl, Int.le_refl _, fun _ => rfl⟩
    split
    · rename_i h; rw [← h]; exact hno.2
    · rfl
  · have hi := inp_set hno
    have he : (setP s k xs 0).es = s.es ∧ (setP s k xs 0).l1 = s.l1 ∧ (setP s k xs 0).l2 = s.l2 ∧ (setP s k xs 0).rev = s.rev + 1 := by
      unfold setP
      rw [if_neg hno, hdu]
      exact ⟨rfl, rfl, rfl, rfl⟩
    refine ⟨fun k' => ?_, fun k' hk => ?_, ?_, fun _ => ?_, he.1, he.2.1, he.2.2.1, by rw [he.2.2.2]; omega, fun h => absurd ⟨hdu, h⟩ hno⟩
    · rw [hi]; split <;> rfl
    · rw [hi, if_neg hk]
    · rw [hi, if_pos rfl]
    · rw [hi, if_pos rfl, he.2.2.2]; exact Int.le_refl _
/-- the inputs are set one by one, nothing is computed yet -/
structure EA (p : Prg) (n : Nat) (s : PS) (row : List Int) (m : Nat) : Prop where
  run : ∃ insd, RunP p n s insd ∧ (insd.length : Int) = p.inp
  d0 : D0 s
  es : s.es = []
  du : ∀ k, (s.inp k).du = 0
  ch : ∀ k, (s.inp k).ch ≤ s.rev
  xs : ∀ j, j < m → (s.inp (0, (j : Int), 0)).xs = [row.getD j 0]
theorem EA.empty (hp : PrgOk p) (row : List Int) : EA p 0 PS.empty row 0 :=
  ⟨⟨_, RunP.empty p, by have := hp.inp; simp; omega⟩, ⟨rfl, rfl, Int.le_refl _, fun k => Int.le_refl _, fun k r h => by simp [PS.empty, aget_nil] at h⟩, rfl, fun k => rfl, fun k => Int.le_refl _, fun j hj => by omega⟩
theorem D0.set {s : PS} (h : D0 s) {k : QK} {xs : List Int} (hdu : (s.inp k).du = 0) : D0 (setP s k xs 0) := by
  obtain ⟨e1, e2, e3, e4, e5, e6, e7, e8, e9⟩ := set0 (xs := xs) hdu
  have hr := h.rev
  refine ⟨e6.trans h.l1, e7.trans h.l2, by omega, fun k' => ?_, fun k' r hr' => h.es k' r (by rw [← e5]; exact hr')⟩
  by_cases e : k = k'
  · subst e; rw [e3]; exact Int.le_refl _
  · rw [e2 k' e]; exact h.inp k'
theorem EA.set {n : Nat} {s : PS} {row : List Int} {m : Nat} (h : EA p n s row m) (hm : (m : Int) < p.inp) (hl : m < row.length) (v : Int) : EA p (n + 1) (setP s (0, (m : Int), 0) [v] 0) (row.set m v) (m + 1) := by
  obtain ⟨insd, hr, hil⟩ := h.run
  obtain ⟨e1, e2, e3, e4, e5, e6, e7, e8, e9⟩ := set0 (xs := [v]) (h.du (0, (m : Int), 0))
  refine ⟨⟨_, hr.set m v 0 hm hil ⟨by omega, by omega⟩, by rw [List.length_set]; exact hil⟩, h.d0.set (h.du _), e5.trans h.es, fun k => ?_, fun k => ?_, fun j hj => ?_⟩
  · by_cases e : (0, (m : Int), 0) = k
    · subst e; exact e3
    · rw [e2 k e]; exact h.du k
  · by_cases e : (0, (m : Int), 0) = k
    · subst e; exact e4 (h.ch _)
    · rw [e2 k e]; have := h.ch k; omega
  · rw [e1]
    by_cases e : m = j
    · subst e
      rw [if_pos rfl, List.getD_eq_getElem?_getD, List.getElem?_set_self hl]
      rfl
    · rw [if_neg (fun h => e (by simp only [Prod.mk.injEq] at h; omega)), h.xs j (by omega), List.getD_eq_getElem?_getD, List.getD_eq_getElem?_getD, List.getElem?_set_ne e]
theorem EA.runP {n : Nat} {s : PS} {row : List Int} {N : Nat} (h : EA p n s row N) (hN : p.inp = N) : RunP p n s row := by
  obtain ⟨insd, hr, hil⟩ := h.run
  exact ⟨hr.inv, hr.act, fun j hj => by rw [h.xs j (by omega)]; rfl, hr.us, hr.ct, hr.clk, hr.rev⟩
/-- behind the change -/
structure EC (p : Prg) (n : Nat) (s : PS) (insA insB : List Int) (q : Nat) (r1 : RV) (done : List QK) : Prop where
  run : RunP p n s insB
  d0 : D0 s
  r : aget s.es (qk q) = some r1
  deps : r1.deps = reads p insA q
  old : ∀ q', qk q' ∈ r1.deps → val p insA q' = val p insB q' → ∃ r', aget s.es (qk q') = some r' ∧ r'.chg ≤ r1.ver ∧ r'.xs = [val p insB q']
  upd : ∀ q', qk q' ∈ done → ∃ r', aget s.es (qk q') = some r' ∧ r'.ver = s.rev
  inp : ∀ j : Nat, (0, (j : Int), 0) ∈ r1.deps → insA.getD j 0 = insB.getD j 0 → (s.inp (0, (j : Int), 0)).ch ≤ r1.ver
theorem D0.idle {s : PS} (h : D0 s) : D0 s.idle := ⟨h.l1, h.l2, h.rev, h.inp, h.es⟩
/-- the first evaluation -/
theorem EA.got (hp : PrgOk p) {n : Nat} {s : PS} {row : List Int} {N : Nat} (h : EA p n s row N) (hN : p.inp = N) (hn : n ≤ 900) {q : Nat} (hq : q < p.qs.length) :
    ∃ s1 r1, upQ p (fun _ => false) s (qk q) = (.ok (), s1) ∧ RunP p (n + 1) s1.idle row ∧ D0 s1.idle ∧ Fresh p s1.idle row q r1 ∧ (∀ q', qk q' ∈ r1.deps → ∃ r', aget s1.idle.es (qk q') = some r' ∧ r'.chg ≤ r1.ver ∧ r'.xs = [val p row q']) ∧ (∀ k, s1.idle.inp k = s.inp k) ∧ s1.idle.rev = s.rev ∧ r1.ver = s.rev := by
  have hR := h.runP hN
  obtain ⟨s1, r1, h1, h2, h3, h4⟩ := hR.got hp (by omega) hq
  obtain ⟨ins', hst, hval⟩ := hR.steps hp hq h1
  have habv := upd_abv _ _ _ _ _ hst
  have hup : AllUp s1 := (allUp_upd _ _ _ _ _ hst).2 fun k r hr => by rw [h.es] at hr; simp [aget_nil] at hr
  have hca := first_upd hst (by rw [h.es]; rfl)
  refine ⟨s1, r1, h1, h4, ((keepC_upd _ _ _ _ _ hst).d h.d0).idle, h3, fun q' hm => ?_, habv.inp, habv.rev, h3.ver.trans habv.rev⟩
  rw [h3.deps, ← (hval q hq).2] at hm
  obtain ⟨r', hr'⟩ := Option.isSome_iff_exists.1 (hca q' hm)
  have hv : r'.ver = s1.idle.rev := hup _ r' hr'
  have hq' : q' < p.qs.length := by
    rw [(hval q hq).2] at hm
    have := sub_lt hp hq hm
    omega
  have hf := h4.fresh hp hq' hr' hv
  exact ⟨r', hr', by have := (h4.chg hr').1; rw [h3.ver, ← hv]; exact this, hf.xs⟩
/-- the change -/
theorem EA.start (hp : PrgOk p) {n : Nat} {s : PS} {row : List Int} {N : Nat} (h : EA p n s row N) (hN : p.inp = N) (hl : row.length = N) {q : Nat} (hq : q < p.qs.length) {s1 : PS} {r1 : RV} {i : Nat} (hi : i < N) (v : Int)
    (hR : RunP p (n + 1) s1.idle row) (hd : D0 s1.idle) (hf : Fresh p s1.idle row q r1) (ho : ∀ q', qk q' ∈ r1.deps → ∃ r', aget s1.idle.es (qk q') = some r' ∧ r'.chg ≤ r1.ver ∧ r'.xs = [val p row q']) (hin : ∀ k, s1.idle.inp k = s.inp k) (hrev : s1.idle.rev = s.rev) (hver : r1.ver = s.rev) :
    EC p (n + 2) (setP s1.idle (0, (i : Int), 0) [v] 0) row (row.set i v) q r1 [] := by
  have hdu : (s1.idle.inp (0, (i : Int), 0)).du = 0 := by rw [hin]; exact h.du _
  obtain ⟨e1, e2, e3, e4, e5, e6, e7, e8, e9⟩ := set0 (xs := [v]) hdu
  refine ⟨hR.set i v 0 (by omega) (by omega) ⟨by omega, by omega⟩, hd.set hdu, by rw [e5]; exact hf.get, hf.deps, fun q' hm hv => ?_, fun q' hm => by simp at hm, fun j hj hv => ?_⟩
  · obtain ⟨r', a1, a2, a3⟩ := ho q' hm
    exact ⟨r', by rw [e5]; exact a1, a2, by rw [← hv]; exact a3⟩
  · by_cases e : i = j
    · subst e
      have hx : (s1.idle.inp (0, (i : Int), 0)).xs = [v] := by
        rw [hin, h.xs i hi, hv, List.getD_eq_getElem?_getD, List.getElem?_set_self (by omega)]
        rfl
      rw [e9 hx, hin, hver]
      exact h.ch _
    · rw [e2 _ (fun h => e (by simp only [Prod.mk.injEq] at h; omega)), hin, hver]
      exact h.ch _
/-- a dependency is asked -/
theorem EC.get (hp : PrgOk p) {n : Nat} {s : PS} {insA insB : List Int} {q : Nat} {r1 : RV} {done : List QK} (h : EC p n s insA insB q r1 done) (hq : q < p.qs.length) (hn : n ≤ 900) {q' : Nat} (hm : qk q' ∈ r1.deps) (hv : val p insA q' = val p insB q') :
    ∃ s', upQ p (fun _ => false) s (qk q') = (.ok (), s') ∧ EC p (n + 1) s'.idle insA insB q r1 (done ++ [qk q']) := by
  have hlt : q' < q := by rw [h.deps] at hm; exact sub_lt hp hq hm
  obtain ⟨H, s', r, h1, h2, h3, h4⟩ := h.run.stp hp (q := q') (by omega)
  obtain ⟨ins', hst, hval⟩ := h.run.steps hp (by omega) h1
  have habv := upd_abv _ _ _ _ _ hst
  have hk := keepC_upd _ _ _ _ _ hst
  have hu := h.run.upd hp (by omega) (fun _ => false) (q := q') (by omega)
  rw [h1] at hu
  refine ⟨s', h1, hu, (hk.d h.d0).idle, (habv.es _ fun x hx e => by have := qk_inj.1 e; omega).trans h.r, h.deps, fun x hx hvx => ?_, fun x hx => ?_, fun j hj hvj => by show (s'.inp _).ch ≤ _; rw [habv.inp]; exact h.inp j hj hvj⟩
  · obtain ⟨r', a1, a2, a3⟩ := h.old x hx hvx
    have hxq : x < p.qs.length := by rw [h.deps] at hx; have := sub_lt hp hq hx; omega
    obtain ⟨r2, b1, b2, b3⟩ := hk.c h.d0 x r' a1 (by rw [a3, (hval x hxq).1])
    exact ⟨r2, b1, by rw [b2]; exact a2, b3.trans a3⟩
  · rcases List.mem_append.1 hx with hx | hx
    · obtain ⟨r', a1, a2⟩ := h.upd x hx
      obtain ⟨r2, b1, b2, _⟩ := h2.up x r' a1 a2
      exact ⟨r2, b1, b2.trans h2.rev.symm⟩
    · have := qk_inj.1 (List.mem_singleton.1 hx)
      subst this
      exact ⟨r, h3, h4.trans h2.rev.symm⟩
/-- the last evaluation -/
theorem EC.last (hp : PrgOk p) {n : Nat} {s : PS} {insA insB : List Int} {q : Nat} {r1 : RV} {done : List QK} (h : EC p n s insA insB q r1 done) (hq : q < p.qs.length) (hd : ∀ q', qk q' ∈ r1.deps → qk q' ∈ done ∧ val p insA q' = val p insB q') (hi : ∀ j : Nat, (0, (j : Int), 0) ∈ r1.deps → insA.getD j 0 = insB.getD j 0) :
    ∃ s' r', upQ p (fun _ => false) s (qk q) = (.ok (), s') ∧ s'.cnt = s.cnt ∧ aget s'.es (qk q) = some r' ∧ r'.chg = r1.chg := by
  obtain ⟨H, s', r, h1, h2, h3, h4⟩ := h.run.stp hp hq
  obtain ⟨ins', hst, hval⟩ := h.run.steps hp hq h1
  have hform : ∀ k ∈ r1.deps, k.1 = 0 ∧ (∃ j : Nat, k = (0, (j : Int), 0)) ∨ ∃ q' : Nat, k = qk q' := fun k hk => by
    rw [h.deps] at hk
    obtain ⟨a, b, c⟩ := k
    rcases reads_in hp _ q hq _ hk with ⟨g0, g1, g2, g3⟩ | ⟨g0, g1, g2, g3⟩
    · simp only at g0 g1 g2 g3
      subst g0 g3
      obtain ⟨j, rfl⟩ := Int.eq_ofNat_of_zero_le g1
      exact .inl ⟨rfl, j, rfl⟩
    · simp only at g0 g1 g2 g3
      subst g0 g3
      obtain ⟨j, rfl⟩ := Int.eq_ofNat_of_zero_le g1
      exact .inr ⟨j, rfl⟩
  obtain ⟨a1, r', a2, a3⟩ := quiet_upd hst h.r (fun k hk => by
    rcases hform k hk with ⟨_, j, rfl⟩ | ⟨q', rfl⟩
    · unfold keyChg
      rw [if_pos rfl]
      exact h.inp j hk (hi j hk)
    · obtain ⟨r', b1, b2, _⟩ := h.old q' hk (hd q' hk).2
      unfold keyChg
      rw [if_neg (by simp), res_get b1]
      exact b2) (fun k hk => (hform k hk).imp And.left id) (fun q' hm => h.upd q' (hd q' hm).1)
  exact ⟨s', r', h1, a1, a2, a3⟩
/-- an input that has not changed -/
theorem EC.skip {n : Nat} {s : PS} {insA insB : List Int} {q : Nat} {r1 : RV} {done : List QK} (h : EC p n s insA insB q r1 done) {k : QK} (hk : k.1 = 0) : EC p (n + 1) s insA insB q r1 (done ++ [k]) := by
  refine ⟨h.run.mono (by omega), h.d0, h.r, h.deps, h.old, fun q' hm => ?_, h.inp⟩
  rcases List.mem_append.1 hm with hm | hm
  · exact h.upd q' hm
  · rw [← List.mem_singleton.1 hm] at hk
    simp at hk
theorem EC.len (hp : PrgOk p) {n : Nat} {s : PS} {insA insB : List Int} {q : Nat} {r1 : RV} {done : List QK} (h : EC p n s insA insB q r1 done) : (reads p insA q).length ≤ 80 := by
  obtain ⟨H, hI⟩ := h.run.inv
  obtain ⟨h1, _, h2, h3⟩ := hI.w.es _ _ h.r
  rw [h.deps] at h2 h3
  exact keys_few (inp := p.inp) (L := p.qs.length) hp.inp.2 hp.size h3 fun k hk => by
    rcases h2 k hk with h | ⟨a, b, c, d⟩
    · exact .inl h
    · have := h1.2.2.1
      exact .inr ⟨a, b, by omega, d⟩
theorem RunP.cntle (hp : PrgOk p) {n : Nat} {s : PS} {ins : List Int} (h : RunP p n s ins) (hn : n ≤ 1000) (stp : PS → Bool) {q : Nat} (hq : q < p.qs.length) : s.cnt ≤ (upQ p stp s (qk q)).2.idle.cnt := by
  obtain ⟨H, hI⟩ := h.inv
  exact (upd_small hp hI h.act h.us h.ct (by have := h.clk; omega) stp hq).2.2.2.2
/-- what every key that has been passed shows -/
def PassK (p : Prg) (insA insB : List Int) (x : QK) : Prop := (∀ j : Nat, x = (0, (j : Int), 0) → insA.getD j 0 = insB.getD j 0) ∧ ∀ q' : Nat, x = qk q' → val p insA q' = val p insB q'
end Go.Proofs.Ytdeodcomlakpaaa
