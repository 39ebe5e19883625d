/- JsonrpcConversation: the law's memory and its moves. -/
import Derived.Test.YtiklgipcgdgkoaaDoorJsV
import Derived.Test.YtiklgipcgdgkoaaDoorJsW
import Derived.Test.YtiklgipcgdgkoaaDoorJsX
namespace Go.Proofs.YtiklgipcgdgkoaaDoor.Jv
open Go.RowKit Go.ChangeMaps Go.MapKept
set_option linter.unusedVariables false
set_option linter.unusedSimpArgs false
theorem pendF_mem : ∀ (js : List Jb) (i : Nat) (x : Int), x ∈ pendF i js ↔ ∃ k, k < js.length ∧ x = ((i + k : Nat) : Int) ∧ (js.getD k jd).2.1 = true
  | [], i, x => by simp [pendF]
  | j :: js, i, x => by
    have ih := pendF_mem js (i + 1) x
    have hs : (∃ k, k < (j :: js).length ∧ x = ((i + k : Nat) : Int) ∧ ((j :: js).getD k jd).2.1 = true) ↔ (x = (i : Int) ∧ j.2.1 = true) ∨ ∃ k, k < js.length ∧ x = ((i + 1 + k : Nat) : Int) ∧ (js.getD k jd).2.1 = true := by
      constructor
      · rintro ⟨k, hk, hx, hp⟩
        cases k with
        | zero => exact Or.inl ⟨by simpa using hx, by simpa using hp⟩
        | succ k => exact Or.inr ⟨k, by simpa using hk, by rw [hx]; omega, by simpa using hp⟩
      · rintro (⟨hx, hp⟩ | ⟨k, hk, hx, hp⟩)
        · exact ⟨0, by simp, by simpa using hx, by simpa using hp⟩
        · exact ⟨k + 1, by simpa using hk, by rw [hx]; omega, by simpa using hp⟩
    rw [hs, pendF]
    split
    · rename_i hj
      rw [List.mem_cons, ih]
      simp [hj]
    · rename_i hj
      rw [ih]
      simp [hj]
theorem pendF_nodup : ∀ (js : List Jb) (i : Nat), (pendF i js).Nodup
  | [], i => by simp [pendF]
  | j :: js, i => by
    rw [pendF]
    split
    · refine List.nodup_cons.2 ⟨fun h => ?_, pendF_nodup js (i + 1)⟩
      obtain ⟨k, _, hx, _⟩ := (pendF_mem js (i + 1) _).1 h
      omega
    · exact pendF_nodup js (i + 1)
/-- the jobs once the first n open ones are answered -/
def Opn (js js' : List Jb) (n : Nat) : Prop := js'.length = js.length ∧ ∀ k, k < js.length → ((js'.getD k jd).2.1 = true ↔ (js.getD k jd).2.1 = true ∧ ((k : Nat) : Int) ∉ (pendF 0 js).take n)
theorem Opn.step {js js' : List Jb} {n : Nat} (h : Opn js js' n) (hn : n < (pendF 0 js).length) : ∃ k : Nat, (pendF 0 js)[n] = k ∧ k < js'.length ∧ ckE js' k = 0 ∧ Opn js (ansJ js' k) (n + 1) := by
  obtain ⟨k, hk, hx, hp⟩ := (pendF_mem js 0 _).1 (List.getElem_mem hn)
  rw [Nat.zero_add] at hx
  have hnd := pendF_nodup js 0
  have hnot : ((k : Nat) : Int) ∉ (pendF 0 js).take n := by
    rw [← hx]
    intro hm
    obtain ⟨q, hq, he⟩ := List.getElem_of_mem hm
    rw [List.length_take] at hq
    rw [List.getElem_take] at he
    exact List.pairwise_iff_getElem.1 hnd q n (by omega) hn (by omega) he
  have hk' : k < js'.length := by rw [h.1]; exact hk
  have hpk := (h.2 k hk).2 ⟨hp, hnot⟩
  refine ⟨k, hx, hk', ?_, by unfold ansJ; rw [List.length_set]; exact h.1, fun q hq => ?_⟩
  · unfold ckE
    rw [if_neg (by omega), Int.toNat_natCast, if_neg]
    show ¬ (js'.getD k jd).2.1 = false
    rw [hpk]; simp
  · rw [List.take_succ_eq_append_getElem hn, hx]
    unfold ansJ
    by_cases hqk : q = k
    · subst hqk
      simp [hk']
    · have e : (js'.set k ((js'.getD k jd).1, false, (js'.getD k jd).2.2)).getD q jd = js'.getD q jd := by
        rw [List.getD_eq_getElem?_getD, List.getElem?_set_ne (Ne.symm hqk), ← List.getD_eq_getElem?_getD]
      rw [e, h.2 q hq]
      constructor
      · rintro ⟨h1, h2⟩
        exact ⟨h1, fun hm => (List.mem_append.1 hm).elim h2 fun hm => hqk (by have := List.mem_singleton.1 hm; omega)⟩
      · rintro ⟨h1, h2⟩
        exact ⟨h1, fun hm => h2 (List.mem_append.2 (Or.inl hm))⟩
theorem Opn.last {js js' : List Jb} (h : Opn js js' (pendF 0 js).length) : pendF 0 js' = [] := by
  rw [List.eq_nil_iff_forall_not_mem]
  intro x hx
  obtain ⟨k, hk, hx, hp⟩ := (pendF_mem js' 0 x).1 hx
  have hk' : k < js.length := by rw [← h.1]; exact hk
  obtain ⟨h1, h2⟩ := (h.2 k hk').1 hp
  rw [List.take_length] at h2
  exact h2 ((pendF_mem js 0 _).2 ⟨k, hk', by rw [Nat.zero_add], h1⟩)
theorem Opn.first (js : List Jb) : Opn js js 0 := ⟨rfl, fun k hk => by simp⟩
/-- the law's memory: a server, a client, two slices of messages -/
structure Cv (w0 w : World) (sb cb mb N : Nat) (es : List (Int × Value)) (js : List Jb) (qs : List Qm) (ta : Option Addr) (tn tp : Nat) (ts : List Qm) (ca : Option Addr) (cn cp : Nat) (tc : List Qm) : Prop where
  srv : ∃ ja jn qa qn, Srv w ⟨sb + 1, fun g => MB ta g ∨ MB ca g⟩ sb ja js.length jn qa qs.length qn js qs
  cli : Cli w cb mb N es
  ts : MsP w ta tn tp ts
  tc : MsP w ca cn cp tc
  tb : ∀ g, MB ta g → sb < g
  ub : ∀ g, MB ca g → sb < g
  ap : ∀ g, MB ta g → ¬ MB ca g
  lo : w0.heap.size ≤ mb ∧ w0.heap.size ≤ cb ∧ cb < sb ∧ mb < sb
  fr : Chg [] w0 w
section
variable {w0 w w' : World} {sb cb mb N : Nat} {es : List (Int × Value)} {js : List Jb} {qs : List Qm} {ta : Option Addr} {tn tp : Nat} {ts : List Qm} {ca : Option Addr} {cn cp : Nat} {tc : List Qm}
theorem Cv.new (h : Cv w0 w sb cb mb N es js qs ta tn tp ts ca cn cp tc) (hc : Chg [] w w') : Cv w0 w' sb cb mb N es js qs ta tn tp ts ca cn cp tc := by
  obtain ⟨ja, jn, qa, qn, hs⟩ := h.srv
  exact ⟨⟨ja, jn, qa, qn, hs.new hc⟩, h.cli.new hc, h.ts.new hc, h.tc.new hc, h.tb, h.ub, h.ap, h.lo, h.fr.trans hc⟩
theorem Cv.fr' {S : Nat → Prop} (h : Cv w0 w sb cb mb N es js qs ta tn tp ts ca cn cp tc) (hc : ChgP S w w') (hS : ∀ g, S g → w0.heap.size ≤ g) : Chg [] w0 w' :=
  (h.fr.toP.comp hc fun g hg => Or.inr (hS g hg)).mono (fun g hg => hg) |>.toL
theorem Cv.sv {js' : List Jb} {qs' : List Qm} (h : Cv w0 w sb cb mb N es js qs ta tn tp ts ca cn cp tc) (hS : SvPost ⟨sb + 1, fun g => MB ta g ∨ MB ca g⟩ sb js' qs' w w') : Cv w0 w' sb cb mb N es js' qs' ta tn tp ts ca cn cp tc := by
  have hlo := h.lo
  refine ⟨hS.1, h.cli.kept hS.2 (fun hs => ?_) (fun hs => ?_), h.ts.kept hS.2 (fun g hg hs => ?_), h.tc.kept hS.2 (fun g hg hs => ?_), h.tb, h.ub, h.ap, h.lo, h.fr' hS.2 fun g hs => ?_⟩
  · rcases hs with hs | ⟨hs, _⟩
    · omega
    · simp only at hs; omega
  · rcases hs with hs | ⟨hs, _⟩
    · omega
    · simp only at hs; omega
  · rcases hs with hs | ⟨hs, _, hx⟩
    · have := h.tb g hg; omega
    · exact hx (Or.inl hg)
  · rcases hs with hs | ⟨hs, _, hx⟩
    · have := h.ub g hg; omega
    · exact hx (Or.inr hg)
  · rcases hs with hs | ⟨hs, _⟩
    · omega
    · simp only at hs; omega
theorem Cv.cl {N' : Nat} {es' : List (Int × Value)} (h : Cv w0 w sb cb mb N es js qs ta tn tp ts ca cn cp tc) (hC : Cli w' cb mb N' es') (hF : ChgP (CF cb mb) w w') : Cv w0 w' sb cb mb N' es' js qs ta tn tp ts ca cn cp tc := by
  have hlo := h.lo
  obtain ⟨ja, jn, qa, qn, hs⟩ := h.srv
  refine ⟨⟨ja, jn, qa, qn, hs.kept hF fun g hg => ?_⟩, hC, h.ts.kept hF (fun g hg hs => ?_), h.tc.kept hF (fun g hg hs => ?_), h.tb, h.ub, h.ap, h.lo, h.fr' hF fun g hs => ?_⟩
  · rcases hg with rfl | rfl
    · exact ⟨by omega, not_jq h.cli.box (by decide)⟩
    · refine ⟨by omega, ?_⟩
      rintro ⟨cs, T, fr, hb, _⟩
      obtain ⟨_, _, hm, _⟩ := h.cli.map
      rw [hm] at hb
      cases hb
  · have := h.tb g hg
    rcases hs with rfl | rfl <;> omega
  · have := h.ub g hg
    rcases hs with rfl | rfl <;> omega
  · rcases hs with rfl | rfl <;> omega
theorem Cv.setT {ta' : Option Addr} {tn' tp' : Nat} {ts' : List Qm} (h : Cv w0 w sb cb mb N es js qs ta tn tp ts ca cn cp tc) (hP : ApPost ta w w' ta' tn' tp' ts') : Cv w0 w' sb cb mb N es js qs ta' tn' tp' ts' ca cn cp tc := by
  obtain ⟨hM, hF, hB⟩ := hP
  have hlo := h.lo
  obtain ⟨ja, jn, qa, qn, hs⟩ := h.srv
  have hsl := lt_of_obj hs.box
  have htc := h.tc.kept hF (fun g hg hs => h.ap g hs hg)
  refine ⟨⟨ja, jn, qa, qn, hs.reX hF (fun g hg => ⟨by have := h.tb g hg; omega, Or.inl hg⟩) fun g hg => ?_⟩, h.cli.kept hF (fun hs => by have := h.tb _ hs; omega) (fun hs => by have := h.tb _ hs; omega), hM, htc, fun g hg => ?_, h.ub, fun g hg hg' => ?_, h.lo, h.fr' hF fun g hs => by have := h.tb g hs; omega⟩
  · rcases hg with hg | hg
    · refine ⟨hM.lt hg, ?_⟩
      rcases hB g hg with hb | hb
      · exact Or.inl (Or.inl hb)
      · exact Or.inr hb.1
    · exact ⟨htc.lt hg, Or.inl (Or.inr hg)⟩
  · rcases hB g hg with hb | hb
    · exact h.tb g hb
    · omega
  · rcases hB g hg with hb | hb
    · exact h.ap g hb hg'
    · have := h.tc.lt hg'; omega
theorem Cv.setC {ca' : Option Addr} {cn' cp' : Nat} {tc' : List Qm} (h : Cv w0 w sb cb mb N es js qs ta tn tp ts ca cn cp tc) (hP : ApPost ca w w' ca' cn' cp' tc') : Cv w0 w' sb cb mb N es js qs ta tn tp ts ca' cn' cp' tc' := by
  obtain ⟨hM, hF, hB⟩ := hP
  have hlo := h.lo
  obtain ⟨ja, jn, qa, qn, hs⟩ := h.srv
  have hsl := lt_of_obj hs.box
  have hts := h.ts.kept hF (fun g hg hs => h.ap g hg hs)
  refine ⟨⟨ja, jn, qa, qn, hs.reX hF (fun g hg => ⟨by have := h.ub g hg; omega, Or.inr hg⟩) fun g hg => ?_⟩, h.cli.kept hF (fun hs => by have := h.ub _ hs; omega) (fun hs => by have := h.ub _ hs; omega), hts, hM, h.tb, fun g hg => ?_, fun g hg hg' => ?_, h.lo, h.fr' hF fun g hs => by have := h.ub g hs; omega⟩
  · rcases hg with hg | hg
    · exact ⟨hts.lt hg, Or.inl (Or.inl hg)⟩
    · refine ⟨hM.lt hg, ?_⟩
      rcases hB g hg with hb | hb
      · exact Or.inl (Or.inr hb)
      · exact Or.inr hb.1
  · rcases hB g hg with hb | hb
    · exact h.ub g hb
    · omega
  · rcases hB g hg' with hb | hb
    · exact h.ap g hg hb
    · have := h.ts.lt hg; omega
/-- what Flush hands out -/
theorem Cv.fl {ja qa : Option Addr} {jn qn : Nat} (h : Cv w0 w sb cb mb N es js qs ta tn tp ts ca cn cp tc) (hF : FlI ⟨sb + 1, fun g => MB ta g ∨ MB ca g⟩ sb js.length jn qs.length qn ja qa js qs w w') : Cv w0 w' sb cb mb N es js [] ta tn tp ts ca cn cp tc ∧ MsP w' qa qs.length qn qs :=
  ⟨h.sv ⟨⟨ja, jn, none, 0, hF.1⟩, hF.2.2.1⟩, MsP.own ⟨_, hF.2.1⟩ rfl⟩
theorem MsP.stay {w : World} {g off n c : Nat} {ms : List Qm} (h : MsP w (some ⟨g, off, none⟩) n c ms) : MsP w (some ⟨g, off, none⟩) 0 0 [] := by
  refine ⟨rfl, by simp, by simp [maxLen], Or.inr ?_⟩
  rcases h.row with ⟨h0, _⟩ | ⟨g', off', cur, he, hb, h1, h2⟩
  · cases h0
  · cases he
    exact ⟨g, off, cur, rfl, hb, by omega, fun j u hj => by simp at hj⟩
/-- the first message is taken off -/
theorem Cv.tail {m : Qm} {g off : Nat} {ts' : List Qm} (h : Cv w0 w sb cb mb N es js qs (some ⟨g, off, none⟩) tn tp (m :: ts') ca cn cp tc) (h1 : 1 ≤ tn) : Cv w0 w sb cb mb N es js qs (if tp = 1 then some ⟨g, off, none⟩ else some ⟨g, off + 9, none⟩) (tn - 1) (tp - 1) ts' ca cn cp tc := by
  by_cases hp : tp = 1
  · rw [if_pos hp]
    have hle := h.ts.le
    have hl := h.ts.len
    obtain rfl : tn = 1 := by omega
    obtain rfl : ts' = [] := by
      cases ts' with
      | nil => rfl
      | cons x y => simp at hl
    subst hp
    exact h.setT ⟨h.ts.stay, ChgP.refl _ _, fun g' hg' => Or.inl hg'⟩
  · rw [if_neg hp]
    exact h.setT ⟨h.ts.drop (k := 1) h1, ChgP.refl _ _, fun g' hg' => Or.inl (by rw [hg'.eq]; exact MB.self g off)⟩
/-- one message is taken out -/
theorem Cv.cut {w1 w2 : World} {g off k j : Nat} {a1 a2 : Option Addr} {c1 c2 : Nat} {ms2 : List Qm} (h : Cv w0 w sb cb mb N es js qs ta tn tp ts (some ⟨g, off, none⟩) cn cp tc) (hk : k < cn) (hj : j = cn - (k + 1)) (hm : ms2 = tc.drop (k + 1)) (h1 : ApPost none w w1 a1 k c1 (tc.take k)) (h2 : ApPost a1 w1 w2 a2 (k + j) c2 (tc.take k ++ ms2)) : Cv w0 w2 sb cb mb N es js qs ta tn tp ts a2 (k + j) c2 (tc.eraseIdx k) := by
  subst hm
  refine h.setC ⟨?_, ?_, fun g' hg' => Or.inr ?_⟩
  · have := h2.1
    rw [← List.eraseIdx_eq_take_drop_succ] at this
    exact this
  · refine (h1.2.1.comp h2.2.1 fun x hx => ?_).mono (fun x hx => absurd hx MB.no)
    rcases h1.2.2 x hx with hb | hb
    · exact absurd hb MB.no
    · exact Or.inr hb.1
  · have hl := h2.1.lt hg'
    refine ⟨?_, hl⟩
    rcases h2.2.2 g' hg' with hb | hb
    · rcases h1.2.2 g' hb with hb | hb
      · exact absurd hb MB.no
      · exact hb.1
    · exact Nat.le_trans h1.2.1.size hb.1
end
end Go.Proofs.YtiklgipcgdgkoaaDoor.Jv
