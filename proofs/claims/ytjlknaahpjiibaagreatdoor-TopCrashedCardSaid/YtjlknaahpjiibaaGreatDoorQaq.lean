/- Part of the proof of topCrashedLaw_holds. -/
import Derived.Test.YtjlknaahpjiibaaGreatDoorQaa
import Derived.Test.YtjlknaahpjiibaaGreatDoorQao
import Derived.Test.YtjlknaahpjiibaaGreatDoorQap
import Derived.Test.YtjlknaahpjiibaaGreatDoorRows
namespace Go.Proofs.YtjlknaahpjiibaaGreatDoor
open Go.RowKit
set_option linter.unusedVariables false
def modI (n m : Int) : Int := n.tmod m + (if n.tmod m < 0 then m else 0)
theorem modI_eq (n m : Int) (hm : 1 ≤ m) : modI n m = n % m := by
 unfold modI
 rw [Int.tmod_eq_emod]
 have h1 := Int.emod_nonneg n (by omega : m ≠ 0)
 have h2 := Int.emod_lt_of_pos n (by omega : 0 < m)
 split <;> split <;> omega
theorem modI_bd (n m : Int) (hm : 1 ≤ m) : 0 ≤ modI n m ∧ modI n m < m := by
 rw [modI_eq n m hm]
 exact ⟨Int.emod_nonneg n (by omega), Int.emod_lt_of_pos n (by omega)⟩
set_option maxHeartbeats 400000 in
theorem mod_any (n m : Int) (w : World) (hm : 1 ≤ m) (hm2 : m ≤ 9223372036854775807)  :
 Calls Tryz.prog 8 #[.int .i64 n, .int .i64 m] w fun e w' => e = .returned (.int .i64 (modI n m)) ∧ w = w' := by
 have h1 := Int.tmod_lt_of_pos n (by omega : 0 < m)
 have h2 : -m < n.tmod m := by
  rw [Int.tmod_eq_emod]
  have h1 := Int.emod_nonneg n (by omega : m ≠ 0)
  by_cases hc : 0 ≤ n ∨ m ∣ n
  · rw [if_pos hc]; omega
  · have h3 : n % m ≠ 0 := fun e => hc (Or.inr (Int.dvd_of_emod_eq_zero e))
    rw [if_neg hc]; omega
 go_enter Tryz.func8, Tryz.ntmps8
 go_wp2
 · go_ret
   rename_i hlt
   exact ⟨ret_int (by unfold modI; rw [if_pos hlt]), rfl⟩
 · go_ret
   rename_i hlt
   exact ⟨ret_int (by unfold modI; rw [if_neg (by omega)]; omega), rfl⟩
end Go.Proofs.YtjlknaahpjiibaaGreatDoor
namespace Go.Proofs.YtjlknaahpjiibaaGreatDoor
open Go.RowKit Go.ChangeMaps Go.MapKept Go.Shelf
set_option linter.unusedVariables false
set_option linter.unusedSimpArgs false
theorem take_nodup {D : List Dc} (hn : (D.map (·.1)).Nodup) (m : Nat) : ((D.take m).map (·.1)).Nodup := by
 rw [List.map_take]
 exact hn.sublist (List.take_sublist _ _)
theorem frame_len (r : J.Rec) : r.frame.length = r.key.size + r.val.size + 8 := by
 have h1 : r.frame.length = r.pay.length + 6 := J.frameL_length _
 have h2 := r.pay_length
 omega
theorem log_len (rs : List J.Rec) (h : ∀ r ∈ rs, r.frame.length ≤ 2077) : (J.logOf rs).length ≤ 2077 * rs.length := by
 induction rs with
 | nil => simp [J.logOf]
 | cons r rs ih =>
   have h1 := h r (by simp)
   have h2 := ih fun x hx => h x (by simp [hx])
   have e : J.logOf (r :: rs) = r.frame ++ J.logOf rs := by simp [J.logOf]
   rw [e, List.length_append, List.length_cons]
   omega
theorem recD_ok {d : Dc} (h : 0 < d.1.size ∧ d.1.size ≤ 60 ∧ d.2.2.size ≤ 2000) : (recD d).ok := recI_ok h.1 h.2.1 (words_ok _ h.2.2)
theorem docs_log {D : List Dc} (h : DcOk D) (hl : D.length ≤ 19) : (J.logOf (D.map recD)).length ≤ 40000 := by
 have h1 := log_len (D.map recD) fun r hr => by
  obtain ⟨d, hd, rfl⟩ := List.mem_map.1 hr
  rw [frame_len]
  have h2 := h.ok d hd
  have h3 := (words_ok d.2.2 h2.2.2).sum
  have h4 : (recD d).val.size = 8 + wsum (words d.2.2) := by
   rw [recD_val, lb_size]
   unfold encL
   rw [List.length_append, hx8_len, tailW_len]
  have h5 : (recD d).key.size = d.1.size := rfl
  omega
 rw [List.length_map] at h1
 omega
theorem cut_log {D : List Dc} (h : DcOk D) (L : ByteArray) (hL : L = J.bs (J.logOf (D.map recD))) (c : Nat) (hc : c ≤ L.size) :
 ∃ m, m ≤ D.length ∧ (J.scanL (L.extract 0 c).data.toList).1 = (D.take m).map recD ∧ (c = L.size → m = D.length) := by
 have hs : L.size = (J.logOf (D.map recD)).length := by rw [hL, J.bs_size]
 obtain ⟨m, h1, h2, _, _, h5⟩ := J.torn (D.map recD) c (fun r hr => by
  obtain ⟨d, hd, rfl⟩ := List.mem_map.1 hr
  exact recD_ok (h.ok d hd)) (by omega)
 rw [List.length_map] at h1 h5
 refine ⟨m, h1, ?_, fun hcl => ?_⟩
 · rw [Lib.extract_from_zero, hL, J.bs_data, h2, List.map_take]
 · rcases Nat.lt_or_eq_of_le h1 with h6 | h6
   · have h7 := h5 h6
     have h8 := congrArg List.length (J.logOf_take (D.map recD) (m + 1))
     rw [List.length_append] at h8
     omega
   · exact h6
theorem map_recI (D : List Dc) : (D.map entO).map recI = D.map recD := by rw [List.map_map]; rfl
theorem OwnD.set1 {w : World} {base g n cap : Nat} {l : List Dc} (h : OwnD w base (.slice (some ⟨g, 0, none⟩) n cap) l) (hn : l.length = n) (k : Nat) (hk : k < l.length) (t : ByteArray) :
 OwnD (w.setCell ⟨g, k * 3 + 2, none⟩ (.string t)) base (.slice (some ⟨g, 0, none⟩) n cap) (l.set k (l[k].1, l[k].2.1, t)) := by
 subst hn
 have r3 := row_set (u := .string t) h (i := k * 3 + 2) (by omega)
 have g0 := dcCells_get l k hk 0 (by decide)
 have g1 := dcCells_get l k hk 1 (by decide)
 have e0 : (dcCells l).set (k * 3) (.string l[k].1) = dcCells l := by
  refine List.ext_getElem? fun i => ?_
  rw [List.getElem?_set]
  split
  · rename_i e; subst e; split
    · rw [Nat.add_zero] at g0; rw [g0]; rfl
    · rename_i h2; rw [List.getElem?_eq_none (by omega)]
  · rfl
 have e1 : (dcCells l).set (k * 3 + 1) (.int .i64 l[k].2.1) = dcCells l := by
  refine List.ext_getElem? fun i => ?_
  rw [List.getElem?_set]
  split
  · rename_i e; subst e; split
    · rw [g1]; rfl
    · rename_i h2; rw [List.getElem?_eq_none (by omega)]
  · rfl
 have e := dcCells_set3 l k hk (l[k].1, l[k].2.1, t)
 simp only at e
 rw [e0, e1] at e
 rw [e] at r3
 unfold OwnD
 rw [List.length_set]
 exact r3
end Go.Proofs.YtjlknaahpjiibaaGreatDoor
namespace Go.Proofs.YtjlknaahpjiibaaGreatDoor
open Go.RowKit Go.ChangeMaps Go.MapKept Go.Shelf
set_option linter.unusedVariables false
set_option linter.unusedSimpArgs false
theorem checksum_same (s : ByteArray) (w : World) (hs : s.size ≤ 100000) : Calls Tryz.prog 13 #[.string s] w fun e w' => e = .returned (.int .u32 (ck s.data.toList : Nat)) ∧ w' = w :=
 (checksum_any s w (by omega)).mono fun e w' h => ⟨h.1, h.2.symm⟩
end Go.Proofs.YtjlknaahpjiibaaGreatDoor
namespace Go.Proofs.YtjlknaahpjiibaaGreatDoor
set_option linter.unusedVariables false
set_option linter.unusedSimpArgs false
instance decMem (p : ByteArray) (L : List ByteArray) : Decidable (p ∈ L) := decidable_of_iff _ (memb_iff p L)
def decN (n : Nat) : ByteArray := if n < 10 then dec n else if n < 100 then dec (n / 10) ++ dec (n % 10) else dec (n / 100) ++ dec (n / 10 % 10) ++ dec (n % 10)
theorem dec_size (n : Nat) (h : n < 10) : (dec n).size = 1 := by
 have : ∀ n : Fin 10, (dec n.val).size = 1 := by decide
 exact this ⟨n, h⟩
theorem decN_size (n : Nat) (h : n < 1000) : (decN n).size ≤ 3 := by
 unfold decN
 split
 · rw [dec_size n (by omega)]; decide
 · split
   · rw [ByteArray.size_append, dec_size _ (by omega), dec_size _ (by omega)]; decide
   · rw [ByteArray.size_append, ByteArray.size_append, dec_size _ (by omega), dec_size _ (by omega), dec_size _ (by omega)]; decide
def vOf : ByteArray := ⟨#[118, 101, 114, 115, 105, 111, 110, 32, 111, 102, 32]⟩
def vtext (t : Int) : ByteArray := vOf ++ decN t.toNat
def idxD (D : List Dc) (p : ByteArray) : Option Nat := D.findIdx? fun d => decide (d.1 = p)
def stepD (D : List Dc) (e : F.FEv) : List Dc := match idxD D e.2.1 with
 | some k => if e.2.2 = 3 then D.take k ++ D.drop (k + 1) else D.set k ((D.getD k dc0).1, (D.getD k dc0).2.1, vtext e.1)
 | none => D ++ [(e.2.1, 0, vtext e.1)]
def runD (D : List Dc) (E : List F.FEv) : List Dc := E.foldl stepD D
def nms (D : List Dc) : List ByteArray := D.map (·.1)
theorem split_at {α : Type} (l : List α) (k : Nat) (hk : k < l.length) : l = l.take k ++ l[k] :: l.drop (k + 1) := by
 conv => lhs; rw [← List.take_append_drop k l, List.drop_eq_getElem_cons hk]
theorem mem_cut (l : List ByteArray) (hn : l.Nodup) (k : Nat) (hk : k < l.length) (p : ByteArray) : p ∈ l.take k ++ l.drop (k + 1) ↔ p ∈ l ∧ p ≠ l[k] := by
 have e := split_at l k hk
 obtain ⟨q, hq⟩ : ∃ q, q = l[k] := ⟨_, rfl⟩
 rw [← hq] at e ⊢
 rw [e, List.nodup_append] at hn
 obtain ⟨h1, h2, h3⟩ := hn
 rw [List.nodup_cons] at h2
 conv => rhs; rw [e]
 simp only [List.mem_append, List.mem_cons]
 constructor
 · rintro (h | h)
   · exact ⟨Or.inl h, h3 p h q (by simp)⟩
   · exact ⟨Or.inr (Or.inr h), fun e => h2.1 (e ▸ h)⟩
 · rintro ⟨h | h | h, hne⟩
   · exact Or.inl h
   · exact absurd h hne
   · exact Or.inr h
theorem nodup_cut (l : List ByteArray) (hn : l.Nodup) (k : Nat) : (l.take k ++ l.drop (k + 1)).Nodup := by
 rw [← List.eraseIdx_eq_take_drop_succ]
 exact hn.sublist (List.eraseIdx_sublist _ _)
theorem idxD_some {D : List Dc} {p : ByteArray} {k : Nat} (h : idxD D p = some k) : ∃ hk : k < D.length, (D[k]'hk).1 = p := by
 unfold idxD at h
 rw [List.findIdx?_eq_some_iff_getElem] at h
 obtain ⟨hk, h1, _⟩ := h
 exact ⟨hk, by simpa using h1⟩
theorem idxD_none {D : List Dc} {p : ByteArray} (h : idxD D p = none) : p ∉ nms D := by
 unfold idxD at h
 rw [List.findIdx?_eq_none_iff] at h
 intro hm
 obtain ⟨d, hd, e⟩ := List.mem_map.1 hm
 have := h d hd
 simp at this
 exact this e
theorem nms_set (D : List Dc) (k : Nat) (hk : k < D.length) (v : Int) (t : ByteArray) : nms (D.set k ((D.getD k dc0).1, v, t)) = nms D := by
 have e : D.getD k dc0 = D[k] := by rw [List.getD_eq_getElem?_getD, List.getElem?_eq_getElem hk]; rfl
 unfold nms
 rw [e, List.map_set]
 refine List.ext_getElem (by simp) fun i h1 h2 => ?_
 rw [List.getElem_set]
 split
 · rename_i h; subst h; simp
 · rfl
theorem step_names {D : List Dc} (hn : (nms D).Nodup) (e : F.FEv) (h3 : e.2.2 = 3 → e.2.1 ∈ nms D) :
 (nms (stepD D e)).Nodup ∧ ∀ p, decide (p ∈ nms (stepD D e)) = if e.2.1 = p then decide (e.2.2 ≠ 3) else decide (p ∈ nms D) := by
 unfold stepD
 cases hi : idxD D e.2.1 with
 | none =>
   have hno := idxD_none hi
   have hk : e.2.2 ≠ 3 := fun h => hno (h3 h)
   have e1 : nms (D ++ [(e.2.1, 0, vtext e.1)]) = nms D ++ [e.2.1] := by simp [nms]
   simp only [e1]
   refine ⟨List.nodup_append.2 ⟨hn, by simp, fun a ha b hb => by rw [List.mem_singleton.1 hb]; exact fun e => hno (e ▸ ha)⟩, fun p => ?_⟩
   by_cases hp : e.2.1 = p
   · subst hp; simp [hk]
   · simp [hp, Ne.symm hp]
 | some k =>
   obtain ⟨hk, hkn⟩ := idxD_some hi
   have hkl : k < (nms D).length := by simpa [nms] using hk
   have hke : (nms D)[k] = e.2.1 := by simpa [nms] using hkn
   have hin : e.2.1 ∈ nms D := by rw [← hke]; exact List.getElem_mem hkl
   by_cases h3' : e.2.2 = 3
   · have e1 : nms (D.take k ++ D.drop (k + 1)) = (nms D).take k ++ (nms D).drop (k + 1) := by simp [nms, List.map_take, List.map_drop]
     simp only [if_pos h3', e1]
     refine ⟨nodup_cut _ hn k, fun p => ?_⟩
     have hm := mem_cut (nms D) hn k hkl p
     rw [hke] at hm
     by_cases hp : e.2.1 = p
     · subst hp
       simp only [if_true, h3', ne_eq, not_true_eq_false, decide_false]
       exact decide_eq_false fun h => (hm.1 h).2 rfl
     · rw [if_neg hp, decide_eq_decide]
       exact ⟨fun h => (hm.1 h).1, fun h => hm.2 ⟨h, Ne.symm hp⟩⟩
   · simp only [if_neg h3']
     rw [nms_set D k hk]
     refine ⟨hn, fun p => ?_⟩
     by_cases hp : e.2.1 = p
     · subst hp; simp [h3', hin]
     · rw [if_neg hp]
theorem run_names : ∀ (E : List F.FEv) (D : List Dc), (nms D).Nodup → (∀ p, F.cp p (decide (p ∈ nms D)) E) →
 (nms (runD D E)).Nodup ∧ ∀ p, decide (p ∈ nms (runD D E)) = F.rp p (decide (p ∈ nms D)) E
 | [], D, hn, _ => ⟨hn, fun _ => rfl⟩
 | e :: r, D, hn, hc => by
   have h3 : e.2.2 = 3 → e.2.1 ∈ nms D := fun h => by
    have := (hc e.2.1).1 rfl
    have := this.2 (by rw [h]; decide)
    simpa using this
   obtain ⟨h1, h2⟩ := step_names hn e h3
   obtain ⟨h4, h5⟩ := run_names r (stepD D e) h1 fun p => by rw [h2 p]; exact (hc p).2
   refine ⟨h4, fun p => ?_⟩
   have := h5 p
   rw [h2 p] at this
   exact this
theorem run_docs (P : ByteArray → Prop) : ∀ (E : List F.FEv) (D : List Dc), (∀ d ∈ D, P d.1 ∧ d.2.2.size ≤ 200) → (∀ e ∈ E, P e.2.1 ∧ 0 ≤ e.1 ∧ e.1 < 1000) → ∀ d ∈ runD D E, P d.1 ∧ d.2.2.size ≤ 200
 | [], D, hD, _ => hD
 | e :: r, D, hD, hE => by
   have he := hE e (by simp)
   have hv : (vtext e.1).size ≤ 200 := by
    unfold vtext
    rw [ByteArray.size_append]
    have h1 := decN_size e.1.toNat (by omega)
    have h2 : vOf.size = 11 := rfl
    omega
   refine run_docs P r (stepD D e) (fun d hd => ?_) fun x hx => hE x (by simp [hx])
   unfold stepD at hd
   cases hi : idxD D e.2.1 with
   | none =>
     rw [hi] at hd
     rcases List.mem_append.1 hd with h | h
     · exact hD d h
     · rw [List.mem_singleton.1 h]; exact ⟨he.1, hv⟩
   | some k =>
     rw [hi] at hd
     obtain ⟨hk, hkn⟩ := idxD_some hi
     have e2 : D.getD k dc0 = D[k] := by rw [List.getD_eq_getElem?_getD, List.getElem?_eq_getElem hk]; rfl
     simp only at hd
     split at hd
     · rcases List.mem_append.1 hd with h | h
       · exact hD d (List.mem_of_mem_take h)
       · exact hD d (List.mem_of_mem_drop h)
     · rcases List.mem_or_eq_of_mem_set hd with h | h
       · exact hD d h
       · rw [h, e2]; exact ⟨(hD _ (List.getElem_mem hk)).1, hv⟩
theorem nodup_len : ∀ (l m : List ByteArray), l.Nodup → (∀ x ∈ l, x ∈ m) → l.length ≤ m.length
 | [], m, _, _ => by simp
 | x :: l, m, hn, h => by
   rw [List.nodup_cons] at hn
   have hx := h x (by simp)
   have h1 := nodup_len l (m.filter fun y => decide (y ≠ x)) hn.2 fun y hy => List.mem_filter.2 ⟨h y (by simp [hy]), decide_eq_true fun e => hn.1 (by rw [← e]; exact hy)⟩
   have h2 : (m.filter fun y => decide (y ≠ x)).length < m.length := List.length_filter_lt_length_iff_exists.2 ⟨x, hx, by simp⟩
   rw [List.length_cons]
   omega
def sixN : List ByteArray := (List.range 6).map fun i => (⟨#[109]⟩ : ByteArray) ++ dec i
theorem run_ok {D : List Dc} {E : List F.FEv} (hn : (nms (runD D E)).Nodup) (hD : ∀ d ∈ D, d.1 ∈ sixN ∧ d.2.2.size ≤ 200) (hE : ∀ e ∈ E, e.2.1 ∈ sixN ∧ 0 ≤ e.1 ∧ e.1 < 1000) : DcOk (runD D E) ∧ (runD D E).length ≤ 6 := by
 have h := run_docs (fun p => p ∈ sixN) E D hD hE
 have hl : (runD D E).length ≤ 6 := by
  have := nodup_len (nms (runD D E)) sixN hn fun x hx => by
   obtain ⟨d, hd, rfl⟩ := List.mem_map.1 hx
   exact (h d hd).1
  simpa [nms, sixN] using this
 have hsz : ∀ x ∈ sixN, x.size = 2 := by decide
 refine ⟨⟨by omega, fun d hd => ?_, hn⟩, hl⟩
 have h1 := hsz _ (h d hd).1
 have h2 := (h d hd).2
 omega
def NoCol (D0 D : List Dc) : Prop := ∀ d ∈ D, ∀ d0 ∈ D0, d.1 = d0.1 → ck d0.2.2.data.toList = ck d.2.2.data.toList → d.2.2 = d0.2.2
theorem eff_nocol {D0 D D1 : List Dc} (h : NoCol D0 D) (h1 : ∀ x ∈ D1, x ∈ D0) (hn1 : (D1.map (·.1)).Nodup) : D.map (eff D1) = D := by
 conv => rhs; rw [← List.map_id D]
 refine List.map_congr_left fun d hd => ?_
 by_cases hm : ∃ d0 ∈ D1, d0.1 = d.1 ∧ ck d0.2.2.data.toList = ck d.2.2.data.toList
 · obtain ⟨d0, h2, h3, h4⟩ := hm
   rw [(eff_hit hn1 h2 h3 h4).1, ← h d hd d0 (h1 d0 h2) h3.symm h4]
   rfl
 · exact (eff_miss fun d0 h2 h3 h4 => hm ⟨d0, h2, h3, h4⟩).1
theorem F.exM_mem (L : List ByteArray) (p : ByteArray) : p ∈ (F.exM L).map (·.1) ↔ p ∈ L := by
 have h : ∀ (L : List ByteArray) (M : F.Fm), (aget (L.foldl (fun M f => ups M f 1) M) p).isSome = true ↔ p ∈ L ∨ (aget M p).isSome = true := by
  intro L
  induction L with
  | nil => intro M; simp
  | cons x r ih =>
    intro M
    rw [List.foldl_cons, ih, aget_ups]
    by_cases e : x = p
    · subst e; simp
    · rw [if_neg e, List.mem_cons]
      have : ¬ p = x := fun h => e h.symm
      simp [this]
 rw [F.mem_some (F.exM_nodup L)]
 unfold F.exM
 rw [h L []]
 simp [aget_nil]
theorem names_law {D : List Dc} {E : List F.FEv} (d : Int) (hn : (nms D).Nodup) (hv : F.Vk E) (hc : F.coM (F.exM (nms D)) E = true) :
 (nms (runD D ((F.bat d [] E).flatMap (·.2)))).Nodup ∧ srt (nms (runD D ((F.bat d [] E).flatMap (·.2)))) = F.apL (nms D) E := by
 obtain ⟨hl, hc2⟩ := F.files_law (nms D) E d hv hc
 have hvD := F.bat_vk d E [] hv
 have hex : ∀ p, decide ((aget (F.exM (nms D)) p).getD 0 ≠ 0) = decide (p ∈ nms D) := fun p => by
  rw [F.exM_val, ← Bool.coe_iff_coe, decide_eq_true_iff, ← F.mem_some (F.exM_nodup _)]
  exact F.exM_mem (nms D) p
 have hcp := (F.co_iff _ (F.exM (nms D)) hvD).1 hc2
 obtain ⟨h1, h2⟩ := run_names _ D hn fun p => by rw [← hex p]; exact hcp p
 refine ⟨h1, ?_⟩
 rw [hl]
 unfold F.apL
 refine F.srt_congr ?_
 have n2 := F.apM_nodup ((F.bat d [] E).flatMap (·.2)) _ (F.exM_nodup (nms D))
 refine (List.perm_ext_iff_of_nodup h1 n2).2 fun p => ?_
 rw [F.mem_some n2, F.ap_get _ _ _ hvD, ← F.exM_val, hex p, ← h2 p, decide_eq_true_iff]
end Go.Proofs.YtjlknaahpjiibaaGreatDoor
