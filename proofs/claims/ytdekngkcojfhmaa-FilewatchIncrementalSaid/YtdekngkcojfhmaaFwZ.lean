/- FilewatchPreservesFiles: the walk. -/
import Derived.Test.YtdekngkcojfhmaaFwX
import Derived.Test.YtdekngkcojfhmaaFwV
import Derived.Deep.DeepCutAuto
namespace Go.Proofs.Ytdekngkcojfhmaa
open Go.RowKit Go.ChangeMaps Go.MapKept Go.Shelf
set_option linter.unusedVariables false
set_option linter.unusedSimpArgs false
theorem nbE_mem {G : List FEv} {x : FEv} (hx : x ∈ nbE G) : ∃ y ∈ G, y.2.1 = x.2.1 := by
  obtain ⟨h1, _⟩ := (nb_mem G x).1 hx
  exact mgd_from G x.2.1 (by rw [h1]; rfl)
theorem bat_path (d : Int) : ∀ (rest G : List FEv), (∀ e ∈ G ++ rest, e.2.1.size ≤ maxLen) → ∀ b ∈ bat d G rest, ∀ e ∈ b.2, e.2.1.size ≤ maxLen := by
  intro rest
  induction rest with
  | nil => intro G _ b hb; simp [bat] at hb
  | cons x rest ih =>
    intro G hG b hb
    unfold bat at hb
    split at hb
    · exact ih (G ++ [x]) (by simpa using hG) b hb
    · rcases List.mem_append.1 hb with hb | hb
      · split at hb
        · simp at hb
        · rw [List.mem_singleton.1 hb]
          intro e he
          obtain ⟨e', h1, h2⟩ := nbE_mem he
          rw [← h2]
          refine hG e' ?_
          rcases List.mem_append.1 h1 with h | h
          · simp [h]
          · rw [List.mem_singleton.1 h]; simp
      · exact ih [] (fun e he => hG e (by simp at he; simp [he])) b hb
theorem nbE_len (G : List FEv) : (nbE G).length ≤ G.length := by
  have h1 : (nbE G).length ≤ (srt ((mgd G).map (·.1))).length := List.length_filterMap_le _ _
  rw [(srt_perm _).length_eq, List.length_map] at h1
  have := mgd_len G
  omega
theorem bat_len (d : Int) : ∀ (rest G : List FEv), (bat d G rest).length ≤ rest.length ∧ ((bat d G rest).flatMap (·.2)).length ≤ G.length + rest.length := by
  intro rest
  induction rest with
  | nil => intro G; simp [bat]
  | cons x rest ih =>
    intro G
    unfold bat
    split
    · have := ih (G ++ [x])
      simp at this ⊢
      omega
    · have h := ih []
      have h2 := nbE_len (G ++ [x])
      simp at h2 h
      split <;> simp <;> omega
theorem flat_take {α β : Type} (f : α → List β) (l : List α) (k : Nat) (h : k < l.length) (d : α) : (l.take (k + 1)).flatMap f = (l.take k).flatMap f ++ f (l.getD k d) := by
  rw [List.take_succ_eq_append_getElem h, List.flatMap_append, List.getD_eq_getElem?_getD, List.getElem?_eq_getElem h]
  simp
theorem flat_take_le {α β : Type} (f : α → List β) (l : List α) (k : Nat) : ((l.take k).flatMap f).length ≤ (l.flatMap f).length := by
  rw [← List.take_append_drop k l, List.flatMap_append, List.length_append, List.take_append_drop]
  exact Nat.le_add_right _ _
theorem StrsP.pre {p : Nat → Prop} {w : World} {a : Option Addr} {n cap : Nat} {F : List ByteArray} (h : StrsP p w (.slice a n cap) F) (k : Nat) (hk : k ≤ F.length) : StrsP p w (.slice a k cap) (F.take k) := by
  obtain ⟨a', c, hv, hl, hm, hc⟩ := h
  simp only [Value.slice.injEq] at hv
  obtain ⟨rfl, rfl, rfl⟩ := hv
  have hlen : (F.take k).length = k := by simp; omega
  refine ⟨_, _, by rw [hlen], by omega, by omega, fun h0 => ?_⟩
  obtain ⟨g, off, he, hp, hr⟩ := hc (by omega)
  refine ⟨g, off, he, hp, fun j hj => ?_⟩
  have := hr j (by omega)
  rw [List.getElem_take]
  exact this
theorem evs_news {p : Nat → Prop} {w : World} {g off n cap : Nat} {es : List FEv} (h : EvsP p w (.slice (some ⟨g, off, none⟩) n cap) es) : ∀ j u, (evCells es)[j]? = some u → w.cell? ((⟨g, off, none⟩ : Addr).add j) = some u := by
  intro j u hj
  have hl : j < (evCells es).length := (List.getElem?_eq_some_iff.1 hj).1
  rw [evCells_len] at hl
  have hi : j / 3 < es.length := by omega
  obtain ⟨g', off', he, _, c0, c1, c2⟩ := h.cells (j / 3) hi
  simp only [Option.some.injEq, Addr.mk.injEq, and_true] at he
  obtain ⟨rfl, rfl⟩ := he
  rw [List.getD_eq_getElem?_getD, List.getElem?_eq_getElem hi] at c0 c1 c2
  obtain ⟨e0, e1, e2⟩ := evCells_get es (j / 3) hi
  rw [Addr.add_lit]
  have h3 : j % 3 = 0 ∨ j % 3 = 1 ∨ j % 3 = 2 := by omega
  rcases h3 with h3 | h3 | h3
  · have : j = j / 3 * 3 := by omega
    rw [this] at hj ⊢
    rw [e0] at hj
    rw [← hj]; exact c0
  · have : j = j / 3 * 3 + 1 := by omega
    rw [this] at hj ⊢
    rw [e1] at hj
    rw [← hj, ← Nat.add_assoc]; exact c1
  · have : j = j / 3 * 3 + 2 := by omega
    rw [this] at hj ⊢
    rw [e2] at hj
    rw [← hj, ← Nat.add_assoc]; exact c2
theorem evCells_one (es : List FEv) : ∀ u ∈ evCells es, u.oneCell' = true := by
  intro u hu
  simp only [evCells, List.mem_flatMap, List.mem_cons, List.not_mem_nil, or_false] at hu
  obtain ⟨e, _, h | h | h⟩ := hu <;> subst h <;> rfl
set_option maxRecDepth 100000 in
set_option maxHeartbeats 8000000 in
theorem filesLaw_any (p q : Nat → Prop) (w : World) (fv ev : Value) (F0 : List ByteArray) (E0 : List FEv) (xd : Int) (hF : StrsP p w fv F0) (hFp : ∀ x ∈ F0, x.size ≤ maxLen) (hE0 : EvsP q w ev E0) (hpa : ∀ e ∈ E0, e.2.1.size ≤ maxLen) :
    Calls Try.prog 4 #[fv, ev, .int .i64 xd] w fun e w' => e = .returned (.bool true) ∧ Chg [] w w' := by
  obtain ⟨fa, fc, rfl, hfl, hfc⟩ := hF.shape
  have H := Lib.hid hE0
  have HF0 := Lib.hid hF
  have HFp := Lib.hid hFp
  have Hpa := Lib.hid hpa
  obtain ⟨d, hd⟩ : ∃ x, modI xd 60 = x := ⟨_, rfl⟩
  have hdb := modI_bd xd 60 (by omega)
  rw [hd] at hdb
  have Hd := Lib.hid (show ∀ W, Calls Try.prog 8 #[.int .i64 xd, .int .i64 60] W fun e w' => e = .returned (.int .i64 d) ∧ w' = W from fun W => by
    refine (mod_any xd 60 W (by omega) (by omega)).mono ?_
    rintro e w' ⟨rfl, rfl⟩
    exact ⟨by rw [hd], rfl⟩)
  obtain ⟨m, hm⟩ : ∃ m, m = min F0.length 10 := ⟨_, rfl⟩
  have hm1 : m ≤ F0.length := by omega
  have hmi : min (F0.length : Int) 10 = (m : Int) := by omega
  have hm10 : m ≤ 10 := by omega
  have hmz : (0 : Int) ≤ (m : Int) := by omega
  have hmF : (m : Int) ≤ (F0.length : Int) := by omega
  have hmc : (m : Int) ≤ (fc : Int) := by omega
  have hmc' : m ≤ fc := by omega
  unfold maxLen at hfl
  clear hE0 hF hFp hpa hd hm
  go_enter Try.func4, Try.ntmps4
  go_wp2_with fail
  refine (watchExample_any _).mono ?_
  rintro e w1 ⟨rfl, hc1⟩
  have Hc1 := Lib.hid hc1
  have Ht := Lib.hid (fun W (hW : Chg [] w1 W) => timed_any q W ev E0 ((H.out.same hc1).same hW) Hpa.out)
  clear hc1
  go_wp2_with fail
  go_cut [0, 1, 2] (fun xf xe xv wx => xf = .slice fa m fc ∧ xv = .int .i64 d ∧ ∃ E, OwnEv wx w1.heap.size xe E ∧ Hid (TimOk E 2000) ∧ Chg [] w wx)
  case first =>
    go_region_held3 (fun _ => True) (trivial)
      (first
        | (go_at_call 7; refine (Ht.out _ ((Chg.refl [] w1).drew)).mono ?_; rintro e w2 ⟨tv, E, rfl, hE, hT, hc2⟩; have Hc2 := Lib.hid (Hc1.out.trans (((Chg.refl [] w1).drew).trans hc2)); have HE := Lib.hid hE; have HT := Lib.hid hT; clear hE hT hc2)
        | (go_at_call 8; refine (Hd.out _).mono ?_; rintro e wz ⟨rfl, rfl⟩))
    all_goals
      try simp only [List.getElem_toArray, List.getElem_cons_zero, List.getElem_cons_succ]
      go_wp2_with fail
      go_meet
      exact ⟨rfl, rfl, E, HE.out, Lib.hid HT.out, Hc2.out⟩
  case rest =>
    obtain ⟨rfl, rfl, E, hE, HT, hc⟩ := hcut
    have hB := batches_any _ wc u1 E d hE.evs (HT.out.ok (by omega)) (by omega) (by omega)
    have HB := Lib.hid hB
    have HE := Lib.hid hE
    have Hc := Lib.hid hc
    clear hB hE hc Ht
    go_wp2_with fail
    refine HB.out.mono ?_
    rintro e w3 ⟨bv, rfl, hB, hc3⟩
    have Hc3 := Lib.hid (Hc.out.trans hc3)
    have HE3 := Lib.hid (HE.out.same hc3)
    have HF3 := Lib.hid (HF0.out.same Hc3.out)
    have hVk : Vk E := fun e he => HT.out.kind e he
    have hek : ∀ e ∈ E, vk e.2.2 = true := fun e he => by have := hVk e he; unfold vk; simp; omega
    have Hcon := Lib.hid (consistent_any _ _ w3 (.slice fa m fc) u1 (F0.take m) E (HF3.out.pre m hm1) HE3.out.evs (fun x hx => HFp.out x (List.mem_of_mem_take hx)) HT.out.path hek)
    have hinv := bat_inv d E [] (by simpa using HT.out.ord)
    have hpl := files_law (F0.take m) E d hVk
    have hvD := bat_vk d E [] hVk
    have hbp := bat_path d E [] (by simpa using HT.out.path)
    have hbl := bat_len d E []
    obtain ⟨L, hL⟩ : ∃ L, bat d [] E = L := ⟨_, rfl⟩
    rw [hL] at hB hinv hpl hvD hbp hbl
    obtain ⟨va, vc, rfl, hvl⟩ := hB.shape
    have HbP := Lib.hid hB.bats
    have Hpl := Lib.hid hpl
    have HV := Lib.hid (And.intro hVk (And.intro hek (And.intro hvD (And.intro hbp hbl))))
    have Hne := Lib.hid (show ∀ b ∈ L, b.2 ≠ [] from fun b hb => (hinv.2 b hb).1)
    have Hel := Lib.hid HT.out.len
    unfold maxLen at hvl
    clear hVk hek hinv hpl hvD hbp hbl hL hB hc3
    go_wp2_with fail
    refine Hcon.out.mono ?_
    rintro e w4 ⟨rfl, hc4⟩
    have Hc4 := Lib.hid (Hc3.out.trans hc4)
    have HE4 := Lib.hid (HE3.out.same hc4)
    have HF4 := Lib.hid ((HF3.out.pre m hm1).same hc4)
    have HbP4 := Lib.hid (HbP.out.same hc4)
    clear hc4 HbP HF3 HE3 Hcon
    cases hco : coM (exM (F0.take m)) E with
    | false =>
      clear hco
      go_wp2_with fail
      refine (watchExample_any _).mono ?_
      rintro e w5 ⟨rfl, hc5⟩
      have Hc5 := Lib.hid (Hc4.out.trans hc5)
      clear hc5
      go_wp2_with fail
      go_ret
      exact ⟨rfl, Hc5.out⟩
    | true =>
      have Hco := Lib.hid (Hpl.out hco)
      obtain ⟨i0, hi, hz0, hz1, hz2⟩ := info_parts Try.infoEv
      have Hi0 := Lib.hid hi
      have Hz0 := Lib.hid hz0
      have Hz1 := Lib.hid hz1
      have Hz2 := Lib.hid hz2
      clear hco hi hz0 hz1 hz2 Hpl
      go_wp2_with fail
      go_loopw [37, 9] (fun jj rv wr => ∃ k : Nat, k ≤ L.length ∧ jj = .int .i64 (k : Nat) ∧ OwnEv wr w4.heap.size rv ((L.take k).flatMap (·.2)) ∧ Chg [] w4 wr) (fun jj _ _ => L.length - (intOf jj).toNat)
      case atStart => exact ⟨0, by omega, rfl, OwnEv.nil _ _, Chg.refl _ _⟩
      case round =>
        obtain ⟨k, hk, rfl, how, hc⟩ := hrel
        by_cases hlt : k < L.length
        · have hk1 : (k : Int) < L.length := by omega
          obtain ⟨g, off, u, rfl, c0, c1, c2⟩ := (HbP4.out.same hc).at k hlt
          have hm : L.getD k (0, []) ∈ L := by rw [List.getD_eq_getElem?_getD, List.getElem?_eq_getElem hlt]; simp
          have hne := Hne.out _ hm
          have hft := flat_take (·.2) L k hlt (0, [])
          have hfl1 := flat_take_le (·.2) L (k + 1)
          have hfl2 := HV.out.2.2.2.2.2
          have hel := Hel.out
          obtain ⟨⟨t, l⟩, hr⟩ : ∃ r, L.getD k (0, []) = r := ⟨_, rfl⟩
          rw [hr] at c0 c2 hne hft
          simp only at c0 c2 hne hft
          obtain ⟨acc, hacc⟩ : ∃ acc, (L.take k).flatMap (·.2) = acc := ⟨_, rfl⟩
          rw [hacc] at how hft
          rw [hft, List.length_append] at hfl1
          simp only [List.length_nil] at hfl2
          have hal : acc.length + l.length ≤ 40 := by omega
          have hl0 := List.length_pos_iff.2 hne
          obtain ⟨ua, uc, rfl, hul, huc⟩ := c2.shape
          obtain ⟨gu, ou, rfl, _⟩ := c2.cells 0 hl0
          have Hown := Lib.hid (show wr.ownsRow w4.heap.size 33 3 u9 acc.length (evCells acc) from how)
          have Hnews := Lib.hid (evs_news c2)
          have Hft := Lib.hid hft
          have Hc := Lib.hid hc
          have hsz := hc.size
          clear hft hfl1 hfl2 hel hr hacc how hne hm c2 hc
          go_wp2_with (at_builtin; refine wpList_append_own _ rfl _ _ 22 rfl w4.heap.size 33 i0 (.agg #[.int .i64 0, .string ⟨#[]⟩, .int .i64 0]) 3 32 Try.underlying22 Hi0.out Hz0.out Hz1.out Hz2.out rfl (by decide) u9 acc.length (evCells acc) rfl Hown.out ⟨gu, ou, none⟩ l.length uc (evCells l) rfl (evCells_len l) Hnews.out (evCells_one l) (by unfold maxLen; omega) (by omega) hsz ?_; intro v8 w8 hown8 hgr8 _)
          have hap := own_chg Hown.out hgr8
          have hN : OwnEv w8 w4.heap.size v8 ((L.take (k + 1)).flatMap (·.2)) := by
            rw [Hft.out]
            unfold OwnEv
            rw [evCells_append, List.length_append]
            exact hown8
          have HN := Lib.hid (And.intro hN (Hc.out.comp hap.1 fun x hx => Or.inr (hap.2 x hx)))
          clear hN hown8 hgr8 hap
          go_wp2_with fail
          exact ⟨⟨k + 1, by omega, by go_num, HN.out.1, HN.out.2⟩, by simp [intOf]; omega⟩
        · obtain rfl : k = L.length := by omega
          have hk1 : ¬ ((L.length : Int) < L.length) := by omega
          rw [List.take_length] at how
          obtain ⟨D, hD⟩ : ∃ D, L.flatMap (·.2) = D := ⟨_, rfl⟩
          have hco := Hco.out
          have hvD := HV.out.2.2.1
          have hDl := HV.out.2.2.2.2.2
          have hDp : ∀ e ∈ L.flatMap (·.2), e.2.1.size ≤ maxLen := by
            intro e he
            obtain ⟨b, hb, he⟩ := List.mem_flatMap.1 he
            exact HV.out.2.2.2.1 b hb e he
          rw [hD] at how hco hvD hDl hDp
          have hdk : ∀ e ∈ D, vk e.2.2 = true := fun e he => by have := hvD e he; unfold vk; simp; omega
          have HW := Lib.hid (And.intro how hc)
          have HD := Lib.hid (And.intro hco (And.intro hDl (And.intro hDp hdk)))
          clear how hco hvD hDl hDp hdk hc hD
          go_wp2_with fail
          refine (watchExample_any _).mono ?_
          rintro e w5 ⟨rfl, hc5⟩
          have H5 := Lib.hid (And.intro (HW.out.1.same hc5) (HW.out.2.trans hc5))
          clear hc5
          have hsm : (F0.take m).length ≤ 1000 := by simp; omega
          have hsE : E.length ≤ 1000 := by have := Hel.out; omega
          have hsD : D.length ≤ 1000 := by have h1 := HD.out.2.1; have h2 := Hel.out; simp at h1; omega
          go_wp2_with fail
          refine (apply_any _ _ _ _ _ (F0.take m) E (HF4.out.same H5.out.2) (HE4.out.same H5.out.2).evs (fun x hx => HFp.out x (List.mem_of_mem_take hx)) HT.out.path hsm hsE).mono ?_
          rintro e w6 ⟨r1, rfl, hr1, hc6⟩
          have Hr1 := Lib.hid hr1
          have H6 := Lib.hid (And.intro (H5.out.1.same hc6) (H5.out.2.trans hc6))
          clear hr1 hc6
          go_wp2_with fail
          refine (apply_any _ _ _ _ _ (F0.take m) D (HF4.out.same H6.out.2) H6.out.1.evs (fun x hx => HFp.out x (List.mem_of_mem_take hx)) HD.out.2.2.1 hsm hsD).mono ?_
          rintro e w7 ⟨r2, rfl, hr2, hc7⟩
          have Hr2 := Lib.hid hr2
          have Hr17 := Lib.hid (Hr1.out.same hc7)
          have H7 := Lib.hid (And.intro (H6.out.1.same hc7) (H6.out.2.trans hc7))
          clear hr2 hc7
          rw [HD.out.1.1] at Hr17
          go_wp2_with fail
          refine (eqStrs_any _ _ _ _ _ (apL (F0.take m) D) Hr17.out Hr2.out).mono ?_
          rintro e w8 ⟨rfl, hc8⟩
          have H8 := Lib.hid (And.intro (H7.out.1.same hc8) (H7.out.2.trans hc8))
          clear hc8
          go_wp2_with fail
          refine (consistent_any _ _ _ _ _ (F0.take m) D (HF4.out.same H8.out.2) H8.out.1.evs (fun x hx => HFp.out x (List.mem_of_mem_take hx)) HD.out.2.2.1 HD.out.2.2.2).mono ?_
          rintro e w9 ⟨rfl, hc9⟩
          have H9 := Lib.hid (Hc4.out.trans (H8.out.2.trans hc9))
          rw [HD.out.1.2]
          clear hc9
          go_wp2_with fail
          go_ret
          exact ⟨rfl, H9.out⟩
end Go.Proofs.Ytdekngkcojfhmaa
