/- Part of the proof of topCrashedLaw_holds. -/
import Derived.Test.YtjlknaahpjiibaaGreatDoorQaq
import Derived.Test.YtjlknaahpjiibaaGreatDoorQaw
namespace Go.Proofs.YtjlknaahpjiibaaGreatDoor
open List (getElem_toArray getElem_cons_zero getElem_cons_succ setIfInBounds_toArray set_cons_zero set_cons_succ)
open Go.RowKit Go.ChangeMaps Go.MapKept Go.Shelf
set_option linter.unusedVariables false
set_option linter.unusedSimpArgs false
theorem decimal2_any (n : Nat) (w : World) (h1 : 10 ≤ n) (hn : n < 100) : Calls Tryz.prog 5 #[.int .i64 (n : Nat)] w fun e w' => e = .returned (.string (dec (n / 10) ++ dec (n % 10))) ∧ w' = w := by
 have Ha := Lib.hid (fun W => decimal_any (n / 10) W (by omega))
 have Hb := Lib.hid (fun W => decimal_any (n % 10) W (by omega))
 have g1 : ¬ ((n : Int) < 0) := by omega
 have g2 : ¬ ((n : Int) < 10) := by omega
 have g3 : (10 : Int) ≤ (n : Int) := by omega
 have g4 : ((n : Int).tdiv 10) = ((n / 10 : Nat) : Int) := by rw [Int.tdiv_eq_ediv_of_nonneg (by omega)]; omega
 have g5 : ((n : Int).tmod 10) = ((n % 10 : Nat) : Int) := by rw [Int.tmod_eq_emod_of_nonneg (by omega)]; omega
 have s1 := dec_size (n / 10) (by omega)
 have s2 := dec_size (n % 10) (by omega)
 have g6 : ¬ (9223372036854775807 : Int) < ((dec (n / 10)).size + (dec (n % 10)).size : Nat) := by omega
 go_enter Tryz.func5, Tryz.ntmps5
 go_wp2_with fail
 refine (Ha.out _).mono ?_
 rintro e w1 ⟨rfl, rfl⟩
 go_wp2_with fail
 refine (Hb.out _).mono ?_
 rintro e w1 ⟨rfl, rfl⟩
 go_wp2_with fail
 go_ret
 exact ⟨by rfl, rfl⟩
theorem decimal3_any (n : Nat) (w : World) (hn : n < 1000) : Calls Tryz.prog 5 #[.int .i64 (n : Nat)] w fun e w' => e = .returned (.string (decN n)) ∧ w' = w := by
 unfold decN
 by_cases h1 : n < 10
 · rw [if_pos h1]; exact decimal_any n w h1
 rw [if_neg h1]
 by_cases h2 : n < 100
 · rw [if_pos h2]; exact decimal2_any n w (by omega) h2
 rw [if_neg h2]
 have Ha := Lib.hid (fun W => decimal2_any (n / 10) W (by omega) (by omega))
 rw [show n / 10 / 10 = n / 100 by omega] at Ha
 have Hb := Lib.hid (fun W => decimal_any (n % 10) W (by omega))
 have g1 : ¬ ((n : Int) < 0) := by omega
 have g2 : ¬ ((n : Int) < 10) := by omega
 have g3 : (10 : Int) ≤ (n : Int) := by omega
 have g4 : ((n : Int).tdiv 10) = ((n / 10 : Nat) : Int) := by rw [Int.tdiv_eq_ediv_of_nonneg (by omega)]; omega
 have g5 : ((n : Int).tmod 10) = ((n % 10 : Nat) : Int) := by rw [Int.tmod_eq_emod_of_nonneg (by omega)]; omega
 have s1 := dec_size (n / 100) (by omega)
 have s3 := dec_size (n / 10 % 10) (by omega)
 have s2 := dec_size (n % 10) (by omega)
 obtain ⟨ab, hab⟩ : ∃ ab, ab = dec (n / 100) ++ dec (n / 10 % 10) := ⟨_, rfl⟩
 have habs : ab.size = 2 := by rw [hab, ByteArray.size_append]; omega
 rw [← hab] at Ha ⊢
 have Habs := Lib.hid hab
 clear hab
 have g6 : ¬ (9223372036854775807 : Int) < (ab.size + (dec (n % 10)).size : Nat) := by omega
 have Hs := Lib.hid habs
 clear habs s1 s2 s3
 go_enter Tryz.func5, Tryz.ntmps5
 go_wp2_with fail
 refine (Ha.out _).mono ?_
 rintro e w1 ⟨rfl, rfl⟩
 go_wp2_with fail
 refine (Hb.out _).mono ?_
 rintro e w1 ⟨rfl, rfl⟩
 go_wp2_with fail
 go_ret
 exact ⟨by rfl, rfl⟩
theorem run_append_gen {α : Type} (cs : α → List Value) (size bytes : Nat) (hcs : ∀ x, (cs x).length = size) (hone : ∀ x, ∀ u ∈ cs x, u.oneCell' = true) (hpos : 0 < size) (hby : bytes ≤ 200)
 (t ty e : TypeId) (i : TypeInfo) (z : Value) (ht : Tryz.prog.underlying t = some (.slice e)) (hi : Tryz.prog.info? e = some i) (hz : i.zero = some z) (hsz : i.size = size) (hb : i.bytes = bytes) (hzs : z.cells.size = size)
 (w : World) (B : Nat) (v : Value) (l : List α) (hv : w.ownsRow B e size v l.length (l.flatMap cs)) (p : Nat → Prop) (rd : World → Addr → α → Prop) (sv : Value) (m : List α) (hs : SlR p size rd w sv m)
 (hrd : ∀ ad x, ad.spot = none → rd w ad x → ∀ c u, (cs x)[c]? = some u → w.cell? ⟨ad.block, ad.off + c, none⟩ = some u) (hlen : l.length + m.length ≤ 10000) (hB : B ≤ w.heap.size) :
 ∃ v' w', (Builtin.append_ #[t, t] ty #[v, sv]).run Tryz.prog w = .ok v' w' ∧ w'.ownsRow B e size v' (l ++ m).length ((l ++ m).flatMap cs) ∧ Chg v.ownBlock.toList w w' ∧ (∀ g, v'.ownBlock = some g → v.ownBlock = some g ∨ w.heap.size ≤ g) := by
 obtain ⟨a, cap, rfl, h1, h2, h3⟩ := hs
 by_cases h0 : m = []
 · subst h0
   refine ⟨v, w, ?_, by simpa using hv, Chg.refl _ _, fun g hg => Or.inl hg⟩
   rcases hv.2 with ⟨rfl, h1⟩ | ⟨g, cap', cur, rfl, _, _, hnc, _⟩
   · cases a <;> simp [Builtin.append_, run_underlying ht, sizeOf, typeInfo, hi, Builtin.lenOf, Builtin.firstCells, h1, loadCells, loadCellsFrom, Result.andThen]
   · cases a <;> simp [Builtin.append_, run_underlying ht, sizeOf, typeInfo, hi, Builtin.lenOf, Builtin.firstCells, hnc, storeCells, loadCells, loadCellsFrom, Result.andThen]
 · have hml : 0 < m.length := List.length_pos_iff.2 h0
   obtain ⟨g, off, rfl, hp, hc⟩ := h3 hml
   have hfl : ∀ (xs : List α), (xs.flatMap cs).length = xs.length * size := by
    intro xs
    induction xs with
    | nil => simp
    | cons x r ih => rw [List.flatMap_cons, List.length_append, hcs, ih, List.length_cons, Nat.add_mul, Nat.one_mul, Nat.add_comm]
   have hget : ∀ (xs : List α) (j : Nat) (u : Value), (xs.flatMap cs)[j]? = some u → ∃ k, ∃ hk : k < xs.length, ∃ c, j = k * size + c ∧ (cs (xs[k]'hk))[c]? = some u := by
    intro xs
    induction xs with
    | nil => intro j u h; simp at h
    | cons x r ih =>
      intro j u h
      rw [List.flatMap_cons] at h
      by_cases hj : j < size
      · rw [List.getElem?_append_left (by rw [hcs]; exact hj)] at h
        exact ⟨0, by simp, j, by simp, h⟩
      · rw [List.getElem?_append_right (by rw [hcs]; omega), hcs] at h
        obtain ⟨k, hk, c, e1, e2⟩ := ih _ u h
        exact ⟨k + 1, by simpa using hk, c, by rw [Nat.add_mul, Nat.one_mul]; omega, e2⟩
   have hmul : (l.length + m.length) * bytes ≤ 10000 * 200 := Nat.mul_le_mul hlen hby
   obtain ⟨v', w', hr, ho, hg, _, hob⟩ := run_append_own_at (P := Tryz.prog) w B t ty e i z size bytes ht hi hz hsz hb hzs hpos v l.length (l.flatMap cs) hv ⟨g, off, none⟩ m.length cap (m.flatMap cs) (hfl m) (fun j u hj => by
    obtain ⟨k, hk, c, e1, e2⟩ := hget m j u hj
    have := hrd _ _ rfl (hc k hk) c u e2
    rw [Addr.add_lit, e1, ← Nat.add_assoc]
    exact this) (fun u hu => by
    obtain ⟨x, _, hx⟩ := List.mem_flatMap.1 hu
    exact hone x u hx) (by unfold maxLen; omega) (by omega) hB
   refine ⟨v', w', hr, ?_, (Chg.refl _ w).grown hg (by intro k hk; left; simp [hk]), fun g' hg' => ?_⟩
   · rw [List.length_append, List.flatMap_append]; exact ho
   · rcases hob with h | h
     · exact Or.inl (by rw [← h]; exact hg')
     · rw [h] at hg'; cases hg'; exact Or.inr (Nat.le_refl _)
theorem encD_one (x : Dc) : ∀ u ∈ encD x, u.oneCell' = true := by
 intro u hu
 simp [encD] at hu
 rcases hu with rfl | rfl | rfl <;> rfl
theorem run_append_docs (w : World) (ty : TypeId) (B : Nat) (v sv : Value) (l m : List Dc) (p : Nat → Prop) (hv : OwnD w B v l) (hs : DcP p w sv m) (hlen : l.length + m.length ≤ 10000) (hB : B ≤ w.heap.size) :
 ∃ v' w', (Builtin.append_ #[25, 25] ty #[v, sv]).run Tryz.prog w = .ok v' w' ∧ OwnD w' B v' (l ++ m) ∧ Chg v.ownBlock.toList w w' ∧ (∀ g, v'.ownBlock = some g → v.ownBlock = some g ∨ w.heap.size ≤ g) := by
 obtain ⟨i0, hi, hz0, hz1, hz2⟩ := info_parts infoDc
 exact run_append_gen encD 3 40 (fun _ => rfl) encD_one (by decide) (by decide) _ ty _ i0 _ Tryz.underlying25 hi hz0 hz1 hz2 rfl w B v l hv p rdDc sv m hs (fun ad x hsp hx c u hc => by
  obtain ⟨h0, h1, h2⟩ := hx
  obtain ⟨b, o, s⟩ := ad
  simp only at hsp h0 h1 h2 ⊢
  subst hsp
  match c with
  | 0 => simp [encD] at hc; rw [← hc]; exact h0
  | 1 => simp [encD] at hc; rw [← hc]; exact h1
  | 2 => simp [encD] at hc; rw [← hc]; exact h2
  | c + 3 => simp [encD] at hc) hlen hB
theorem docClone_any (p : Nat → Prop) (w : World) (v : Value) (D : List Dc) (h : DcP p w v D) (hl : D.length ≤ 1000) :
 Calls Tryz.prog 12 #[v] w fun e w' => ∃ v', e = .returned v' ∧ OwnD w' w.heap.size v' D ∧ Chg [] w w' := by
 obtain ⟨v', w', hr, ho, hc, _⟩ := run_append_docs w 25 w.heap.size (.slice none 0 0) v [] D p (OwnD.nil _ _) h (by simpa using Nat.le_trans hl (by decide)) (Nat.le_refl _)
 have Hr := Lib.hid hr
 have Ho := Lib.hid (And.intro ho hc)
 clear h hr ho hc
 go_enter Tryz.func12, Tryz.ntmps12
 go_wp2_with (at_builtin; refine wpList_append_run rfl _ _ _ rfl _ _ _ _ rfl rfl Hr.out ?_)
 go_ret
 exact ⟨v', rfl, by simpa using Ho.out.1, Ho.out.2⟩
def encEv (e : F.FEv) : List Value := [.int .i64 e.1, .string e.2.1, .int .i64 e.2.2]
theorem encEv_one (x : F.FEv) : ∀ u ∈ encEv x, u.oneCell' = true := by
 intro u hu
 simp [encEv] at hu
 rcases hu with rfl | rfl | rfl <;> rfl
theorem infoEvT : (Tryz.prog.info? 36).map (fun i => (i.zero, i.size, i.bytes)) = some (some (.agg #[.int .i64 0, .string ⟨#[]⟩, .int .i64 0]), 3, 32) := by kernel_rfl
theorem run_append_evs (w : World) (ty : TypeId) (B : Nat) (v sv : Value) (l m : List F.FEv) (p : Nat → Prop) (hv : F.OwnEv w B v l) (hs : F.EvsP p w sv m) (hlen : l.length + m.length ≤ 10000) (hB : B ≤ w.heap.size) :
 ∃ v' w', (Builtin.append_ #[23, 23] ty #[v, sv]).run Tryz.prog w = .ok v' w' ∧ F.OwnEv w' B v' (l ++ m) ∧ Chg v.ownBlock.toList w w' ∧ (∀ g, v'.ownBlock = some g → v.ownBlock = some g ∨ w.heap.size ≤ g) := by
 obtain ⟨i0, hi, hz0, hz1, hz2⟩ := info_parts infoEvT
 exact run_append_gen encEv 3 32 (fun _ => rfl) encEv_one (by decide) (by decide) _ ty _ i0 _ Tryz.underlying23 hi hz0 hz1 hz2 rfl w B v l hv p F.rdEv sv m hs (fun ad x hsp hx c u hc => by
  obtain ⟨h0, h1, h2⟩ := hx
  obtain ⟨b, o, s⟩ := ad
  simp only at hsp h0 h1 h2 ⊢
  subst hsp
  match c with
  | 0 => simp [encEv] at hc; rw [← hc]; exact h0
  | 1 => simp [encEv] at hc; rw [← hc]; exact h1
  | 2 => simp [encEv] at hc; rw [← hc]; exact h2
  | c + 3 => simp [encEv] at hc) hlen hB
theorem evClone_any (p : Nat → Prop) (w : World) (v : Value) (D : List F.FEv) (h : F.EvsP p w v D) (hl : D.length ≤ 1000) :
 Calls Tryz.prog 10 #[v] w fun e w' => ∃ v', e = .returned v' ∧ F.OwnEv w' w.heap.size v' D ∧ Chg [] w w' := by
 obtain ⟨v', w', hr, ho, hc, _⟩ := run_append_evs w 23 w.heap.size (.slice none 0 0) v [] D p (F.OwnEv.nil _ _) h (by simpa using Nat.le_trans hl (by decide)) (Nat.le_refl _)
 have Hr := Lib.hid hr
 have Ho := Lib.hid (And.intro ho hc)
 clear h hr ho hc
 go_enter Tryz.func10, Tryz.ntmps10
 go_wp2_with (at_builtin; refine wpList_append_run rfl _ _ _ rfl _ _ _ _ rfl rfl Hr.out ?_)
 go_ret
 exact ⟨v', rfl, by simpa using Ho.out.1, Ho.out.2⟩
theorem lt_bytes {a b : ByteArray} : Op.bytesLess a.toList b.toList = true ↔ bl a < bl b := by
 rw [ByteArray.toList_eq, ByteArray.toList_eq]
 exact bytesLess_iff _ _
def insS (R : List ByteArray) (i : Nat) (x : ByteArray) : List ByteArray := R.take i ++ x :: R.drop i
theorem insS_lt {R : List ByteArray} {i : Nat} {x : ByteArray} (hR : R.Pairwise fun a b => bl a < bl b) (hi : i ≤ R.length) (h1 : ∀ y ∈ R.take i, bl y < bl x) (h2 : ∀ y ∈ R.drop i, bl x < bl y) : (insS R i x).Pairwise fun a b => bl a < bl b := by
 unfold insS
 rw [List.pairwise_append]
 have h3 : (R.take i ++ R.drop i).Pairwise fun a b => bl a < bl b := by rw [List.take_append_drop]; exact hR
 rw [List.pairwise_append] at h3
 refine ⟨h3.1, List.pairwise_cons.2 ⟨h2, h3.2.1⟩, fun a ha b hb => ?_⟩
 rcases List.mem_cons.1 hb with h | h
 · rw [h]; exact h1 a ha
 · exact h3.2.2 a ha b h
theorem insS_mem {R : List ByteArray} {i : Nat} {x y : ByteArray} : y ∈ insS R i x ↔ y = x ∨ y ∈ R := by
 unfold insS
 rw [List.mem_append, List.mem_cons]
 have : y ∈ R ↔ y ∈ R.take i ∨ y ∈ R.drop i := by rw [← List.mem_append, List.take_append_drop]
 rw [this]
 constructor
 · rintro (h | h | h)
   · exact Or.inr (Or.inl h)
   · exact Or.inl h
   · exact Or.inr (Or.inr h)
 · rintro (h | h | h)
   · exact Or.inr (Or.inl h)
   · exact Or.inl h
   · exact Or.inr (Or.inr h)
theorem run_append_names (w : World) (ty : TypeId) (B : Nat) (v sv : Value) (l m : List ByteArray) (p : Nat → Prop) (hv : OwnS w B v l) (hs : StrsP p w sv m) (hlen : l.length + m.length ≤ 10000) (hB : B ≤ w.heap.size) :
 ∃ v' w', (Builtin.append_ #[22, 22] ty #[v, sv]).run Tryz.prog w = .ok v' w' ∧ OwnS w' B v' (l ++ m) ∧ Chg v.ownBlock.toList w w' ∧ (∀ g, v'.ownBlock = some g → v.ownBlock = some g ∨ w.heap.size ≤ g) := by
 obtain ⟨i0, hi, hz0, hz1, hz2⟩ := info_parts Tryz.infoStr
 have hfm : ∀ xs : List ByteArray, xs.flatMap (fun x => [sk x]) = xs.map sk := fun xs => by induction xs with
  | nil => rfl
  | cons x r ih => rw [List.flatMap_cons, ih]; rfl
 have := run_append_gen (fun x => [sk x]) 1 16 (fun _ => rfl) (fun x u hu => by rw [List.mem_singleton.1 hu]; rfl) (by decide) (by decide) _ ty _ i0 _ Tryz.underlying22 hi hz0 hz1 hz2 rfl w B v l (by rw [hfm]; exact hv) p rdStr sv m hs (fun ad x hsp hx c u hc => by
  obtain ⟨b, o, s⟩ := ad
  unfold rdStr at hx
  simp only at hsp hx ⊢
  subst hsp
  match c with
  | 0 => simp at hc; rw [← hc]; exact hx
  | c + 1 => simp at hc) hlen hB
 obtain ⟨v', w', hr, ho, hc, hb⟩ := this
 rw [hfm] at ho
 exact ⟨v', w', hr, ho, hc, hb⟩
theorem run_front_names (w : World) (ty : TypeId) (B : Nat) (a : Option Addr) (n cap : Nat) (l : List ByteArray) (i : Nat) (hi : i ≤ l.length) (hv : OwnS w B (.slice a n cap) l) (p : Nat → Prop) (sv : Value) (m : List ByteArray) (hs : StrsP p w sv m) (hm : 0 < m.length) (hlen : l.length + m.length ≤ 10000) :
 ∃ v' w', (Builtin.append_ #[22, 22] ty #[.slice a i i, sv]).run Tryz.prog w = .ok v' w' ∧ OwnS w' w.heap.size v' (l.take i ++ m) ∧ Chg [] w w' := by
 obtain ⟨i0, hi0, hz0, hz1, hz2⟩ := info_parts Tryz.infoStr
 have hl : (l.take i).length = i := by rw [List.length_take]; omega
 rcases hv.2 with ⟨hv0, h0⟩ | ⟨g, cap', cur, hv1, h1, h2, h3, h4, h5, h6⟩
 · simp only [Value.slice.injEq] at hv0
   obtain ⟨rfl, _, _⟩ := hv0
   obtain rfl : i = 0 := by omega
   obtain ⟨v', w', hr, ho, hc, _⟩ := run_append_names w ty w.heap.size (.slice none 0 0) sv [] m p (OwnS.nil _ _) hs (by simp; omega) (Nat.le_refl _)
   exact ⟨v', w', hr, by simpa using ho, hc⟩
 · simp only [Value.slice.injEq] at hv1
   obtain ⟨rfl, rfl, rfl⟩ := hv1
   obtain ⟨a2, cap2, rfl, k1, k2, k3⟩ := hs
   obtain ⟨g2, off2, rfl, hp, hc⟩ := k3 hm
   obtain ⟨v', w', hr, ho, hg⟩ := run_append_arg_grows (P := Tryz.prog) w 22 ty 9 i0 (.string ⟨#[]⟩) 1 16 Tryz.underlying22 hi0 hz0 hz1 hz2 rfl (by decide) ⟨g, 0, none⟩ i i ((l.take i).map sk) (by simp; omega) (fun j u hj => by
    refine World.ownsRow.cells hv (g := g) rfl j u ?_
    rw [List.map_take] at hj
    rw [List.getElem?_take] at hj
    split at hj
    · exact hj
    · cases hj) ⟨g2, off2, none⟩ m.length cap2 (m.map sk) (by simp) (fun j u hj => by
    have hj' : j < m.length := by have := (List.getElem?_eq_some_iff.1 hj).1; simpa using this
    have := hc j hj'
    unfold rdStr at this
    rw [Nat.mul_one] at this
    rw [Addr.add_lit, this]
    simpa [hj', sk] using hj) (by omega) (by unfold maxLen; omega) (by omega)
   refine ⟨v', w', hr, ?_, (Chg.refl [] w).grown hg (by simp)⟩
   unfold OwnS
   rw [List.map_append, List.length_append, hl]
   exact ho
def SsPost (l : List ByteArray) (w : World) (e : Ending) (w' : World) : Prop := ∃ v, e = .returned v ∧ StrsP (fun g => w.heap.size ≤ g ∧ g < w'.heap.size) w' v (srt l) ∧ Chg [] w w'
theorem srt_strict {l : List ByteArray} (h : l.Nodup) : (srt l).Pairwise fun a b => bl a < bl b := F.srt_lt h
set_option maxRecDepth 100000 in
set_option maxHeartbeats 8000000 in
theorem sortStrings_any (p : Nat → Prop) (w : World) (v : Value) (l : List ByteArray) (h : StrsP p w v l) (hn : l.Nodup) (hl : l.length ≤ 1000) :
 Calls Tryz.prog 17 #[v] w (SsPost l w) := by
 obtain ⟨a, cap, rfl, hml, hcp⟩ := h.shape
 have H := Lib.hid h
 have Hn := Lib.hid hn
 clear h hn hml
 go_enter Tryz.func17, Tryz.ntmps17
 go_wp2_with fail
 go_loopw [3, 9] (fun v3 i wr => ∃ (n : Nat) (R : List ByteArray) (a3 : Option Addr) (c3 : Nat), n ≤ l.length ∧ R.length ≤ n ∧ i = .int .i64 (n : Nat) ∧ v3 = .slice a3 R.length c3 ∧ Hid (OwnS wr w.heap.size (.slice a3 R.length c3) R ∧ Chg [] w wr) ∧ Hid ((R.Pairwise fun a b => bl a < bl b) ∧ ∀ x, x ∈ R ↔ x ∈ l.take n)) (fun _ i _ => l.length - (intOf i).toNat)
 case atStart => exact ⟨0, [], none, 0, by omega, by simp, rfl, rfl, Lib.hid ⟨OwnS.nil _ _, Chg.refl _ _⟩, Lib.hid ⟨List.Pairwise.nil, by simp⟩⟩
 case round =>
  obtain ⟨n, R, a3, c3, hn, hRn, rfl, rfl, HO, HP⟩ := hrel
  by_cases hlt : n < l.length
  · obtain ⟨g, off, rfl, _, c0⟩ := (H.out.same HO.out.2).cell n hlt
    obtain ⟨x, hx⟩ : ∃ x, l.getD n ⟨#[]⟩ = x := ⟨_, rfl⟩
    rw [hx] at c0
    have hxl : l[n] = x := by rw [← hx, List.getD_eq_getElem?_getD, List.getElem?_eq_getElem hlt]; rfl
    have hxR : x ∉ R := by
     intro hm
     have h1 := (HP.out.2 x).1 hm
     have h2 : (l.take n ++ [x]).Nodup := by
      rw [← hxl, ← List.take_succ_eq_append_getElem hlt]
      exact Hn.out.sublist (List.take_sublist _ _)
     rw [List.nodup_append] at h2
     exact h2.2.2 x h1 x (by simp) rfl
    have hmem : ∀ y, y ∈ l.take (n + 1) ↔ y = x ∨ y ∈ R := fun y => by
     rw [List.take_succ_eq_append_getElem hlt, hxl, List.mem_append, List.mem_singleton, HP.out.2 y]
     exact Or.comm
    have Hx := Lib.hid (And.intro hxR hmem)
    have lg := lt_of_cell c0
    have hn1 : (n : Int) < l.length := by omega
    have hn0 : (0 : Int) ≤ (n : Int) := by omega
    clear hx hxl hxR hmem
    obtain ⟨w4, hw4⟩ : ∃ y, y = wr := ⟨_, rfl⟩
    rw [← hw4] at HO c0 lg ⊢
    clear hw4
    go_wp2_with fail
    go_loopw [6] (fun i wx => ∃ j : Nat, j ≤ R.length ∧ i = .int .i64 (j : Nat) ∧ Hid (∀ y ∈ R.take j, bl y < bl x) ∧ wx = w4) (fun i _ => R.length - (intOf i).toNat)
    case atStart => exact ⟨0, by omega, rfl, Lib.hid (by simp), rfl⟩
    case round =>
     obtain ⟨j, hj, rfl, Hj, rfl⟩ := hrel
     have hj0 : (0 : Int) ≤ (j : Int) := by omega
     by_cases hjl : j < R.length
     · obtain ⟨g4, off4, he4, _, d0⟩ := (HO.out.1.strs).cell j hjl
       subst he4
       obtain rfl : off4 = 0 := by
        rcases HO.out.1.2 with ⟨hv0, h0⟩ | ⟨g, cap', cur, hv1, _⟩
        · omega
        · simp only [Value.slice.injEq, Option.some.injEq, Addr.mk.injEq] at hv1
          exact hv1.1.2.1
       rw [Nat.zero_add] at d0
       have l4 := lt_of_cell d0
       obtain ⟨y, hy⟩ : ∃ y, R.getD j ⟨#[]⟩ = y := ⟨_, rfl⟩
       rw [hy] at d0
       have hyR : R[j] = y := by rw [← hy, List.getD_eq_getElem?_getD, List.getElem?_eq_getElem hjl]; rfl
       have hj1 : (j : Int) < R.length := by omega
       have Hy := Lib.hid hyR
       clear hy hyR
       have hne : (y.toList == x.toList) = false := by rw [beqS]; exact decide_eq_false fun e => Hx.out.1 (by rw [← e, ← Hy.out]; exact List.getElem_mem hjl)
       have hjn : ((j : Int) == (R.length : Int)) = false := by simp; omega
       have hjn2 : ¬ ((j : Int) = (R.length : Int)) := by omega
       obtain ⟨b, hb⟩ : ∃ b, Op.bytesLess y.toList x.toList = b := ⟨_, rfl⟩
       have Hb := Lib.hid hb
       cases b
       · have Hdr : Hid (∀ z ∈ R.drop j, bl x < bl z) := Lib.hid (by
          have hxy : bl x < bl y := by
           rcases List.le_iff_lt_or_eq.1 (show bl x ≤ bl y from List.not_lt.1 fun h => by have h2 := lt_bytes.2 h; rw [Hb.out] at h2; cases h2) with h | h
           · exact h
           · exact absurd (bl_inj h) (fun e => Hx.out.1 (by rw [e, ← Hy.out]; exact List.getElem_mem hjl))
          intro z hz
          obtain ⟨k, hk, rfl⟩ := List.getElem_of_mem hz
          rw [List.getElem_drop]
          rcases Nat.eq_zero_or_pos k with h0 | h0
          · subst h0
            simp only [Nat.add_zero, Hy.out]
            exact hxy
          · rw [List.length_drop] at hk
            have := (List.pairwise_iff_getElem.1 HP.out.1) j (j + k) hjl (by omega) (by omega)
            rw [Hy.out] at this
            exact List.lt_trans hxy this)
         obtain ⟨hc3, hc3m⟩ : R.length ≤ c3 ∧ c3 ≤ maxLen := by
          rcases HO.out.1.2 with ⟨hv0, h0⟩ | ⟨g, cap', cur, hv1, _, _, h3, h4, _⟩
          · omega
          · simp only [Value.slice.injEq] at hv1
            obtain ⟨_, _, rfl⟩ := hv1
            exact ⟨h3, h4⟩
         have hcap : ¬ c3 = j := by omega
         have hj9 : (j : Int) ≤ c3 := by omega
         have hj8 : (j : Int) ≤ R.length := by omega
         go_upto_region 9 with (fail)
         obtain ⟨wd, hwd⟩ : ∃ q, q = wr.drew := ⟨_, rfl⟩
         have hcd : Chg [] wr wd := by rw [hwd]; exact (Chg.refl [] _).drew
         obtain ⟨w6, hw6⟩ : ∃ q, q = wd.alloc (.cells #[.string x] 9) := ⟨_, rfl⟩
         obtain ⟨n6, hn6⟩ : ∃ q, q = wr.heap.size := ⟨_, rfl⟩
         have hc6 : Chg [] wd w6 := by rw [hw6]; exact (Chg.refl [] _).alloc _
         have hb6 : w6.heap[n6]? = some (.cells #[.string x] 9 (0, 0)) := by rw [hw6, hn6]; exact heap_at _ _ _ (by rw [hwd]; rfl)
         have hc06 := hcd.trans hc6
         have ho6 := HO.out.1.same hc06
         have hx6 : OwnS w6 n6 (.slice (some ⟨n6, 0, none⟩) 1 1) [x] := ⟨rfl, .inr ⟨n6, 1, _, rfl, Nat.le_refl _, hb6, by simp, by simp [maxLen], by simp, rfl⟩⟩
         have hsv : StrsP (fun _ => True) w6 (.slice (some ⟨g4, j, none⟩) (R.length - j) (c3 - j)) (R.drop j) := by
          refine ⟨_, _, by rw [List.length_drop], by rw [List.length_drop]; omega, by omega, fun _ => ⟨g4, j, rfl, trivial, fun k hk => ?_⟩⟩
          rw [List.length_drop] at hk
          obtain ⟨g5, off5, he5, _, d5⟩ := (ho6.strs).cell (j + k) (by omega)
          obtain ⟨rfl, rfl⟩ : g4 = g5 ∧ 0 = off5 := by simpa using he5
          rw [List.getElem_drop]
          unfold rdStr
          have e1 : R.getD (j + k) ⟨#[]⟩ = R[j + k]'(by omega) := by rw [List.getD_eq_getElem?_getD, List.getElem?_eq_getElem (by omega)]; rfl
          rw [e1] at d5
          rw [Nat.mul_one]
          rw [Nat.zero_add] at d5
          exact d5
         have hdl : (R.drop j).length ≤ R.length := by rw [List.length_drop]; omega
         obtain ⟨v7, w7, hr7, ho7, hc7, _⟩ := run_append_names w6 22 n6 _ _ _ _ _ hx6 hsv (by rw [List.length_singleton]; omega) (by rw [hn6]; exact hc06.size)
         have ho67 : OwnS w7 w.heap.size (.slice (some ⟨g4, 0, none⟩) R.length c3) R := ho6.kept hc7.toP fun g hg hm => by
          have h1 : g = n6 := by simpa [Value.ownBlock] using hm
          have h2 := (ownsRow_ge HO.out.1 hg).2
          omega
         obtain ⟨v8, w8, hr8, ho8, hc8⟩ := run_front_names w7 22 w.heap.size _ _ _ R j (by omega) ho67 _ _ _ ho7.strs (by simp) (by simp; omega)
         obtain ⟨a8, c8, rfl⟩ := ownsRow_shape ho8
         have hI : R.take j ++ ([x] ++ R.drop j) = insS R j x := rfl
         have hIl : (insS R j x).length = R.length + 1 := by unfold insS; simp <;> omega
         rw [hI, hIl] at hr8
         rw [hI] at ho8
         have hcw : Chg [] wr w8 := Chg.trans (hc06.comp hc7 (S := []) fun g hg => Or.inr (Nat.le_of_eq (by rw [← hn6]; exact (show g = n6 by simpa [Value.ownBlock] using hg).symm))) hc8
         have hb8 : w.heap.size ≤ w7.heap.size := by have := HO.out.2.size; have := hc06.size; have := hc7.size; omega
         have hlt8 := insS_lt HP.out.1 (i := j) (x := x) (by omega) Hj.out (Hdr.out)
         have H8 := Lib.hid (show OwnS w8 w.heap.size (.slice a8 (insS R j x).length c8) (insS R j x) ∧ Chg [] w w8 from ⟨by unfold OwnS at ho8 ⊢; exact ownsRow_base ho8 hb8, HO.out.2.trans hcw⟩)
         have H8p := Lib.hid (show ((insS R j x).Pairwise fun a b => bl a < bl b) ∧ ∀ y, y ∈ insS R j x ↔ y ∈ l.take (n + 1) from ⟨hlt8, fun y => by rw [insS_mem, Hx.out.2]⟩)
         rw [hw6, hn6, hwd] at hr7
         have hr7' : (Builtin.append_ #[22, 22] 22 #[.slice (some ⟨wr.heap.size, 0, none⟩) 1 1, .slice (some ⟨g4, j, none⟩) (R.length - j) (c3 - j)]).run Tryz.prog ((wr.alloc (.cells #[.string x] 9)).drew) = .ok v7 w7 := hr7
         have Hr7 := Lib.hid hr7'
         have Hr8 := Lib.hid hr8
         have HIl := Lib.hid hIl
         obtain ⟨R', hR'⟩ : ∃ R', R' = insS R j x := ⟨_, rfl⟩
         rw [← hR'] at H8 H8p HIl
         clear hwd hcd hw6 hn6 hc6 hb6 hc06 ho6 hx6 hsv hdl hr7 ho7 hc7 ho67 hr7' hr8 ho8 hc8 hI hIl hcw hb8 hlt8 hR'
         go_region_law (first | (refine step_append_run rfl _ _ _ rfl (.slice (some ⟨wr.heap.size, 0, none⟩) 1 1) (.slice (some ⟨g4, j, none⟩) (R.length - j) (c3 - j)) v7 w7 rfl rfl Hr7.out ?_) | (refine step_append_run rfl _ _ _ rfl (.slice (some ⟨g4, 0, none⟩) j j) v7 _ w8 rfl rfl Hr8.out ?_))
         all_goals
          try simp only [getElem_toArray, getElem_cons_zero, getElem_cons_succ]
          go_wp2_with fail
          exact ⟨⟨n + 1, R', a8, c8, by omega, by rw [HIl.out]; omega, by go_num, by rw [HIl.out], H8, H8p⟩, by simp [intOf]; omega⟩
       · go_wp2_with fail
         refine ⟨⟨j + 1, by omega, by go_num, Lib.hid ?_, trivial⟩, by simp [intOf]; omega⟩
         intro z hz
         rw [List.take_succ_eq_append_getElem hjl, List.mem_append, List.mem_singleton] at hz
         rcases hz with hz | hz
         · exact Hj.out z hz
         · rw [hz, Hy.out]; exact lt_bytes.1 Hb.out
     · obtain rfl : j = R.length := by omega
       go_upto_region 9 with (fail)
       rcases HO.out.1.2 with ⟨hv0, h0⟩ | ⟨g, cap', cur, hv1, _, _, h3, h4, _⟩
       · simp only [Value.slice.injEq] at hv0
         obtain ⟨rfl, _, rfl⟩ := hv0
         have hR0 : R = [] := List.eq_nil_of_length_eq_zero h0
         subst hR0
         obtain ⟨wd, hwd⟩ : ∃ q, q = wr.drew := ⟨_, rfl⟩
         have hcd : Chg [] wr wd := by rw [hwd]; exact (Chg.refl [] _).drew
         obtain ⟨w6, hw6⟩ : ∃ q, q = wd.alloc (.cells #[.string x] 9) := ⟨_, rfl⟩
         obtain ⟨n6, hn6⟩ : ∃ q, q = wr.heap.size := ⟨_, rfl⟩
         have hc6 : Chg [] wd w6 := by rw [hw6]; exact (Chg.refl [] _).alloc _
         have hb6 : w6.heap[n6]? = some (.cells #[.string x] 9 (0, 0)) := by rw [hw6, hn6]; exact heap_at _ _ _ (by rw [hwd]; rfl)
         have hc06 := hcd.trans hc6
         have ho6 := HO.out.1.same hc06
         have hx6 : OwnS w6 n6 (.slice (some ⟨n6, 0, none⟩) 1 1) [x] := ⟨rfl, .inr ⟨n6, 1, _, rfl, Nat.le_refl _, hb6, by simp, by simp [maxLen], by simp, rfl⟩⟩
         have hsv : StrsP (fun _ => True) w6 (.slice none 0 0) ([]) := SlR.nil _ _ _ _
         have hdl : (0 : Nat) ≤ 0 := Nat.le_refl _
         obtain ⟨w7, hw7⟩ : ∃ y, y = w6 := ⟨_, rfl⟩
         have ho7 : OwnS w7 n6 (.slice (some ⟨n6, 0, none⟩) 1 1) ([x] ++ []) := by rw [hw7]; exact hx6
         have hc7 : Chg (Value.slice (some ⟨n6, 0, none⟩) 1 1).ownBlock.toList w6 w7 := by rw [hw7]; exact Chg.refl _ _
         have ho67 : OwnS w7 w.heap.size (.slice none 0 0) [] := ho6.kept hc7.toP fun g hg hm => by
          have h1 : g = n6 := by simpa [Value.ownBlock] using hm
          have h2 := (ownsRow_ge HO.out.1 hg).2
          omega
         obtain ⟨v8, w8, hr8, ho8, hc8⟩ := run_front_names w7 22 w.heap.size _ _ _ [] 0 (by omega) ho67 _ _ _ ho7.strs (by simp) (by simp)
         obtain ⟨a8, c8, rfl⟩ := ownsRow_shape ho8
         have hI : (([] : List ByteArray).take 0 ++ ([x] ++ ([] : List ByteArray))) = insS [] 0 x := rfl
         have hIl : (insS [] 0 x).length = 0 + 1 := by unfold insS; simp <;> omega
         rw [hI, hIl] at hr8
         rw [hI] at ho8
         have hcw : Chg [] wr w8 := Chg.trans (hc06.comp hc7 (S := []) fun g hg => Or.inr (Nat.le_of_eq (by rw [← hn6]; exact (show g = n6 by simpa [Value.ownBlock] using hg).symm))) hc8
         have hb8 : w.heap.size ≤ w7.heap.size := by have := HO.out.2.size; have := hc06.size; have := hc7.size; omega
         have hlt8 := insS_lt HP.out.1 (i := 0) (x := x) (by omega) Hj.out (by simp)
         have H8 := Lib.hid (show OwnS w8 w.heap.size (.slice a8 (insS [] 0 x).length c8) (insS [] 0 x) ∧ Chg [] w w8 from ⟨by unfold OwnS at ho8 ⊢; exact ownsRow_base ho8 hb8, HO.out.2.trans hcw⟩)
         have H8p := Lib.hid (show ((insS [] 0 x).Pairwise fun a b => bl a < bl b) ∧ ∀ y, y ∈ insS [] 0 x ↔ y ∈ l.take (n + 1) from ⟨hlt8, fun y => by rw [insS_mem, Hx.out.2]⟩)
         rw [hw7, hw6, hn6, hwd] at hr8
         have Hr8 := Lib.hid hr8
         have HIl := Lib.hid hIl
         obtain ⟨R', hR'⟩ : ∃ R', R' = insS [] 0 x := ⟨_, rfl⟩
         rw [← hR'] at H8 H8p HIl
         clear hwd hcd hw6 hn6 hc6 hb6 hc06 ho6 hx6 hsv hdl hw7 ho7 hc7 ho67 hr8 ho8 hc8 hI hIl hcw hb8 hlt8 hR'
         go_region_law (refine step_append_run rfl _ _ _ rfl (.slice none 0 0) (.slice (some ⟨wr.heap.size, 0, none⟩) 1 1) _ w8 rfl rfl Hr8.out ?_)
         all_goals
          try simp only [getElem_toArray, getElem_cons_zero, getElem_cons_succ]
          go_wp2_with fail
          exact ⟨⟨n + 1, R', a8, c8, by omega, by rw [HIl.out]; omega, by go_num, by rw [HIl.out], H8, H8p⟩, by simp [intOf]; omega⟩
       · simp only [Value.slice.injEq] at hv1
         obtain ⟨rfl, _, rfl⟩ := hv1
         by_cases hcap : c3 = R.length
         · obtain ⟨wd, hwd⟩ : ∃ q, q = wr.drew := ⟨_, rfl⟩
           have hcd : Chg [] wr wd := by rw [hwd]; exact (Chg.refl [] _).drew
           obtain ⟨w6, hw6⟩ : ∃ q, q = wd.alloc (.cells #[.string x] 9) := ⟨_, rfl⟩
           obtain ⟨n6, hn6⟩ : ∃ q, q = wr.heap.size := ⟨_, rfl⟩
           have hc6 : Chg [] wd w6 := by rw [hw6]; exact (Chg.refl [] _).alloc _
           have hb6 : w6.heap[n6]? = some (.cells #[.string x] 9 (0, 0)) := by rw [hw6, hn6]; exact heap_at _ _ _ (by rw [hwd]; rfl)
           have hc06 := hcd.trans hc6
           have ho6 := HO.out.1.same hc06
           have hx6 : OwnS w6 n6 (.slice (some ⟨n6, 0, none⟩) 1 1) [x] := ⟨rfl, .inr ⟨n6, 1, _, rfl, Nat.le_refl _, hb6, by simp, by simp [maxLen], by simp, rfl⟩⟩
           have hsv : StrsP (fun _ => True) w6 (.slice (some ⟨g, 0, none⟩) 0 (c3 - R.length)) (R.drop R.length) := by rw [List.drop_length]; exact ⟨_, _, rfl, Nat.zero_le _, by omega, fun h => absurd h (by simp)⟩
           have hdl : (R.drop R.length).length ≤ R.length := by rw [List.length_drop]; omega
           obtain ⟨w7, hw7⟩ : ∃ y, y = w6 := ⟨_, rfl⟩
           have ho7 : OwnS w7 n6 (.slice (some ⟨n6, 0, none⟩) 1 1) ([x] ++ R.drop R.length) := by rw [hw7, List.drop_length, List.append_nil]; exact hx6
           have hc7 : Chg (Value.slice (some ⟨n6, 0, none⟩) 1 1).ownBlock.toList w6 w7 := by rw [hw7]; exact Chg.refl _ _
           have ho67 : OwnS w7 w.heap.size (.slice (some ⟨g, 0, none⟩) R.length c3) R := ho6.kept hc7.toP fun g hg hm => by
            have h1 : g = n6 := by simpa [Value.ownBlock] using hm
            have h2 := (ownsRow_ge HO.out.1 hg).2
            omega
           obtain ⟨v8, w8, hr8, ho8, hc8⟩ := run_front_names w7 22 w.heap.size _ _ _ R R.length (by omega) ho67 _ _ _ ho7.strs (by simp) (by simp; omega)
           obtain ⟨a8, c8, rfl⟩ := ownsRow_shape ho8
           have hI : R.take R.length ++ ([x] ++ R.drop R.length) = insS R R.length x := rfl
           have hIl : (insS R R.length x).length = R.length + 1 := by unfold insS; simp <;> omega
           rw [hI, hIl] at hr8
           rw [hI] at ho8
           have hcw : Chg [] wr w8 := Chg.trans (hc06.comp hc7 (S := []) fun g hg => Or.inr (Nat.le_of_eq (by rw [← hn6]; exact (show g = n6 by simpa [Value.ownBlock] using hg).symm))) hc8
           have hb8 : w.heap.size ≤ w7.heap.size := by have := HO.out.2.size; have := hc06.size; have := hc7.size; omega
           have hlt8 := insS_lt HP.out.1 (i := R.length) (x := x) (by omega) Hj.out (by rw [List.drop_length]; simp)
           have H8 := Lib.hid (show OwnS w8 w.heap.size (.slice a8 (insS R R.length x).length c8) (insS R R.length x) ∧ Chg [] w w8 from ⟨by unfold OwnS at ho8 ⊢; exact ownsRow_base ho8 hb8, HO.out.2.trans hcw⟩)
           have H8p := Lib.hid (show ((insS R R.length x).Pairwise fun a b => bl a < bl b) ∧ ∀ y, y ∈ insS R R.length x ↔ y ∈ l.take (n + 1) from ⟨hlt8, fun y => by rw [insS_mem, Hx.out.2]⟩)
           rw [hw7, hw6, hn6, hwd] at hr8
           have Hr8 := Lib.hid hr8
           have HIl := Lib.hid hIl
           obtain ⟨R', hR'⟩ : ∃ R', R' = insS R R.length x := ⟨_, rfl⟩
           rw [← hR'] at H8 H8p HIl
           clear hwd hcd hw6 hn6 hc6 hb6 hc06 ho6 hx6 hsv hdl hw7 ho7 hc7 ho67 hr8 ho8 hc8 hI hIl hcw hb8 hlt8 hR'
           go_region_law (refine step_append_run rfl _ _ _ rfl (.slice (some ⟨g, 0, none⟩) R.length R.length) (.slice (some ⟨wr.heap.size, 0, none⟩) 1 1) _ w8 rfl rfl Hr8.out ?_)
           all_goals
            try simp only [getElem_toArray, getElem_cons_zero, getElem_cons_succ]
            go_wp2_with fail
            exact ⟨⟨n + 1, R', a8, c8, by omega, by rw [HIl.out]; omega, by go_num, by rw [HIl.out], H8, H8p⟩, by simp [intOf]; omega⟩
         · obtain ⟨wd, hwd⟩ : ∃ q, q = wr.drew := ⟨_, rfl⟩
           have hcd : Chg [] wr wd := by rw [hwd]; exact (Chg.refl [] _).drew
           obtain ⟨w6, hw6⟩ : ∃ q, q = wd.alloc (.cells #[.string x] 9) := ⟨_, rfl⟩
           obtain ⟨n6, hn6⟩ : ∃ q, q = wr.heap.size := ⟨_, rfl⟩
           have hc6 : Chg [] wd w6 := by rw [hw6]; exact (Chg.refl [] _).alloc _
           have hb6 : w6.heap[n6]? = some (.cells #[.string x] 9 (0, 0)) := by rw [hw6, hn6]; exact heap_at _ _ _ (by rw [hwd]; rfl)
           have hc06 := hcd.trans hc6
           have ho6 := HO.out.1.same hc06
           have hx6 : OwnS w6 n6 (.slice (some ⟨n6, 0, none⟩) 1 1) [x] := ⟨rfl, .inr ⟨n6, 1, _, rfl, Nat.le_refl _, hb6, by simp, by simp [maxLen], by simp, rfl⟩⟩
           have hsv : StrsP (fun _ => True) w6 (.slice (some ⟨g, R.length, none⟩) 0 (c3 - R.length)) (R.drop R.length) := by rw [List.drop_length]; exact ⟨_, _, rfl, Nat.zero_le _, by omega, fun h => absurd h (by simp)⟩
           have hdl : (R.drop R.length).length ≤ R.length := by rw [List.length_drop]; omega
           obtain ⟨w7, hw7⟩ : ∃ y, y = w6 := ⟨_, rfl⟩
           have ho7 : OwnS w7 n6 (.slice (some ⟨n6, 0, none⟩) 1 1) ([x] ++ R.drop R.length) := by rw [hw7, List.drop_length, List.append_nil]; exact hx6
           have hc7 : Chg (Value.slice (some ⟨n6, 0, none⟩) 1 1).ownBlock.toList w6 w7 := by rw [hw7]; exact Chg.refl _ _
           have ho67 : OwnS w7 w.heap.size (.slice (some ⟨g, 0, none⟩) R.length c3) R := ho6.kept hc7.toP fun g hg hm => by
            have h1 : g = n6 := by simpa [Value.ownBlock] using hm
            have h2 := (ownsRow_ge HO.out.1 hg).2
            omega
           obtain ⟨v8, w8, hr8, ho8, hc8⟩ := run_front_names w7 22 w.heap.size _ _ _ R R.length (by omega) ho67 _ _ _ ho7.strs (by simp) (by simp; omega)
           obtain ⟨a8, c8, rfl⟩ := ownsRow_shape ho8
           have hI : R.take R.length ++ ([x] ++ R.drop R.length) = insS R R.length x := rfl
           have hIl : (insS R R.length x).length = R.length + 1 := by unfold insS; simp <;> omega
           rw [hI, hIl] at hr8
           rw [hI] at ho8
           have hcw : Chg [] wr w8 := Chg.trans (hc06.comp hc7 (S := []) fun g hg => Or.inr (Nat.le_of_eq (by rw [← hn6]; exact (show g = n6 by simpa [Value.ownBlock] using hg).symm))) hc8
           have hb8 : w.heap.size ≤ w7.heap.size := by have := HO.out.2.size; have := hc06.size; have := hc7.size; omega
           have hlt8 := insS_lt HP.out.1 (i := R.length) (x := x) (by omega) Hj.out (by rw [List.drop_length]; simp)
           have H8 := Lib.hid (show OwnS w8 w.heap.size (.slice a8 (insS R R.length x).length c8) (insS R R.length x) ∧ Chg [] w w8 from ⟨by unfold OwnS at ho8 ⊢; exact ownsRow_base ho8 hb8, HO.out.2.trans hcw⟩)
           have H8p := Lib.hid (show ((insS R R.length x).Pairwise fun a b => bl a < bl b) ∧ ∀ y, y ∈ insS R R.length x ↔ y ∈ l.take (n + 1) from ⟨hlt8, fun y => by rw [insS_mem, Hx.out.2]⟩)
           rw [hw7, hw6, hn6, hwd] at hr8
           have Hr8 := Lib.hid hr8
           have HIl := Lib.hid hIl
           obtain ⟨R', hR'⟩ : ∃ R', R' = insS R R.length x := ⟨_, rfl⟩
           rw [← hR'] at H8 H8p HIl
           clear hwd hcd hw6 hn6 hc6 hb6 hc06 ho6 hx6 hsv hdl hw7 ho7 hc7 ho67 hr8 ho8 hc8 hI hIl hcw hb8 hlt8 hR'
           go_region_law (refine step_append_run rfl _ _ _ rfl (.slice (some ⟨g, 0, none⟩) R.length R.length) (.slice (some ⟨wr.heap.size, 0, none⟩) 1 1) _ w8 rfl rfl Hr8.out ?_)
           all_goals
            try simp only [getElem_toArray, getElem_cons_zero, getElem_cons_succ]
            go_wp2_with fail
            exact ⟨⟨n + 1, R', a8, c8, by omega, by rw [HIl.out]; omega, by go_num, by rw [HIl.out], H8, H8p⟩, by simp [intOf]; omega⟩
  · have hn1 : ¬ ((n : Int) < l.length) := by omega
    have hnl : n = l.length := by omega
    have Hnl := Lib.hid hnl
    clear hnl
    go_wp2_with fail
    go_ret
    have hR : R = srt l := by
     refine sortedW_ext HP.out.1 (srt_strict Hn.out) fun x => ?_
     rw [HP.out.2 x, Hnl.out, List.take_length, srt_mem]
    exact ⟨_, rfl, by rw [← hR]; exact HO.out.1.strs.imp fun g hg => ⟨hg.1, hg.2.1⟩, HO.out.2⟩
end Go.Proofs.YtjlknaahpjiibaaGreatDoor
namespace Go.Proofs.YtjlknaahpjiibaaGreatDoor
set_option linter.unusedVariables false
set_option linter.unusedSimpArgs false
theorem bat_ev {Q1 : Int → Prop} {Q2 : ByteArray → Prop} (d : Int) : ∀ (rest G : List F.FEv), (∀ e ∈ G ++ rest, Q2 e.2.1 ∧ Q1 e.1) → ∀ e ∈ (F.bat d G rest).flatMap (·.2), Q2 e.2.1 ∧ Q1 e.1 := by
 intro rest
 induction rest with
 | nil => intro G _ e he; simp [F.bat] at he
 | cons x rest ih =>
   intro G hG
   unfold F.bat
   split
   · exact ih (G ++ [x]) (by simpa using hG)
   · intro e he
     rw [List.flatMap_append] at he
     rcases List.mem_append.1 he with he | he
     · have he' : e ∈ F.nbE (G ++ [x]) := by
        split at he
        · simp at he
        · simpa using he
       have hin : ∀ y ∈ G ++ [x], y ∈ G ++ x :: rest := fun y hy => by
        rcases List.mem_append.1 hy with h | h
        · simp [h]
        · rw [List.mem_singleton.1 h]; simp
       obtain ⟨e1, h1, h2⟩ := F.nbE_mem he'
       obtain ⟨e2, h3, h4⟩ := F.nb_time _ e he'
       exact ⟨h2 ▸ (hG e1 (hin _ h1)).1, h4 ▸ (hG e2 (hin _ h3)).2⟩
     · exact ih [] (fun e' he' => hG e' (by simp at he'; simp [he'])) e he
theorem cp_pre (p : ByteArray) : ∀ (E1 E2 : List F.FEv) (b : Bool), F.cp p b (E1 ++ E2) → F.cp p b E1
 | [], _, _, _ => trivial
 | e :: r, E2, b, h => ⟨h.1, cp_pre p r E2 _ h.2⟩
theorem run_pre {D : List Dc} {E : List F.FEv} (d : Int) (hn : (nms D).Nodup) (hv : F.Vk E) (hc : F.coM (F.exM (nms D)) E = true) (pre post : List F.FEv) (hp : (F.bat d [] E).flatMap (·.2) = pre ++ post) : (nms (runD D pre)).Nodup := by
 obtain ⟨hl, hc2⟩ := F.files_law (nms D) E d hv hc
 have hvD := F.bat_vk d E [] hv
 have hex : ∀ p, decide ((aget (F.exM (nms D)) p).getD 0 ≠ 0) = decide (p ∈ nms D) := fun p => by
  rw [F.exM_val, ← Bool.coe_iff_coe, decide_eq_true_iff, ← F.mem_some (F.exM_nodup _)]
  exact F.exM_mem (nms D) p
 have hcp := (F.co_iff _ (F.exM (nms D)) hvD).1 hc2
 exact (run_names pre D hn fun p => by rw [← hex p]; exact cp_pre p pre post _ (hp ▸ hcp p)).1
structure RunI (D : List Dc) (pre : List F.FEv) : Prop where
 nd : (nms (runD D pre)).Nodup
 ok : DcOk (runD D pre)
 len : (runD D pre).length ≤ 6
 each : ∀ d ∈ runD D pre, d.1 ∈ sixN ∧ d.2.2.size ≤ 200
theorem run_each {D : List Dc} {E : List F.FEv} (d : Int) (hn : (nms D).Nodup) (hv : F.Vk E) (hc : F.coM (F.exM (nms D)) E = true) (hD : ∀ x ∈ D, x.1 ∈ sixN ∧ x.2.2.size ≤ 200) (hE : ∀ e ∈ (F.bat d [] E).flatMap (·.2), e.2.1 ∈ sixN ∧ 0 ≤ e.1 ∧ e.1 < 1000) (pre post : List F.FEv) (hp : (F.bat d [] E).flatMap (·.2) = pre ++ post) : RunI D pre := by
 have h1 := run_pre d hn hv hc pre post hp
 have hE' : ∀ e ∈ pre, e.2.1 ∈ sixN ∧ 0 ≤ e.1 ∧ e.1 < 1000 := fun e he => hE e (by rw [hp]; simp [he])
 obtain ⟨h2, h3⟩ := run_ok h1 hD hE'
 exact ⟨h1, h2, h3, run_docs (fun p => p ∈ sixN) pre D hD hE'⟩
theorem str_ne {a b : ByteArray} (h : ¬ a = b) : (a.toList == b.toList) = false := by
 rw [beq_eq_false_iff_ne, ByteArray.toList_eq, ByteArray.toList_eq]
 intro e
 exact h (ByteArray.ext (Array.ext' e))
def kOf : Option Nat → Int
 | none => -1
 | some k => k
theorem idxD_succ {D : List Dc} (hn : (nms D).Nodup) (p : ByteArray) (j : Nat) (hj : j < D.length) : idxD (D.take (j + 1)) p = if D[j].1 = p then some j else idxD (D.take j) p := by
 have e : D.take (j + 1) = D.take j ++ [D[j]] := by rw [List.take_add_one, List.getElem?_eq_getElem hj]; rfl
 have hl : (D.take j).length = j := by rw [List.length_take]; omega
 have e2 : idxD (D.take (j + 1)) p = ((idxD (D.take j) p).or ((([D[j]] : List Dc).findIdx? fun d => decide (d.1 = p)).map (· + j))) := by
  unfold idxD
  rw [e, List.findIdx?_append, hl]
 rw [e2]
 by_cases h : D[j].1 = p
 · rw [if_pos h]
   have h0 : idxD (D.take j) p = none := by
    cases hi : idxD (D.take j) p with
    | none => rfl
    | some k =>
      obtain ⟨hk, hkn⟩ := idxD_some hi
      have hkj : k < j := by rw [hl] at hk; exact hk
      rw [List.getElem_take] at hkn
      have h1 : k < (nms D).length := by unfold nms; rw [List.length_map]; omega
      have h2 : j < (nms D).length := by unfold nms; rw [List.length_map]; omega
      have := (List.getElem_inj (h₀ := h1) (h₁ := h2) hn).1 (by simpa [nms] using hkn.trans h.symm)
      omega
   rw [h0]
   simp [h]
 · rw [if_neg h]
   simp [h]
theorem DcP.drop {p : Nat → Prop} {w : World} {g off n cap : Nat} {E : List Dc} (h : DcP p w (.slice (some ⟨g, off, none⟩) n cap) E) (k : Nat) (hk : k ≤ n) : DcP p w (.slice (some ⟨g, off + k * 3, none⟩) (n - k) (cap - k)) (E.drop k) := by
 obtain ⟨a, c, hv, h1, h2, h3⟩ := h
 simp only [Value.slice.injEq] at hv
 obtain ⟨rfl, rfl, rfl⟩ := hv
 refine ⟨_, _, by rw [List.length_drop], by rw [List.length_drop]; omega, by omega, fun h0 => ?_⟩
 rw [List.length_drop] at h0
 obtain ⟨g', off', he, hp, hc⟩ := h3 (by omega)
 cases he
 refine ⟨g, off + k * 3, rfl, hp, fun j hj => ?_⟩
 rw [List.length_drop] at hj
 have := hc (k + j) (by omega)
 rw [List.getElem_drop, Nat.add_assoc, ← Nat.add_mul]
 exact this
theorem tail_slice {w : World} {B g n cap : Nat} {l : List Dc} (h : OwnD w B (.slice (some ⟨g, 0, none⟩) n cap) l) (k : Nat) (hk : k < l.length) :
 ∃ sv, (∀ w' : World, (Instr.slice 25 (.slice (some ⟨g, 0, none⟩) n cap) (some (.int .i64 ((k : Int) + 1))) none none).run Tryz.prog w' = .ok sv w') ∧ DcP (fun _ => True) w sv (l.drop (k + 1)) := by
 have h1 := h.read
 obtain ⟨a, c, hv, hcp, hmx, h3⟩ := h1
 simp only [Value.slice.injEq] at hv
 obtain ⟨rfl, rfl, rfl⟩ := hv
 have h2 : DcP (fun _ => True) w (.slice (some ⟨g, 0, none⟩) l.length cap) l := SlR.imp h.read (fun _ _ => trivial) fun _ _ _ h => h
 have e1 : (k : Int) + 1 ≤ l.length := by omega
 have e2 : (k : Int) + 1 ≤ cap := by omega
 have e3 : (l.length : Int) ≤ cap := by omega
 have e4 : ((k : Int) + 1).toNat = k + 1 := by omega
 have e5 : (0 : Int) ≤ (k : Int) + 1 := by omega
 by_cases hc : cap = k + 1
 · refine ⟨.slice (some ⟨g, 0, none⟩) (l.length - (k + 1)) (cap - (k + 1)), fun w' => ?_, ?_⟩
   · simp [go_sem, e1, e2, e3, e4, e5, hc]
   · have : l.drop (k + 1) = [] := List.drop_eq_nil_of_le (by omega)
     rw [this]
     exact ⟨some ⟨g, 0, none⟩, cap - (k + 1), by rw [show l.length - (k + 1) = 0 by omega]; rfl, Nat.zero_le _, by omega, fun h => absurd h (by simp)⟩
 · have := h2.drop (k + 1) (by omega)
   rw [Nat.zero_add] at this
   refine ⟨.slice (some ⟨g, (k + 1) * 3, none⟩) (l.length - (k + 1)) (cap - (k + 1)), fun w' => ?_, this⟩
   simp [go_sem, e1, e2, e3, e4, e5, hc]
theorem run_snoc (D : List Dc) (pre : List F.FEv) (e : F.FEv) : runD D (pre ++ [e]) = stepD (runD D pre) e := by
 unfold runD
 rw [List.foldl_append]
 rfl
end Go.Proofs.YtjlknaahpjiibaaGreatDoor
