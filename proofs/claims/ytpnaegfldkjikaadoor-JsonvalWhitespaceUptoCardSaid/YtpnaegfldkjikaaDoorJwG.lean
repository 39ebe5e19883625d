/- Reading the JSON laws' arguments under a bound on their bulk. -/
import Derived.Test.YtpnaegfldkjikaaDoorJwF
import Derived.Test.YtpnaegfldkjikaaDoorJvR
namespace Go.Proofs.YtpnaegfldkjikaaDoor.Jv
open Go.ChangeShapes Go.WideShapes Go.ChangeAt Go.RowKit Go.Deep
set_option linter.unusedVariables false
set_option linter.unusedSimpArgs false
/-- all texts have at most M bytes -/
inductive JB (M : Nat) : J → Prop where
  | mk {k n : Int} {t : ByteArray} {ns : List ByteArray} {es : List J} (ht : t.size ≤ M) (hn : ∀ z ∈ ns, z.size ≤ M) (he : ∀ e ∈ es, JB M e) : JB M (.mk k n t ns es)
theorem part_le {H : Type} {d : DataW H} {l : List (DataW H)} (h : d ∈ l) : Rows.uptoBulk d ≤ Rows.uptoBulkAll l := by
  induction l with
  | nil => cases h
  | cons x r ih =>
    simp only [Rows.uptoBulkAll]
    rcases List.mem_cons.1 h with rfl | h
    · omega
    · have := ih h; omega
section
variable {P : Program} {H : Type} {enc : TypeId × Value → H} {W : World}
/-- a slice, each element with its datum, which is smaller -/
theorem open_slB {T E : TypeId} {sz : Nat} (ht : P.underlying T = some (.slice E)) (hsz : P.cellsOf E = sz) {α : Type} (F : α → Addr → Prop) (d : α) (hspot : ∀ z ad, F z ad → ad.spot = none)
    {fuel : Nat} {cs : List Value} {x : DataW H × List MemPlace} (h : DataW.trod enc P W 0 (fun _ => true) true fuel T cs = some x)
    (hel : ∀ n ad cs y, W.cells? 0 ad sz = some cs → DataW.trod enc P W 0 (fun _ => true) true n E cs = some y → SizeOf.sizeOf y.1 < SizeOf.sizeOf x.1 → Rows.uptoBulk y.1 ≤ Rows.uptoBulk x.1 → ∃ z, F z ad) :
    ∃ (a : Option Addr) (cap : Nat) (xs : List α), cs = [.slice a xs.length cap] ∧ xs.length ≤ cap ∧ cap ≤ maxLen ∧ (0 < xs.length → ∃ g off, a = some ⟨g, off, none⟩ ∧ ∀ j, j < xs.length → F (xs.getD j d) ⟨g, off + j * sz, none⟩) := by
  rcases open_slice ht h with ⟨hcs, _⟩ | ⟨a, len, cap, m, n, D, Pl, hcs, hb, hl, hm, hmm, hx, hi⟩
  · exact ⟨none, 0, [], by simpa using hcs, by simp, by simp, fun h => absurd h (by simp)⟩
  · simp only [if_true] at hmm
    rw [hsz] at hi
    have hf : ∀ i, i < len → ∃ z : α, F z (a.add (i * sz)) := by
      intro i him
      obtain ⟨cs', hc, hy⟩ := hi i (by omega)
      have hmem : D i ∈ (List.range len).map D := List.mem_map.2 ⟨i, List.mem_range.2 him, rfl⟩
      refine hel _ _ _ _ hc hy ?_ (by
        rw [hx]
        have := part_le hmem
        simp only [Rows.uptoBulk]
        omega)
      rw [hx]
      have := List.sizeOf_lt_of_mem hmem
      simp only [DataW.slice.sizeOf_spec]
      omega
    have hex : ∃ f : Nat → α, ∀ i, i < len → F (f i) (a.add (i * sz)) :=
      ⟨fun i => if hi : i < len then (hf i hi).choose else d, fun i hi => by simp only [dif_pos hi]; exact (hf i hi).choose_spec⟩
    obtain ⟨f, hff⟩ := hex
    refine ⟨some a, cap, (List.range len).map f, by simpa using hcs, by simpa using hl, hm, fun h0 => ?_⟩
    have h0' : 0 < len := by simpa using h0
    obtain ⟨b, off, spot⟩ := a
    have hs : spot = none := by
      have := hspot _ _ (hff 0 h0')
      simpa [Addr.add] using this
    subst hs
    refine ⟨b, off, rfl, fun j hj => ?_⟩
    have hj' : j < len := by simpa using hj
    have := hff j hj'
    rw [Addr.add_lit] at this
    simpa [hj'] using this
end
section
variable {H : Type} {enc : TypeId × Value → H} {W : World}
theorem open_namesB {M : Nat} {fuel : Nat} {cs : List Value} {x : DataW H × List MemPlace} (h : DataW.trod enc Tryd.prog W 0 (fun _ => true) true fuel 22 cs = some x) (hM : Rows.uptoBulk x.1 ≤ M) :
    ∃ v xs, cs = [v] ∧ SlR (fun g => g < W.heap.size) 1 rdS W v xs ∧ ∀ z ∈ xs, z.size ≤ M := by
  obtain ⟨a, cap, xs, rfl, h1, h2, h3⟩ := open_slB Tryd.underlying22 cellsString (fun (z : ByteArray) ad => rdS W ad z ∧ z.size ≤ M) ⟨#[]⟩ (fun z ad h => spot_of_cell h.1.1) h
    (fun n ad cs y hc hy _ hb => by
      obtain ⟨v, rfl, hv⟩ := cells_one hc
      obtain ⟨z, hz, hyz, hzl⟩ := DataW.trod_string Tryd.underlying9 hy
      simp only [List.cons.injEq, and_true] at hz
      refine ⟨z, ⟨by rw [hv, hz], hzl⟩, ?_⟩
      rw [hyz] at hb
      have h1 : z.data.toList.length = z.size := rfl
      simp only [Rows.uptoBulk] at hb
      omega)
  refine ⟨_, xs, rfl, ⟨a, cap, rfl, h1, h2, fun h0 => ?_⟩, fun z hz => ?_⟩
  · obtain ⟨g, off, rfl, hc⟩ := h3 h0
    exact ⟨g, off, rfl, lt_of_cell (hc 0 h0).1.1, fun j hj => by have := (hc j hj).1; simpa [hj] using this⟩
  · obtain ⟨i, hi, rfl⟩ := List.getElem_of_mem hz
    obtain ⟨g, off, _, hc⟩ := h3 (by omega)
    have := (hc i hi).2
    rwa [List.getD_eq_getElem?_getD, List.getElem?_eq_getElem hi, Option.getD_some] at this
set_option maxRecDepth 100000 in
/-- a value, read out of its datum -/
theorem open_cellsB (M N : Nat) : ∀ (fuel : Nat) (cs : List Value) (x : DataW H × List MemPlace), SizeOf.sizeOf x.1 ≤ N → Rows.uptoBulk x.1 ≤ M → DataW.trod enc Tryd.prog W 0 (fun _ => true) true fuel 25 cs = some x →
    ∃ j, JV (fun g => g < W.heap.size) N W (.agg ⟨cs⟩) j ∧ JB M j := by
  induction N with
  | zero =>
    intro fuel cs x hN hM h
    obtain ⟨xs, n, _, rfl, _⟩ := DataW.trod_struct Tryd.underlying25 h
    simp at hN
  | succ N ih =>
    intro fuel cs x hN hM h
    obtain ⟨xs, n, _, rfl, hl, hlen, hf⟩ := DataW.trod_struct Tryd.underlying25 h
    rw [cellsJ] at hl
    match xs, hlen with
    | [y0, y1, y2, y3, y4], _ =>
      have t0 := hf 0 _ rfl
      have t1 := hf 1 _ rfl
      have t2 := hf 2 _ rfl
      have t3 := hf 3 _ rfl
      have t4 := hf 4 _ rfl
      simp only [List.getElem_toArray, List.getElem_cons_zero, List.getElem_cons_succ, cellsInt, cellsString, cellsSs, cellsJs, List.getElem?_cons_zero, List.getElem?_cons_succ] at t0 t1 t2 t3 t4
      · obtain ⟨c0, c1, c2, c3, c4, rfl⟩ := len5 hl
        obtain ⟨z0, h0, _⟩ := DataW.trod_int Tryd.underlying3 t0
        obtain ⟨z1, h1, _⟩ := DataW.trod_int Tryd.underlying3 t1
        obtain ⟨z2, h2, hy2, h2l⟩ := DataW.trod_string Tryd.underlying9 t2
        have hbs : Rows.uptoBulk y2.1 ≤ M ∧ Rows.uptoBulk y3.1 ≤ M ∧ Rows.uptoBulk y4.1 ≤ M := by
          simp only [List.map_cons, List.map_nil, Rows.uptoBulk, Rows.uptoBulkAll] at hM
          omega
        obtain ⟨v3, ns, h3, hns, hnb⟩ := open_namesB t3 hbs.2.1
        have h2b : z2.size ≤ M := by
          have h := hbs.1
          rw [hy2] at h
          have h1 : z2.data.toList.length = z2.size := rfl
          simp only [Rows.uptoBulk] at h
          omega
        have hs4 : SizeOf.sizeOf y4.1 ≤ N := by
          simp only [List.map_cons, List.map_nil, DataW.agg.sizeOf_spec, List.cons.sizeOf_spec, List.nil.sizeOf_spec] at hN
          omega
        obtain ⟨a, cap, es, h4, e1, e2, e3⟩ := open_slB Tryd.underlying23 cellsJ (fun (z : J) ad => (rdJ (fun g => g < W.heap.size) (N + 1) W ad z ∧ JB M z) ∧ ad.spot = none) J.zero (fun z ad h => h.2) t4
          (fun n ad cs' y hc hy hlt hyb => by
            obtain ⟨hl', hat⟩ := cells_at hc
            obtain ⟨j, hj, hjb⟩ := ih n cs' y (by omega) (Nat.le_trans hyb hbs.2.2) hy
            · obtain ⟨d0, d1, d2, d3, d4, rfl⟩ := len5 hl'
              obtain ⟨nv, iv, he, hn, hi, ht⟩ := hj
              simp only [Value.agg.injEq, Array.mk.injEq, List.cons.injEq, and_true] at he
              obtain ⟨rfl, rfl, rfl, rfl, rfl⟩ := he
              have q0 := hat 0 (by omega)
              have q1 := hat 1 (by omega)
              have q2 := hat 2 (by omega)
              have q3 := hat 3 (by omega)
              have q4 := hat 4 (by omega)
              have hs : ad.spot = none := spot_of_cell (W := W) (v := .int .i64 j.kind) (by simpa [Addr.add] using q0)
              obtain ⟨b, off, spot⟩ := ad
              simp only at hs
              subst hs
              rw [Addr.add_lit] at q0 q1 q2 q3 q4
              exact ⟨j, ⟨⟨q0, q1, ⟨q2, ht⟩, _, _, q3, q4, hn, hi⟩, hjb⟩, rfl⟩)
        simp only [List.drop_zero, List.drop_succ_cons, List.take_succ_cons, List.take_zero, List.cons.injEq, and_true] at h0 h1 h2 h3 h4
        subst h0 h1 h2 h3 h4
        refine ⟨.mk z0 z1 z2 ns es, ⟨_, _, rfl, hns, ⟨a, cap, rfl, e1, e2, fun h0 => ?_⟩, h2l⟩, .mk h2b hnb fun e he => ?_⟩
        · obtain ⟨g, off, rfl, hc⟩ := e3 h0
          refine ⟨g, off, rfl, lt_of_cell (hc 0 h0).1.1.1, fun j hj => ?_⟩
          have := (hc j hj).1.1
          rwa [List.getD_eq_getElem?_getD, List.getElem?_eq_getElem (show j < es.length from hj), Option.getD_some] at this
        · obtain ⟨i, hi, rfl⟩ := List.getElem_of_mem he
          obtain ⟨g, off, _, hc⟩ := e3 (by omega)
          have := (hc i hi).1.2
          rwa [List.getD_eq_getElem?_getD, List.getElem?_eq_getElem hi, Option.getD_some] at this
set_option maxRecDepth 100000 in
theorem open_jsonB {M : Nat} {base : Nat} {v : Value} {d : DataW H} {ps : List MemPlace} (hval : Value.okWide Tryd.prog W .any base 25 v) (hd : DataW.Trod enc Tryd.prog W 0 (fun _ => true) true 25 v d ps) (hM : Rows.uptoBulk d ≤ M) :
    ∃ f j, JV (fun g => g < W.heap.size) f W v j ∧ JB M j := by
  obtain ⟨cs, rfl, hsz⟩ := okWide_struct Tryd.underlying25 hval
  obtain ⟨fuel, hf⟩ := hd
  have hce : (Value.agg cs).cells = cs := rfl
  rw [hce] at hf
  obtain ⟨l⟩ := cs
  obtain ⟨j, hj, hb⟩ := open_cellsB M _ fuel l _ (Nat.le_refl _) hM hf
  exact ⟨_, j, hj, hb⟩
end
theorem escN_le (a : Nat) : (escN a).length ≤ 6 := by
  unfold escN
  repeat' split
  all_goals simp
theorem escL_le (l : List UInt8) : (escL l).length ≤ 6 * l.length := by
  induction l with
  | nil => simp [escL]
  | cons c l ih =>
    rw [escL, List.length_append, List.length_cons]
    have := escN_le c.toNat
    omega
theorem encS_le (t : ByteArray) : (encS t).length ≤ 6 * t.size + 2 := by
  have h := escL_le t.data.toList
  have h1 : t.data.toList.length = t.size := rfl
  simp only [encS, List.length_cons, List.length_append, List.length_nil]
  omega
theorem encL_le {M : Nat} (k : Int) (ns : List ByteArray) (hn : ∀ z ∈ ns, z.size ≤ M) : ∀ (es : List J) (i : Nat), (∀ e ∈ es, e.enc.length + (6 * M + 10) ≤ e.nodes * (12 * M + 40)) → (encL k i ns es).length ≤ nodesL es * (12 * M + 40)
  | [], i, _ => by simp [encL]
  | e :: es, i, h => by
    have h1 := encL_le k ns hn es (i + 1) fun e he => h e (by simp [he])
    have h2 := h e (by simp)
    have h3 : (if 0 < i then [(44 : UInt8)] else []).length ≤ 1 := by split <;> simp
    have h4 : (if k = 5 then encS (ns.getD i ⟨#[]⟩) ++ [58] else []).length ≤ 6 * M + 3 := by
      split
      · have h5 : (ns.getD i ⟨#[]⟩).size ≤ M := by
          by_cases hi : i < ns.length
          · rw [List.getD_eq_getElem?_getD, List.getElem?_eq_getElem hi]
            exact hn _ (List.getElem_mem hi)
          · rw [List.getD_eq_getElem?_getD, List.getElem?_eq_none (by omega)]
            exact Nat.zero_le _
        have h6 := encS_le (ns.getD i ⟨#[]⟩)
        rw [List.length_append, List.length_singleton]
        omega
      · simp
    rw [encL]
    simp only [List.length_append]
    rw [nodesL, Nat.add_mul]
    generalize nodesL es * (12 * M + 40) = X at h1 ⊢
    generalize e.nodes * (12 * M + 40) = Y at h2 ⊢
    omega
theorem enc_le {M : Nat} : ∀ j : J, j.vd u8 = 0 → JB M j → j.enc.length + (6 * M + 10) ≤ j.nodes * (12 * M + 40) := by
  refine J.ind fun k n t ns es ih hv hb => ?_
  obtain ⟨hk, hw, h3⟩ := vd_zero.1 hv
  obtain ⟨hn, ht, hl, h5, h5', hu, hus⟩ := wf_parts hw
  obtain ⟨ht, hns, hes⟩ := hb
  have h1 := encL_le k ns hns es 0 fun e he => ih e he (h3 e he) (hes e he)
  have h7 := encS_le t
  rw [J.nodes, Nat.add_mul, Nat.one_mul]
  generalize nodesL es * (12 * M + 40) = X at h1 ⊢
  unfold J.enc
  split
  · simp; omega
  split
  · have : (Lib.formatBool (decide (n = 1))).length ≤ 5 := by cases decide (n = 1) <;> decide
    omega
  split
  · rename_i h0 h1' h2
    have h8 : (Lib.itoa n).length ≤ 17 := by
      subst h2
      rw [itoa_sg, List.length_append, Lib.decDigits_length]
      have h9 := nDigits_le 15 n.natAbs (by simp at hn; omega)
      have h10 := sg_len n
      split at h10 <;> omega
    omega
  split
  · omega
  · simp only [List.length_cons, List.length_append, List.length_nil]
    omega
theorem enc_small {j : J} (hb : JB 1048576 j) (hv : j.valid u8 = 0) : j.enc.length ≤ 140737488355328 := by
  have h1 := enc_le j (valid_parts hv).2.2 hb
  have h2 := (valid_parts hv).1
  have h3 : j.nodes * (12 * 1048576 + 40) ≤ 400 * (12 * 1048576 + 40) := Nat.mul_le_mul_right _ h2
  omega
end Go.Proofs.YtpnaegfldkjikaaDoor.Jv
