/- slices.SortFunc at keys: laid off the shelf. -/
import Derived.Test.YtdeodcomlakpaaaGk
import Derived.Test.YtdeodcomlakpaaaGj
import Derived.Shelf.SlSortCmp.NoneTotal
import Derived.Ground.SlsfProg
/- slices.SortFunc at keys: laid off the shelf. -/
namespace Go.Proofs.Ytdeodcomlakpaaa
open Go.RowKit Go.ChangeMaps Go.MapKept Go.Shelf Go.Lib Go.Sort
set_option linter.unusedVariables false
set_option linter.unusedSimpArgs false
-- the next two declarations: printed by the shelf's plain mode for this seat (numbers of the seat mem)
def Try.sortKeys_ren : Go.Shelf.Ren := ⟨fun | 6 => 96 | 15 => 110 | 14 => 109 | 28 => 122 | 29 => 123 | 20 => 114 | 21 => 115 | 22 => 116 | 23 => 117 | 24 => 118 | 25 => 119 | 26 => 120 | 27 => 121 | 46 => 124 | 47 => 125 | 48 => 126 | 49 => 127 | 50 => 128 | 57 => 129 | n => n, fun | 22 => 53 | 24 => 27 | 25 => 127 | 3 => 3 | 39 => 165 | 0 => 0 | 53 => 116 | 55 => 178 | 4 => 4 | 46 => 171 | 45 => 170 | 50 => 59 | 5 => 5 | 9 => 9 | 66 => 179 | 70 => 183 | 76 => 185 | 77 => 186 | n => n, fun | n => n⟩
theorem Try.sortKeys : Go.Proofs.SlLaysF0.n6 Try.prog Try.sortKeys_ren := {
  mixed := by kernel_rfl
  f6 := ⟨Try.f96.name, by decide, Try.func96.trans (congrArg some (by kernel_rfl))⟩
  f14 := ⟨Try.f109.name, by decide, Try.func109.trans (congrArg some (by kernel_rfl))⟩
  f15 := Try.func110.trans (congrArg some (by kernel_rfl))
  f20 := ⟨Try.f114.name, by decide, Try.func114.trans (congrArg some (by kernel_rfl))⟩
  f21 := ⟨Try.f115.name, by decide, Try.func115.trans (congrArg some (by kernel_rfl))⟩
  f22 := ⟨Try.f116.name, by decide, Try.func116.trans (congrArg some (by kernel_rfl))⟩
  f23 := ⟨Try.f117.name, by decide, Try.func117.trans (congrArg some (by kernel_rfl))⟩
  f24 := ⟨Try.f118.name, by decide, Try.func118.trans (congrArg some (by kernel_rfl))⟩
  f25 := ⟨Try.f119.name, by decide, Try.func119.trans (congrArg some (by kernel_rfl))⟩
  f26 := ⟨Try.f120.name, by decide, Try.func120.trans (congrArg some (by kernel_rfl))⟩
  f27 := ⟨Try.f121.name, by decide, Try.func121.trans (congrArg some (by kernel_rfl))⟩
  f28 := Try.func122.trans (congrArg some (by kernel_rfl))
  f29 := Try.func123.trans (congrArg some (by kernel_rfl))
  f46 := ⟨Try.f124.name, by decide, Try.func124.trans (congrArg some (by kernel_rfl))⟩
  f47 := Try.func125.trans (congrArg some (by kernel_rfl))
  f48 := Try.func126.trans (congrArg some (by kernel_rfl))
  f49 := ⟨Try.f127.name, by decide, Try.func127.trans (congrArg some (by kernel_rfl))⟩
  f50 := ⟨Try.f128.name, by decide, Try.func128.trans (congrArg some (by kernel_rfl))⟩
  f57 := ⟨Try.f129.name, by decide, Try.func129.trans (congrArg some (by kernel_rfl))⟩
  t0 := Try.underlying0
  a0 := Try.isAgg0
  z0 := Try.sizeOf0
  v0 := Try.zeroValue0
  t3 := Try.underlying3
  a3 := Try.isAgg3
  z3 := Try.sizeOf3
  v3 := Try.zeroValue3
  t4 := Try.underlying4
  a4 := Try.isAgg4
  z4 := Try.sizeOf4
  v4 := Try.zeroValue4
  t5 := Try.underlying5
  a5 := Try.isAgg5
  z5 := Try.sizeOf5
  v5 := Try.zeroValue5
  t9 := Try.underlying9
  a9 := Try.isAgg9
  z9 := Try.sizeOf9
  v9 := Try.zeroValue9
  t22 := Try.underlying53
  a22 := Try.isAgg53
  z22 := Try.sizeOf53
  v22 := Try.zeroValue53
  t25 := Try.underlying127
  a25 := Try.isAgg127
  z25 := Try.sizeOf127
  v25 := Try.zeroValue127
  t39 := Try.underlying165
  a39 := Try.isAgg165
  z39 := Try.sizeOf165
  v39 := Try.zeroValue165
  t45 := Try.underlying170
  a45 := Try.isAgg170
  z45 := Try.sizeOf170
  v45 := Try.zeroValue170
  t46 := Try.underlying171
  a46 := Try.isAgg171
  z46 := Try.sizeOf171
  v46 := Try.zeroValue171
  t50 := Try.underlying59
  a50 := Try.isAgg59
  z50 := Try.sizeOf59
  v50 := Try.zeroValue59
  t53 := Try.underlying116
  a53 := Try.isAgg116
  z53 := Try.sizeOf116
  v53 := Try.zeroValue116
  t55 := Try.underlying178
  a55 := Try.isAgg178
  z55 := Try.sizeOf178
  v55 := Try.zeroValue178
  t66 := Try.underlying179
  a66 := Try.isAgg179
  z66 := Try.sizeOf179
  v66 := Try.zeroValue179
  t70 := Try.underlying183
  a70 := Try.isAgg183
  z70 := Try.sizeOf183
  v70 := Try.zeroValue183
  t76 := Try.underlying185
  a76 := Try.isAgg185
  z76 := Try.sizeOf185
  v76 := Try.zeroValue185
  t77 := Try.underlying186
  a77 := Try.isAgg186
  z77 := Try.sizeOf186
  v77 := Try.zeroValue186 }
/-- a cached key -/
abbrev CK (d : Dm) : Type := { k : QK // (aget d.es k).isSome }
def useOf (d : Dm) (k : QK) : Int := ((aget d.es k).map Rs.use).getD 0
def encCK (d : Dm) (k : CK d) : List Value := [.int .i64 k.1.1, .int .i64 k.1.2.1, .int .i64 k.1.2.2]
def cfC (d : Dm) (x y : CK d) : Int := wrap64 (useOf d x.1 - useOf d y.1)
/-- uses that are small -/
def UseB (d : Dm) : Prop := ∀ k r, aget d.es k = some r → 0 ≤ r.use ∧ r.use < 4611686018427387904
theorem useOf_bd {d : Dm} (h : UseB d) (k : QK) : 0 ≤ useOf d k ∧ useOf d k < 4611686018427387904 := by
  unfold useOf
  cases hk : aget d.es k with
  | none => simp
  | some r => exact h k r hk
theorem ltC {d : Dm} (h : UseB d) (x y : CK d) : ltOf (cfC d) x y = decide (useOf d x.1 < useOf d y.1) := by
  have hx := useOf_bd h x.1
  have hy := useOf_bd h y.1
  unfold ltOf cfC
  have : wrap64 (useOf d x.1 - useOf d y.1) = useOf d x.1 - useOf d y.1 := by unfold wrap64; omega
  rw [this]
  apply decide_eq_decide.2
  omega
theorem swoC {d : Dm} (h : UseB d) : SWO (ltOf (cfC d)) where
  irrefl x := by rw [ltC h]; simp
  trans x y z h1 h2 := by rw [ltC h] at *; simp at *; omega
  ntrans x y z h1 h2 := by rw [ltC h] at *; simp at *; omega
theorem sortW_chg {α : Type} [Inhabited α] (enc : α → List Value) (k : Nat) (w : World) (blk off m : Nat) (dk : Array α) (os : Array Obj) : ChgP (fun g => g = blk) w (sortWorldK enc k w blk off m dk os) := by
  refine ⟨rfl, rfl, rfl, ?_, fun g hg hn => ?_⟩
  · simp [sortWorldK, grow, putRowK, putRow, mapBlock, ahead]
  · show (((w.heap.modify blk (onCells (putCells id off (flatK enc k dk))))) ++ os)[g]? = w.heap[g]?
    rw [Array.getElem?_append_left (by simpa using hg)]
    simp [Array.getElem?_modify, Ne.symm hn]
theorem drew_growC (W : World) (o1 o2 : Obj) : ((W.alloc o1).alloc o2).drew = Go.Sort.grow (W.drewN 1) #[o1, o2] := by
  rw [alloc_eq_grow, alloc_eq_grow, grow_grow]
  rfl
theorem cmpLaysC {d : Dm} [Inhabited (CK d)] {b g1 blk off size : Nat} {w : World} (h : DmAt w b d) (hg : w.heap[g1]? = some (.cells #[.pointer (some ⟨b, 0, none⟩)] 24 (0, 0))) (h1 : blk ∉ d.muts b) (h2 : blk ∉ d.imms) (h3 : blk ≠ g1) (hk : ∀ k r, aget d.es k = some r → Inp.QKok k) :
    CmpLays Try.prog 74 #[.pointer (some ⟨g1, 0, none⟩)] (encCK d) 3 (cfC d) blk off size w := by
  rintro m os dk _ ⟨x, hx⟩ ⟨y, hy⟩
  obtain ⟨rx, hrx⟩ := Option.isSome_iff_exists.1 hx
  obtain ⟨ry, hry⟩ := Option.isSome_iff_exists.1 hy
  have hc := sortW_chg (encCK d) 3 w blk off m dk os
  refine (cachedCmp_any _ b g1 d x y rx ry hrx hry (hk x rx hrx) (hk y ry hry) (h.kept hc (fun g hg e => h1 (e ▸ hg)) (fun g hg e => h2 (e ▸ hg))) ((hc.block g1 (lt_of_obj hg) (fun e => h3 e.symm)).trans hg)).mono ?_
  rintro e w' ⟨rfl, rfl⟩
  refine ⟨?_, 1, _, drew_growC _ _ _⟩
  unfold cfC useOf
  simp only [hrx, hry, Option.map_some, Option.getD_some]
theorem enterCmp (args : Array Value) (w : World) : (callFunc 74 args).run Try.prog w = .ok (.enter 74 args) w := by go_simp
theorem sortKeys_any {d : Dm} [Inhabited (CK d)] {b g1 blk cap : Nat} {w : World} (a : Array (CK d)) (hH : HoldsK (encCK d) 3 w blk 0 a) (hblk : blk < w.heap.size) (hsz : a.size < 4611686018427387904)
    (h : DmAt w b d) (hg : w.heap[g1]? = some (.cells #[.pointer (some ⟨b, 0, none⟩)] 24 (0, 0))) (h1 : blk ∉ d.muts b) (h2 : blk ∉ d.imms) (h3 : blk ≠ g1) (hk : ∀ k r, aget d.es k = some r → Inp.QKok k) (hu : UseB d) :
    Calls Try.prog 96 #[.slice (some ⟨blk, 0, none⟩) a.size cap, .func (.func 74) #[] #[.pointer (some ⟨g1, 0, none⟩)]] w fun e w' =>
      e = .returned (.tuple #[]) ∧ ∃ a' : Array (CK d), a'.size = a.size ∧ a'.toList.Perm a.toList ∧ (∀ i j, i < j → j < a.size → useOf d a'[i]!.1 ≤ useOf d a'[j]!.1) ∧ HoldsK (encCK d) 3 w' blk 0 a' ∧ ChgP (fun g => g = blk) w w' := by
  have hcon := AnyQ.slices_SortFunc Try.sortKeys 3 (fun w => by kernel_rfl) (fun w => by kernel_rfl) (encCK d) (fun _ => rfl) (fun x v hv => by simp [encCK] at hv; rcases hv with rfl | rfl | rfl <;> rfl) (cfC d) (swoC hu) 74 #[.pointer (some ⟨g1, 0, none⟩)] blk 0 cap a w enterCmp (cmpLaysC h hg h1 h2 h3 hk) hH hblk hsz
  refine hcon.mono ?_
  rintro e w' ⟨rfl, a', n, os, ⟨hs, _, hp⟩, hso, rfl⟩
  refine ⟨rfl, a', hs, ?_, fun i j hij hj => ?_, ?_, sortW_chg _ _ _ _ _ _ _ _⟩
  · have e1 : a'.extract 0 a.size = a' := by rw [← hs]; simp
    have e2 : a.extract 0 a.size = a := by simp
    rw [e1, e2] at hp
    exact hp
  · have := hso i j (Nat.zero_le _) hij hj
    rw [ltC hu] at this
    simpa using this
  · exact holdsK_grow _ _ _ _ _ _ _ (by simp [putRowK, putRow, mapBlock, ahead]; exact hblk) (holdsK_putRowK _ _ _ _ _ a a' (holdsK_ahead _ _ _ _ _ _ _ hH) hs)
end Go.Proofs.Ytdeodcomlakpaaa
/- A row of keys as the sort reads it. -/
namespace Go.Proofs.Ytdeodcomlakpaaa
open Go.RowKit Go.ChangeMaps Go.MapKept Go.Shelf Go.Lib Go.Sort
set_option linter.unusedVariables false
set_option linter.unusedSimpArgs false
theorem holds_keys {d : Dm} [Inhabited (CK d)] {w : World} {base blk cap : Nat} {ks : List QK} (h : w.ownsRow base 27 3 (.slice (some ⟨blk, 0, none⟩) ks.length cap) ks.length (flat3 ks)) (a : Array (CK d)) (ha : a.toList.map (·.1) = ks) : HoldsK (encCK d) 3 w blk 0 a := by
  have hlen : a.size = ks.length := by rw [← ha]; simp
  intro t ht
  rw [size_flatK] at ht
  have hq : t / 3 < a.size := by omega
  have hq' : t / 3 < ks.length := by omega
  have hk : ks[t / 3] = (a[t / 3]!).1 := by
    have : (a.toList.map (·.1))[t / 3]? = ks[t / 3]? := by rw [ha]
    rw [List.getElem?_map, List.getElem?_eq_getElem (by simpa using hq), List.getElem?_eq_getElem hq'] at this
    simp only [Option.map_some, Option.some.injEq] at this
    rw [← this, getElem!_pos a (t / 3) hq]
    simp
  obtain ⟨f0, f1, f2⟩ := flat3_get ks (t / 3) hq'
  have hfr : w.frozen? ⟨blk, 0 + t, none⟩ = false := by
    rcases h.2 with ⟨e, _⟩ | ⟨g', cap', cur', hv, _, hh, _⟩
    · cases e
    · cases hv; exact frozen_of_heap hh
  refine ⟨?_, hfr⟩
  rw [get_flatK _ _ _ _ ht]
  have cell : ∀ u, (flat3 ks)[t]? = some u → w.cell? ⟨blk, 0 + t, none⟩ = some u := fun u hu => by
    have := h.cells (g := blk) rfl _ _ hu
    rwa [Addr.add_lit] at this
  unfold encCK
  rw [← hk]
  rcases (by omega : t % 3 = 0 ∨ t % 3 = 1 ∨ t % 3 = 2) with e | e | e
  · rw [e]; exact cell _ ((congrArg (fun n => (flat3 ks)[n]?) (by omega : t = t / 3 * 3)).trans f0)
  · rw [e]; exact cell _ ((congrArg (fun n => (flat3 ks)[n]?) (by omega : t = t / 3 * 3 + 1)).trans f1)
  · rw [e]; exact cell _ ((congrArg (fun n => (flat3 ks)[n]?) (by omega : t = t / 3 * 3 + 2)).trans f2)
theorem keys_holds {d : Dm} [Inhabited (CK d)] {w : World} {blk cap : Nat} {a : Array (CK d)} (h : HoldsK (encCK d) 3 w blk 0 a) (h1 : a.size ≤ cap) (h2 : cap ≤ maxLen) : I3s (fun g => g = blk) w (.slice (some ⟨blk, 0, none⟩) a.size cap) (a.toList.map (·.1)) := by
  have hl : (a.toList.map (·.1)).length = a.size := by simp
  refine ⟨_, cap, by rw [hl], by rw [hl]; exact h1, h2, fun _ => ⟨blk, 0, rfl, rfl, fun j hj => ?_⟩⟩
  have hj' : j < a.size := by rw [hl] at hj; exact hj
  have e : (a.toList.map (·.1))[j] = (a[j]!).1 := by
    rw [getElem!_pos a j hj']
    simp
  have c0 := (h.cell (i := j) (c := 0) hj' (by decide)).1
  have c1 := (h.cell (i := j) (c := 1) hj' (by decide)).1
  have c2 := (h.cell (i := j) (c := 2) hj' (by decide)).1
  rw [e]
  exact ⟨c0, c1, c2⟩
end Go.Proofs.Ytdeodcomlakpaaa
/- slices.SortedFunc(maps.Keys(results), ..): the cached keys, sorted. -/
namespace Go.Proofs.Ytdeodcomlakpaaa
open Go.RowKit Go.ChangeMaps Go.MapKept Go.Shelf Go.Lib Go.Sort
set_option linter.unusedVariables false
set_option linter.unusedSimpArgs false
def SortedPost (d : Dm) (w : World) (e : Ending) (w' : World) : Prop :=
  ∃ v ks, e = .returned v ∧ I3s (fun g => w.heap.size ≤ g ∧ g < w'.heap.size) w' v ks ∧ ks.Perm (d.es.map (·.1)) ∧ ks.Pairwise (fun x y => useOf d x ≤ useOf d y) ∧ Chg [] w w'
set_option maxRecDepth 100000 in
set_option maxHeartbeats 2000000 in
theorem sortedKeys_any (w : World) (b g1 Bm : Nat) (d : Dm) (h : DmAt w b d) (hg : w.heap[g1]? = some (.cells #[.pointer (some ⟨b, 0, none⟩)] 24 (0, 0))) (hm : w.heap[Bm]? = some (.cells #[.map (some d.br)] 85 (0, 0))) (hN : d.es.length ≤ 1000) (hk : ∀ k r, aget d.es k = some r → Inp.QKok k) (hu : UseB d) :
    Calls Try.prog 72 #[.func (.func 97) #[] #[.pointer (some ⟨Bm, 0, none⟩)], .func (.func 74) #[] #[.pointer (some ⟨g1, 0, none⟩)]] w (SortedPost d w) := by
  have Hcall := Lib.hid (collectKeys_any Bm d.br (amap Rs.val d.es) (by unfold amap; simpa using hN) w hm h.res)
  have H := Lib.hid h
  have Hg := Lib.hid hg
  have Hk := Lib.hid hk
  have Hu := Lib.hid hu
  have HN := Lib.hid hN
  clear h hg hm hN hk hu
  go_enter Try.func72, Try.ntmps72
  go_wp2_with fail
  refine Hcall.out.mono ?_
  rintro e w1 ⟨v, ks, rfl, hp, hrow, hc⟩
  have hp' : ks.Perm (d.es.map (·.1)) := by
    have : (amap Rs.val d.es).map (·.1) = d.es.map (·.1) := by unfold amap; simp
    rw [← this]; exact hp
  obtain ⟨av, cv, rfl⟩ := ownsRow_shape hrow
  have Hc := Lib.hid hc
  have Hp := Lib.hid hp'
  have Hrow := Lib.hid hrow
  clear hc hp hp' hrow
  by_cases h0 : ks = []
  · subst h0
    go_wp2_with fail
    refine (AnyF.slices_SortFunc_none (P := Try.prog) (ρ := Try.sortKeys_ren) { Try.sortKeys with } av cv _ _).mono ?_
    rintro e w2 ⟨rfl, rfl⟩
    go_wp2_with fail
    go_ret
    refine ⟨_, [], rfl, ⟨_, _, rfl, Nat.zero_le _, ?_, fun h => absurd h (by simp)⟩, Hp.out, List.Pairwise.nil, Hc.out⟩
    rcases Hrow.out.2 with ⟨e, _⟩ | ⟨g', cap', cur', hv, _, _, _, h2, _⟩
    · simp only [Value.slice.injEq] at e; rw [e.2.2]; exact Nat.zero_le _
    · simp only [Value.slice.injEq] at hv; rw [hv.2.2]; exact h2
  · have hpos : 0 < ks.length := List.length_pos_iff.2 h0
    have hmem : ∀ k ∈ ks, (aget d.es k).isSome := fun k hk => by
      obtain ⟨p, hp, e⟩ := List.mem_map.1 (Hp.out.mem_iff.1 hk)
      rw [← e]
      cases he : aget d.es p.1 with
      | none => exact absurd rfl (aget_none he p hp)
      | some r => rfl
    obtain ⟨blk, cur, rfl, hge, hh, hc1, hc2⟩ : ∃ blk cur, av = some ⟨blk, 0, none⟩ ∧ w.heap.size + 1 ≤ blk ∧ w1.heap[blk]? = some (.cells cur 27 (0, 0)) ∧ ks.length ≤ cv ∧ cv ≤ maxLen := by
      rcases Hrow.out.2 with ⟨e, hz⟩ | ⟨g', cap', cur', hv, h1, h2, h3, h4, _⟩
      · omega
      · simp only [Value.slice.injEq] at hv
        obtain ⟨rfl, _, rfl⟩ := hv
        exact ⟨g', cur', rfl, h1, h2, h3, h4⟩
    obtain ⟨k0, hk0⟩ := List.exists_mem_of_ne_nil ks h0
    haveI : Inhabited (CK d) := ⟨⟨k0, hmem k0 hk0⟩⟩
    obtain ⟨a, ha⟩ : ∃ a : Array (CK d), a.toList.map (·.1) = ks := ⟨(ks.pmap (fun k h => (⟨k, h⟩ : CK d)) hmem).toArray, by simp [List.map_pmap]⟩
    have has : a.size = ks.length := by rw [← ha]; simp
    have hd1 := H.out.new Hc.out
    have hkl : ks.length ≤ 1000 := by
      have h1 := Hp.out.length_eq
      rw [List.length_map] at h1
      have := HN.out
      omega
    have hso := sortKeys_any (cap := cv) (w := w1) (b := b) (g1 := g1) a (holds_keys Hrow.out a ha) (lt_of_obj hh) (by omega) hd1 ((Hc.out.block _ (lt_of_obj Hg.out) (by simp)).trans Hg.out) (fun hm => by have := H.out.lt _ hm; omega) (fun hm => by have := H.out.bound _ hm; omega) (fun e => by have := lt_of_obj Hg.out; omega) Hk.out Hu.out
    rw [has] at hso
    have Hso := Lib.hid hso
    clear hso
    go_wp2_with fail
    refine Hso.out.mono ?_
    rintro e w2 ⟨rfl, a', hs, hp, hso, hH, hcc⟩
    have Hall := Lib.hid (And.intro hs (And.intro hp (And.intro hso (And.intro hH hcc))))
    clear hs hp hso hH hcc
    go_wp2_with fail
    go_ret
    obtain ⟨hs, hp, hso, hH, hcc⟩ := Hall.out
    have hI := keys_holds (cap := cv) hH (by rw [hs]; exact hc1) hc2
    rw [hs] at hI
    refine ⟨_, a'.toList.map (·.1), rfl, hI.imp fun g e => ?_, ?_, ?_, ?_⟩
    · subst e; exact ⟨by omega, Nat.lt_of_lt_of_le (lt_of_obj hh) hcc.size⟩
    · refine (hp.map (·.1)).trans ?_
      rw [ha]; exact Hp.out
    · rw [List.pairwise_map]
      rw [List.pairwise_iff_getElem]
      intro i j hi hj hij
      have hj' : j < ks.length := by rw [← hs]; simpa using hj
      have := hso i j hij hj'
      rw [getElem!_pos a' i (by omega), getElem!_pos a' j (by omega)] at this
      simpa using this
    · exact ChgP.toL (((Hc.out.p (S := fun g => g ∈ ([] : List Nat)))).comp hcc fun g hg => Or.inr (by omega))
end Go.Proofs.Ytdeodcomlakpaaa
/- Cached. -/
namespace Go.Proofs.Ytdeodcomlakpaaa
open Go.RowKit Go.ChangeMaps Go.MapKept Go.Shelf Go.Lib Go.Sort
set_option linter.unusedVariables false
set_option linter.unusedSimpArgs false
set_option maxRecDepth 100000 in
set_option maxHeartbeats 2000000 in
theorem cached_any (w : World) (b : Nat) (d : Dm) (h : DmAt w b d) (hN : d.es.length ≤ 1000) (hk : ∀ k r, aget d.es k = some r → Inp.QKok k) (hu : UseB d) :
    Calls Try.prog 41 #[.pointer (some ⟨b, 0, none⟩)] w (SortedPost d w) := by
  obtain ⟨wa, hwa⟩ : ∃ x, x = w.alloc (.cells #[.pointer (some ⟨b, 0, none⟩)] 24) := ⟨_, rfl⟩
  have hca : Chg [] w wa := by rw [hwa]; exact (Chg.refl [] w).alloc _
  have hgb : wa.heap[w.heap.size]? = some (.cells #[.pointer (some ⟨b, 0, none⟩)] 24 (0, 0)) := by rw [hwa]; exact heap_at _ _ _ rfl
  obtain ⟨wb, hwb⟩ : ∃ x, x = wa.alloc (.cells #[.map (some d.br)] 85) := ⟨_, rfl⟩
  have hcb : Chg [] wa wb := by rw [hwb]; exact (Chg.refl [] wa).alloc _
  have hmb : wb.heap[wa.heap.size]? = some (.cells #[.map (some d.br)] 85 (0, 0)) := by rw [hwb]; exact heap_at _ _ _ rfl
  have Hcall := Lib.hid (sortedKeys_any wb b w.heap.size wa.heap.size d (h.new (hca.trans hcb)) ((hcb.block _ (lt_of_obj hgb) (by simp)).trans hgb) hmb hN hk hu)
  have q2 : w.cell? ⟨b, 2, none⟩ = some (.map (some d.br)) := cell_of_heap h.blk rfl
  have lb := lt_of_cell q2
  have lb1 : b < w.heap.size + 1 := by have := lb; simp only at this; omega
  have Hc := Lib.hid (hca.trans hcb)
  have hmf : ∀ (fn : Fn) (first cap : Array Value) (w : World), (Instr.makeFunc fn first cap).run Try.prog w = .ok (.func fn first cap) w := fun _ _ _ _ => rfl
  clear h hN hk hu hca hgb hcb hmb
  go_enter Try.func41, Try.ntmps41
  go_wp2_with fail
  rw [← hwa]
  clear hwa
  refine (mapsKeys_any d.br wa).mono ?_
  rintro e w2 ⟨rfl, hw2⟩
  rw [hw2, ← hwb]
  clear hw2 hwb
  go_wp2_with fail
  refine Hcall.out.mono ?_
  rintro e w3 ⟨v, ks, rfl, hi, hp, hs, hc3⟩
  have Hf := Lib.hid (And.intro hi (And.intro hp (And.intro hs hc3)))
  clear hi hp hs hc3
  go_wp2_with fail
  go_ret
  exact ⟨v, ks, rfl, Hf.out.1.imp fun g hg => ⟨Nat.le_trans Hc.out.size hg.1, hg.2⟩, Hf.out.2.1, Hf.out.2.2.1, Hc.out.trans Hf.out.2.2.2⟩
end Go.Proofs.Ytdeodcomlakpaaa
/- evict.Trim: forgets the least recently used results. -/
namespace Go.Proofs.Ytdeodcomlakpaaa
open Go.RowKit Go.ChangeMaps Go.MapKept
set_option linter.unusedVariables false
set_option linter.unusedSimpArgs false
/-- keys forgotten one by one -/
def forgetAll (s : PS) (ks : List QK) : PS := ks.foldl forgetP s
theorem forgetAll_append (s : PS) (ks : List QK) (k : QK) : forgetAll s (ks ++ [k]) = forgetP (forgetAll s ks) k := by
  unfold forgetAll
  rw [List.foldl_append]
  rfl
theorem Inv.forgetAll {p : Prg} {H : Hist} {s : PS} (h : Inv p H s) (ks : List QK) : Inv p H (Go.Proofs.Ytdeodcomlakpaaa.forgetAll s ks) := by
  unfold Go.Proofs.Ytdeodcomlakpaaa.forgetAll
  induction ks generalizing s with
  | nil => exact h
  | cons k l ih => exact ih (h.forget k)
/-- how many go -/
def trimN (len capacity : Int) : Int := max 0 (len - max capacity 0)
theorem trimN_bd {len capacity : Int} (h : 0 ≤ len) : 0 ≤ trimN len capacity ∧ trimN len capacity ≤ len := by unfold trimN; omega
theorem forgetAll_es {s : PS} (ks : List QK) (k : QK) : aget (forgetAll s ks).es k = if k ∈ ks then none else aget s.es k := by
  induction ks generalizing s with
  | nil => simp [forgetAll]
  | cons x l ih =>
    have : forgetAll s (x :: l) = forgetAll (forgetP s x) l := rfl
    rw [this, ih]
    by_cases h : k ∈ l
    · simp [h]
    · unfold forgetP
      simp only [aget_adel, List.mem_cons, h, or_false, if_false]
      by_cases e : x = k
      · simp [e]
      · simp [e, Ne.symm e]
theorem DbF.aft {p : Prg} {wb : World} {b : Nat} {w : World} {d : Dm} (h : DbF p wb b w d) : After b w w d d := by
  obtain ⟨w0, RO, bv, bq, qv, h1, h2, h3⟩ := h
  exact ⟨h1.env.mem, ChgP.refl _ _, fun _ h => Or.inl h, fun _ h => Or.inl h, rfl, h1.stop⟩
theorem After.trans {b : Nat} {w w1 w2 : World} {d d1 d2 : Dm} (h : After b w w1 d d1) (k : After b w1 w2 d1 d2) : After b w w2 d d2 :=
  ⟨k.mem, h.chg.comp k.chg h.muts, fun g hg => (k.muts g hg).elim (h.muts g) fun hs => Or.inr (Nat.le_trans h.chg.size hs), fun g hg => (k.imms g hg).elim (h.imms g) fun hs => Or.inr (Nat.le_trans h.chg.size hs), k.comp.trans h.comp, k.stop⟩
theorem After.new {b : Nat} {w w1 w2 : World} {d d1 : Dm} (h : After b w w1 d d1) (hc : Chg [] w1 w2) : After b w w2 d d1 :=
  ⟨h.mem.new hc, h.chg.new hc, h.muts, h.imms, h.comp, h.stop⟩
theorem invW_forget {p : Prg} {s : PS} (h : InvW p s) (k : QK) : InvW p (forgetP s k) := ⟨fun k' r hr => by
  unfold forgetP at hr
  simp only [aget_adel] at hr
  split at hr
  · cases hr
  · exact h.es k' r hr, h.act, h.du⟩
theorem DbF.forget {p : Prg} {wb : World} {b : Nat} {w : World} {d : Dm} (h : DbF p wb b w d) (k : QK) (hk : Inp.QKok k) :
    Calls Try.prog 71 #[.pointer (some ⟨b, 0, none⟩), i3v k] w fun e w' => ∃ d', e = .returned (.bool (aget d.es k).isSome) ∧ DbF p wb b w' d' ∧ After b w w' d d' ∧ d'.pl = forgetP d.pl k := by
  obtain ⟨w0, RO, bv, bq, qv, h1, h2, h3⟩ := h
  refine (forget_any w b d k h1.env.mem hk h1.stop).mono ?_
  rintro e w' ⟨rfl, d', ha, hpl⟩
  exact ⟨d', rfl, ⟨w0, RO, bv, bq, qv, h1.after ha (by rw [hpl]; exact invW_forget h1.inv k), grow h2 h3 ha⟩, ha, hpl⟩
/-- what Trim brings -/
def TrimPost (p : Prg) (wb : World) (b : Nat) (capacity : Int) (w : World) (d : Dm) (e : Ending) (w' : World) : Prop :=
  ∃ (ks : List QK) (d' : Dm), ks.Perm (d.es.map (·.1)) ∧ ks.Pairwise (fun x y => useOf d x ≤ useOf d y) ∧ e = .returned (.int .i64 (trimN ks.length capacity)) ∧ DbF p wb b w' d' ∧ After b w w' d d' ∧ d'.pl = forgetAll d.pl (ks.take (trimN ks.length capacity).toNat)
set_option maxRecDepth 100000 in
set_option maxHeartbeats 4000000 in
theorem trim_any {p : Prg} (hp : PrgOk p) {wb : World} {b : Nat} {w : World} {d : Dm} (h : DbF p wb b w d) (hN : d.es.length ≤ 1000) (hu : UseB d) (capacity : Int) (hc0 : 0 ≤ capacity) (hc1 : capacity ≤ 1000) :
    Calls Try.prog 42 #[.pointer (some ⟨b, 0, none⟩), .int .i64 capacity] w (TrimPost p wb b capacity w d) := by
  have hqk : ∀ k r, aget d.es k = some r → Inp.QKok k := fun k r hr => qryKok ((h.inv.es k r.pl (by rw [Dm.aget_pl, hr]; rfl)).1) hp.size
  have Hcall := Lib.hid (cached_any w b d h.mem hN hqk hu)
  have H := Lib.hid h
  have HN := Lib.hid hN
  clear h hN hqk hu
  go_enter Try.func42, Try.ntmps42
  go_wp2_with fail
  refine Hcall.out.mono ?_
  rintro e w1 ⟨v, ks, rfl, hi, hpm, hsr, hc⟩
  obtain ⟨av, cv, rfl, hlm, hlc⟩ := hi.shape
  have hkl : ks.length ≤ 1000 := by
    have h1 := hpm.length_eq
    rw [List.length_map] at h1
    have := HN.out
    omega
  obtain ⟨nn, hnn⟩ : ∃ nn : Nat, max 0 ((ks.length : Int) - max capacity 0) = nn := ⟨(max 0 ((ks.length : Int) - max capacity 0)).toNat, by omega⟩
  have hwr : wrap64 ((ks.length : Int) - max capacity 0) = (ks.length : Int) - max capacity 0 := by unfold wrap64; omega
  have hnl : nn ≤ ks.length := by omega
  have hnc : (nn : Int) ≤ cv := by omega
  go_wp2_with fail
  have Hnn := Lib.hid (And.intro hnn hnl)
  have Hi := Lib.hid hi
  have Hpm := Lib.hid (And.intro hpm (And.intro hsr hc))
  have H1 := Lib.hid (H.out.new hc)
  clear hnn hwr hi hpm hsr hc
  go_loopw [23] (fun jj wr => ∃ (k : Nat) (d' : Dm), k ≤ nn ∧ jj = .int .i64 (k : Nat) ∧ DbF p wb b wr d' ∧ d'.pl = forgetAll d.pl (ks.take k) ∧ After b w1 wr d d' ∧ I3s (fun g => w.heap.size ≤ g ∧ g < w1.heap.size) wr (.slice av ks.length cv) ks) (fun jj _ => nn - (intOf jj).toNat)
  case atStart => exact ⟨0, d, by omega, rfl, H1.out, rfl, H1.out.aft, Hi.out⟩
  case round =>
    obtain ⟨k, d', hk, rfl, hdb, hpl, haf, hi⟩ := hrel
    have Hdb := Lib.hid hdb
    have Hpl := Lib.hid hpl
    have Haf := Lib.hid haf
    have Hir := Lib.hid hi
    by_cases hlt : k < nn
    · have hk1 : (k : Int) < nn := by omega
      have hkl2 : k < ks.length := by omega
      obtain ⟨g, off, rfl, hgp, r0, r1, r2⟩ := SlR.at hi k hkl2 (0, 0, 0)
      obtain ⟨key, hkey⟩ : ∃ key, key = ks.getD k (0, 0, 0) := ⟨_, rfl⟩
      rw [← hkey] at r0 r1 r2
      have hmem : key ∈ ks := by rw [hkey]; simp [hkl2]
      have hqk : Inp.QKok key := by
        obtain ⟨q, hq, e⟩ := List.mem_map.1 (Hpm.out.1.mem_iff.1 hmem)
        rw [← e]
        cases hr : aget d.es q.1 with
        | none => exact absurd rfl (aget_none hr q hq)
        | some r => exact qryKok ((H.out.inv.es q.1 r.pl (by rw [Dm.aget_pl, hr]; rfl)).1) hp.size
      have htk : ks.take (k + 1) = ks.take k ++ [key] := by
        rw [List.take_succ_eq_append_getElem hkl2, hkey]
        simp [hkl2]
      have Htk := Lib.hid htk
      have Hqk := Lib.hid hqk
      have Hgp := Lib.hid hgp
      have lg : g < wr.heap.size := lt_of_cell r0
      obtain ⟨k1, k2, k3⟩ := key
      simp only at r0 r1 r2
      clear hdb hpl haf hi hkey hmem hqk htk hgp
      go_wp2_with fail
      have hca : Chg [] wr (wr.alloc (.cells #[.int .i64 k1, .int .i64 k2, .int .i64 k3] 27)) := (Chg.refl [] wr).alloc _
      refine ((Hdb.out.new hca).forget (k1, k2, k3) Hqk.out).mono ?_
      rintro e w5 ⟨d5, rfl, hd5, ha5, hp5⟩
      have hpl5 : d5.pl = forgetAll d.pl (ks.take (k + 1)) := by rw [hp5, Hpl.out, Htk.out, forgetAll_append]
      have haf5 := (Haf.out.new hca).trans ha5
      have hi5 : I3s (fun g => w.heap.size ≤ g ∧ g < w1.heap.size) w5 (.slice (some ⟨g, off, none⟩) ks.length cv) ks := I3s.kept (S := fun x => x ∈ d'.muts b) Hir.out ((hca.p (S := fun x => x ∈ d'.muts b)).trans ha5.chg) fun x hx hm => by
        rcases Haf.out.muts x hm with hm | hm
        · have := H.out.mem.lt x hm; omega
        · omega
      have Hr := Lib.hid (And.intro hd5 (And.intro hpl5 (And.intro haf5 hi5)))
      clear hca hd5 ha5 hp5 hpl5 haf5 hi5 r0 r1 r2 lg
      go_wp2_with fail
      go_roundw
      case rel => exact ⟨k + 1, d5, by omega, by go_num, Hr.out.1, Hr.out.2.1, Hr.out.2.2.1, Hr.out.2.2.2⟩
      case measure => simp only [intOf]; omega
    · obtain rfl : k = nn := by omega
      have hk1 : ¬ ((k : Int) < k) := by omega
      clear hdb hpl haf hi
      go_wp2_with fail
      go_ret
      have hn : trimN ks.length capacity = (k : Int) := Hnn.out.1
      refine ⟨ks, d', Hpm.out.1, Hpm.out.2.1, ?_, Hdb.out, ?_, ?_⟩
      · rw [hn]; rfl
      · have hc := Hpm.out.2.2
        exact ⟨Haf.out.mem, (hc.p (S := fun g => g ∈ d.muts b)).trans Haf.out.chg, fun g hg => (Haf.out.muts g hg).imp id fun h => Nat.le_trans hc.size h, fun g hg => (Haf.out.imms g hg).imp id fun h => Nat.le_trans hc.size h, Haf.out.comp, Haf.out.stop⟩
      · rw [hn]; exact Hpl.out
end Go.Proofs.Ytdeodcomlakpaaa
