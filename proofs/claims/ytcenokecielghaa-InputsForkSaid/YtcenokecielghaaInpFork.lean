/- The law InputsFork: its walk. -/
import Derived.Test.YtcenokecielghaaInpE
import Derived.Test.YtcenokecielghaaInpDur
namespace Go.Proofs.Ytcenokecielghaa
open Go.RowKit Go.ChangeMaps Go.MapKept

def ForkOne (w : World) (b bm t : Nat) (i : Value) (wr : World) : Prop := ∃ (k : Nat) (S : St), k ≤ t ∧ i = .int .i64 (k : Nat) ∧ S.rev ≤ k ∧ Inv S ∧ StoreIs wr b bm S ∧ Chg [] w wr
/-- the remembered values: a row of the call's own, element i reads as what the store S holds at input i -/
def BefAt (w : World) (v : Value) (base k : Nat) (S : St) : Prop := ∃ cs : List Value, w.ownsRow base 37 2 v k cs ∧ ∀ i, i < k → ∃ a c, cs[i * 2]? = some (.slice a (S.at (0, (i : Int), 0)).xs.length c) ∧ cs[i * 2 + 1]? = some (.string (S.at (0, (i : Int), 0)).tx) ∧ Ints w (.slice a (S.at (0, (i : Int), 0)).xs.length c) (S.at (0, (i : Int), 0)).xs
theorem BefAt.zero (w : World) (base : Nat) (S : St) : BefAt w (.slice none 0 0) base 0 S := ⟨[], World.ownsRow_nil _ _ _ _, fun i hi => absurd hi (Nat.not_lt_zero i)⟩
theorem ownsRow_kept {w w' : World} {base : Nat} {e : TypeId} {size : Nat} {v : Value} {n : Nat} {xs : List Value} {T : List Nat} (h : w.ownsRow base e size v n xs) (hc : Chg T w w') (hT : ∀ g, base ≤ g → g ∉ T) : w'.ownsRow base e size v n xs := by
  refine ⟨h.1, ?_⟩
  rcases h.2 with hn | ⟨g, cap, cur, rfl, hb, hgg, rest⟩
  · exact .inl hn
  · exact .inr ⟨g, cap, cur, rfl, hb, (hc.block g (lt_of_obj hgg) (hT g hb)).trans hgg, rest⟩
theorem BefAt.kept {w w' : World} {v : Value} {base k : Nat} {S : St} {T : List Nat} (h : BefAt w v base k S) (hc : Chg T w w') (hT : ∀ g, base ≤ g → g ∉ T) (hn : ∀ g ∈ T, NotE 3 w g) : BefAt w' v base k S := by
  obtain ⟨cs, h1, h2⟩ := h
  refine ⟨cs, ownsRow_kept h1 hc hT, fun i hi => ?_⟩
  obtain ⟨a, c, h3, h4, h5⟩ := h2 i hi
  exact ⟨a, c, h3, h4, h5.kept hc hn⟩
theorem BefAt.same {w w' : World} {v : Value} {base k : Nat} {S : St} (h : BefAt w v base k S) (hc : Chg [] w w') : BefAt w' v base k S := h.kept hc (by simp) (by simp)
/-- one value more -/
theorem BefAt.snoc {w w1 : World} {v v1 : Value} {base k : Nat} {S : St} {a : Option Addr} {c : Nat} {cs : List Value} (h : ∀ i, i < k → ∃ a c, cs[i * 2]? = some (.slice a (S.at (0, (i : Int), 0)).xs.length c) ∧ cs[i * 2 + 1]? = some (.string (S.at (0, (i : Int), 0)).tx) ∧ Ints w (.slice a (S.at (0, (i : Int), 0)).xs.length c) (S.at (0, (i : Int), 0)).xs)
    (hl : cs.length = k * 2) (hv : w.ownsRow base 37 2 v k cs) (hg : w.grownBy w1 v.ownBlock) (hi : Ints w (.slice a (S.at (0, (k : Int), 0)).xs.length c) (S.at (0, (k : Int), 0)).xs)
    (ho : w1.ownsRow base 37 2 v1 (k + 1) (cs ++ [.slice a (S.at (0, (k : Int), 0)).xs.length c, .string (S.at (0, (k : Int), 0)).tx])) : BefAt w1 v1 base (k + 1) S := by
  have hc : Chg v.ownBlock.toList w w1 := (Chg.refl _ w).grown hg (fun j hj => Or.inl (by simp [hj]))
  have hn : ∀ g ∈ v.ownBlock.toList, NotE 3 w g := by
    intro g hg'
    rcases hv.2 with ⟨rfl, _⟩ | ⟨g', cap, cur, rfl, _, hgg, _⟩
    · simp [Value.ownBlock] at hg'
    · simp [Value.ownBlock] at hg'
      subst hg'
      exact NotE.of_heap hgg (by simp)
  refine ⟨_, ho, fun i hi' => ?_⟩
  by_cases he : i < k
  · obtain ⟨a', c', h3, h4, h5⟩ := h i he
    exact ⟨a', c', by rw [List.getElem?_append_left (by omega)]; exact h3, by rw [List.getElem?_append_left (by omega)]; exact h4, h5.kept hc hn⟩
  · obtain rfl : i = k := by omega
    exact ⟨a, c, by rw [List.getElem?_append_right (by omega)]; simp [hl], by rw [List.getElem?_append_right (by omega)]; simp [hl], hi.kept hc hn⟩
theorem BefAt.cells {w : World} {v : Value} {base k : Nat} {S : St} (h : BefAt w v base k S) (i : Nat) (hi : i < k) : ∃ g cap a c, v = .slice (some ⟨g, 0, none⟩) k cap ∧ w.cell? ⟨g, i * 2, none⟩ = some (.slice a (S.at (0, (i : Int), 0)).xs.length c) ∧ w.cell? ⟨g, i * 2 + 1, none⟩ = some (.string (S.at (0, (i : Int), 0)).tx) ∧ Ints w (.slice a (S.at (0, (i : Int), 0)).xs.length c) (S.at (0, (i : Int), 0)).xs := by
  obtain ⟨cs, h1, h2⟩ := h
  obtain ⟨a, c, h3, h4, h5⟩ := h2 i hi
  rcases h1.2 with ⟨rfl, h0⟩ | ⟨g, cap, cur, rfl, hb, hgg, hr⟩
  · omega
  · have hcell := h1.cells (g := g) (by simp [Value.ownBlock])
    have e1 := hcell (i * 2) _ h3
    have e2 := hcell (i * 2 + 1) _ h4
    rw [Addr.add_lit, Nat.zero_add] at e1 e2
    exact ⟨g, cap, a, c, rfl, e1, e2, h5⟩
theorem Try.infoQV : (Try.prog.info? 37).map (fun i => (i.zero, i.size, i.bytes)) = some (some (.agg #[.slice none 0 0, .string ⟨#[]⟩]), 2, 40) := by kernel_rfl
theorem slice_from (w : World) (a : Addr) (m cap t : Nat) (h1 : t ≤ m) : (Instr.slice 22 (.slice (some a) m cap) (some (.int .i64 (t : Int))) none none).run Try.prog w = .ok (.slice (some (if cap = t then a else a.add (t * 3))) (m - t) (cap - t)) w := by
  by_cases hc : cap = t
  · simp [Instr.slice, run_underlying Try.underlying22, Instr.sliceBounds, Instr.sliceBound, asIntOf, Result.andThen, h1, hc]
  · simp [Instr.slice, run_underlying Try.underlying22, Instr.sliceBounds, Instr.sliceBound, asIntOf, Result.andThen, h1, hc]
theorem append_chg {w w1 : World} {v : Value} {base k : Nat} {cs : List Value} (hv : w.ownsRow base 37 2 v k cs) (hg : w.grownBy w1 v.ownBlock) : Chg v.ownBlock.toList w w1 ∧ ∀ g ∈ v.ownBlock.toList, base ≤ g ∧ NotE 3 w g := by
  refine ⟨(Chg.refl _ w).grown hg (fun j hj => Or.inl (by simp [hj])), fun g hg' => ?_⟩
  rcases hv.2 with ⟨rfl, _⟩ | ⟨g', cap, cur, rfl, hb, hgg, _⟩
  · simp [Value.ownBlock] at hg'
  · simp [Value.ownBlock] at hg'
    subst hg'
    exact ⟨hb, NotE.of_heap hgg (by simp)⟩
theorem news_of {w : World} {g : Nat} {c : Array Value} {E : TypeId} {fr : Nat × Nat} (h : w.heap[g]? = some (.cells c E fr)) : ∀ j u, c.toList[j]? = some u → w.cell? ((⟨g, 0, none⟩ : Addr).add j) = some u := fun j u hu => by
  rw [Addr.add_lit, Nat.zero_add]
  exact cell_of_heap h (by simpa using hu)
theorem BefAt.shape {w : World} {v : Value} {base k : Nat} {S : St} (h : BefAt w v base k S) (hk : 0 < k) : ∃ g cap, v = .slice (some ⟨g, 0, none⟩) k cap := by
  obtain ⟨g, cap, _, _, h1, _⟩ := h.cells 0 hk
  exact ⟨g, cap, h1⟩
theorem inputsEqual_true (w : World) (v v' : Value) (s : ByteArray) (xs : List Int) (h : Ints w v xs) (h' : Ints w v' xs) :
    Calls Try.prog 15 #[.agg #[v, .string s], .agg #[v', .string s]] w fun e w' => e = .returned (.bool true) ∧ Chg [] w w' :=
  (inputsEqual w v v' s s xs xs h h').mono fun e w' ⟨he, hc⟩ => ⟨by rw [he, decide_eq_true ⟨rfl, rfl⟩], hc⟩
def ForkTwo (w : World) (b bm bf bfm base : Nat) (S : St) (bv i : Value) (wr : World) : Prop := ∃ k : Nat, k ≤ 4 ∧ i = .int .i64 (k : Nat) ∧ BefAt wr bv base k S ∧ StoreIs wr b bm S ∧ StoreIs wr bf bfm S ∧ Chg [] w wr ∧ base ≤ wr.heap.size
def ForkThree (w : World) (b bm bf bfm base t d : Nat) (S0 : St) (bv i : Value) (wr : World) : Prop := ∃ (k : Nat) (S : St), k ≤ d ∧ i = .int .i64 (k : Nat) ∧ BefAt wr bv base 4 S0 ∧ StoreIs wr b bm S ∧ StoreIs wr bf bfm S0 ∧ Chg [] w wr ∧ base ≤ wr.heap.size ∧ S.rev ≤ t + k ∧ S0.rev ≤ S.rev ∧ Inv S
def ForkFour (w : World) (b bm bf bfm base : Nat) (S S0 : St) (bv i : Value) (wr : World) : Prop := ∃ k : Nat, k ≤ 4 ∧ i = .int .i64 (k : Nat) ∧ BefAt wr bv base 4 S0 ∧ StoreIs wr b bm S ∧ StoreIs wr bf bfm S0 ∧ Chg [] w wr

set_option maxRecDepth 100000 in
set_option maxHeartbeats 8000000 in
theorem fork_walk_few (w : World) (g off cap n : Nat) (x : Int) (ss : List (Int × Int × Int)) (hn : n ≤ cap) (hcap : cap ≤ maxLen) (hle : n ≤ 30) (hml : n ≤ ss.length)
    (hc : ∀ i, i < ss.length → w.cell? ⟨g, off + i * 3, none⟩ = some (.int .i64 (ss.getD i (0, 0, 0)).1) ∧ w.cell? ⟨g, off + i * 3 + 1, none⟩ = some (.int .i64 (ss.getD i (0, 0, 0)).2.1) ∧ w.cell? ⟨g, off + i * 3 + 2, none⟩ = some (.int .i64 (ss.getD i (0, 0, 0)).2.2)) :
    Calls Try.prog 4 #[.slice (some ⟨g, off, none⟩) n cap, .int .i64 x] w fun e w' => e = .returned (.bool true) ∧ Chg [] w w' := by
  have Hc := Lib.hid hc
  clear hc
  unfold maxLen at hcap
  obtain ⟨i0, hi, hz0, hz1, hz2⟩ := info_parts Try.infoQV
  have Hi0 := Lib.hid hi
  have Hz0 := Lib.hid hz0
  have Hz1 := Lib.hid hz1
  have Hz2 := Lib.hid hz2
  clear hi hz0 hz1 hz2
  go_enter Try.func4, Try.ntmps4
  go_wp2_with fail
  refine (storeExample_any _).mono ?_
  rintro e w1 ⟨rfl, c1⟩
  go_wp2_with fail
  refine (new_any _).mono ?_
  rintro e w2 ⟨rfl, h2, c2⟩
  go_wp2_with fail
  refine (storeExample_any _).mono ?_
  rintro e w3 ⟨rfl, c3⟩
  go_wp2_with fail
  refine (mod_any _ _ _ (by omega) (by omega)).mono ?_
  rintro e w' ⟨rfl, rfl⟩
  obtain ⟨ht0, ht1⟩ := modI_bd x ((n : Int) + 1) (by omega)
  obtain ⟨t, ht⟩ := Int.eq_ofNat_of_zero_le ht0
  rw [ht]
  rw [ht] at ht1
  clear ht ht0
  have htm : t ≤ n := by omega
  have htc : t ≤ cap := by omega
  have hb1 : w.heap.size ≤ w1.heap.size := c1.size
  have h3 := h2.same c3
  have cw : Chg [] w w3 := (c1.new c2).new c3
  have hbb : w.heap.size ≤ w1.heap.size + 1 := by omega
  generalize w1.heap.size + 1 = b at h3 hbb ⊢
  generalize w1.heap.size = bm at h3 hb1 ⊢
  clear h2 c1 c2 c3
  go_wp2_with fail
  go_loopw [44] (fun i wr => ForkOne w b bm t i wr) (fun i _ => t - (intOf i).toNat)
  case atStart => exact ⟨0, _, Nat.zero_le _, rfl, by decide, Inv.new, h3, cw⟩
  case round =>
    obtain ⟨k, S, hk, rfl, hrk, hinv, hs, hcw⟩ := hrel
    clear h3 cw
    by_cases hlt : k < t
    · obtain ⟨q0, q1, q2⟩ := Hc.out k (by omega)
      have lg := lt_of_cell q0
      replace q0 := (hcw.cell lg (by simp)).trans q0
      replace q1 := (hcw.cell (p := ⟨g, off + k * 3 + 1, none⟩) lg (by simp)).trans q1
      replace q2 := (hcw.cell (p := ⟨g, off + k * 3 + 2, none⟩) lg (by simp)).trans q2
      generalize (ss.getD k (0, 0, 0)).1 = xd at q0
      generalize (ss.getD k (0, 0, 0)).2.1 = xa at q1
      generalize (ss.getD k (0, 0, 0)).2.2 = xb at q2
      have Hi := Lib.hid hinv
      have Hs := Lib.hid hs
      have hr0 := hinv.rev0
      have lb := lt_of_obj hs.blk
      have lbm := hs.map.lt
      clear hinv hs
      have ba := modI_bd xa 4 (by decide)
      have bd := modI_bd xd 3 (by decide)
      go_wp2_with fail
      go_region_held3 (fun w' => w'.cell? ⟨wr.heap.size, 0, none⟩ = some (.int .i64 xd) ∧ w'.cell? ⟨wr.heap.size, 1, none⟩ = some (.int .i64 xa) ∧ w'.cell? ⟨wr.heap.size, 2, none⟩ = some (.int .i64 xb) ∧ wr.heap.size < w'.heap.size)
        (first | (go_keep; done) | (refine ⟨?_, ?_, ?_, ?_⟩ <;> (simp [go_sem]; done)) | (go_split_ands; refine ⟨?_, ?_, ?_, ?_⟩; (rw [hcc.cell (by assumption) (by simp; try omega)]; assumption); (rw [hcc.cell (by assumption) (by simp; try omega)]; assumption); (rw [hcc.cell (by assumption) (by simp; try omega)]; assumption); (have := hcc.size; omega)))
        (first
          | (go_at_call 9; refine (mod_any _ _ _ (by decide) (by decide)).mono ?_; rintro e w' ⟨rfl, rfl⟩)
          | (go_at_call 8; refine (inputKey_any _ _).mono ?_; rintro e w4 ⟨rfl, hcc⟩; have hk1 := hcc)
          | (go_at_call 10; refine (number_any _ _).mono ?_; rintro e w5 ⟨an, cn, rfl, hin, hcc⟩; have hk2 := hcc)
          | (go_at_call 7; refine (set_any b bm S (0, modI xa 4, 0) _ [xb] ⟨#[]⟩ (modI xd 3) _ (Hs.out.same (((((Chg.refl [] wr).alloc _).drew).new hk1).new hk2)) (keyA_ok ba.1 (by omega)) rfl hin (by simp) bd (Hi.out.at _).1 ⟨hr0, by omega⟩).mono ?_; rintro e w6 ⟨ch, S', rfl, hs', hcc, hrel⟩))
      obtain ⟨hinv', hrv⟩ := Hi.out.step hrel bd
      have hcw' : Chg [] w w6 := by
        refine (((((hcw.alloc _).drew).new hk1).new hk2)).comp hcc ?_
        intro x hx
        simp at hx
        omega
      have hrk' : S'.rev ≤ (k + 1 : Nat) := by cases ch <;> simp at hrv <;> omega
      clear hrel hrv
      go_wp2
      exact ⟨⟨k + 1, S', by omega, by go_num, hrk', hinv', hs', hcw'⟩, by simp [intOf]; omega⟩
    · go_wp2_with fail
      refine (fork_any b bm S _ hs).mono ?_
      rintro e w4 ⟨rfl, hf, c4⟩
      have hs4 := hs.same c4
      have hcw4 := hcw.new c4
      have z4 : wr.heap.size + 1 < w4.heap.size := lt_of_obj hf.blk
      have lb4 := lt_of_obj hs4.blk
      have lbm4 := hs4.map.lt
      have lwr : w.heap.size ≤ wr.heap.size := hcw.size
      have lb3 := lt_of_obj hs.blk
      have lbm3 := hs.map.lt
      have lbff : wr.heap.size < wr.heap.size + 1 := by omega
      have nb4 : NotE 3 w4 b := NotE.of_heap hs4.blk (by simp)
      generalize hbf : wr.heap.size + 1 = bf at hf z4 lbff ⊢
      generalize hbfm : wr.heap.size = bfm at hf lwr lb3 lbm3 lbff ⊢
      have lbf : w.heap.size ≤ bf := by omega
      have lbf2 : bfm < w4.heap.size := by omega
      clear hbf hbfm hs hcw c4
      go_wp2_with fail
      refine (revision_any b bm S _ hs4).mono ?_
      rintro e w5 ⟨rfl, rfl⟩
      go_wp2_with fail
      go_loopw [10, 67] (fun bv i wr => ForkTwo w b bm bf bfm w4.heap.size S bv i wr) (fun _ i _ => 4 - (intOf i).toNat)
      case atStart => exact ⟨0, by omega, rfl, BefAt.zero _ _ _, hs4, hf, hcw4, Nat.le_refl _⟩
      case round =>
        obtain ⟨k2, hk2, rfl, hbef, hs5, hf5, hcw5, hz5⟩ := hrel
        by_cases hlt2 : k2 < 4
        · have Hbef := Lib.hid hbef
          have Hs5 := Lib.hid hs5
          have Hf5 := Lib.hid hf5
          clear hbef hs5 hf5 hs4 hf
          go_wp2_with fail
          refine (inputKey_any _ _).mono ?_
          rintro e w6 ⟨rfl, hk6⟩
          go_wp2_with fail
          refine (get_any bf bfm S (0, (k2 : Int), 0) _ (Hf5.out.same hk6) (keyA_ok (by omega) (by omega))).mono ?_
          rintro e w7 ⟨a7, c7, rfl, hi7, hk7⟩
          have hc7 := (Chg.refl [] wr).new hk6 |>.new hk7
          obtain ⟨cs, hown, hel⟩ := Hbef.out.same hc7
          have hz7 : w4.heap.size ≤ w7.heap.size := Nat.le_trans hz5 hc7.size
          have hlen : cs.length = k2 * 2 := hown.1
          have Hown := Lib.hid hown
          have Hel := Lib.hid hel
          have Hi7 := Lib.hid hi7
          have Hlen := Lib.hid hlen
          clear hown hel hi7 hk6 hk7 hlen
          obtain ⟨xs7, hx7⟩ : ∃ xs7, xs7 = (S.at (0, (k2 : Int), 0)).xs := ⟨_, rfl⟩
          obtain ⟨tx7, htx7⟩ : ∃ tx7, tx7 = (S.at (0, (k2 : Int), 0)).tx := ⟨_, rfl⟩
          rw [← hx7, ← htx7]
          have Hx7 := Lib.hid hx7
          have Htx7 := Lib.hid htx7
          clear hx7 htx7
          go_wp2_with (at_builtin; refine wpList_append_own _ rfl _ _ 44 rfl w4.heap.size 37 i0 (.agg #[.slice none 0 0, .string ⟨#[]⟩]) 2 40 Try.underlying44 Hi0.out Hz0.out Hz1.out Hz2.out rfl (by decide) u10 k2 cs rfl ((Hown.out.alloc _).alloc _) ⟨w7.heap.size + 1, 0, none⟩ 1 1 [.slice a7 xs7.length c7, .string tx7] rfl rfl (news_of (heap_at _ _ _ (by simp))) (by simp [Value.oneCell']) (by unfold maxLen; omega) (by omega) (by simp; omega) ?_; intro v8 w8 hown8 hgr8 _)
          have hca := ((Chg.refl [] w7).alloc (.cells #[.slice a7 xs7.length c7, .string tx7] 37)).alloc (.cells #[.slice a7 xs7.length c7, .string tx7] 37)
          have hap := append_chg ((Hown.out.alloc (.cells #[.slice a7 xs7.length c7, .string tx7] 37)).alloc (.cells #[.slice a7 xs7.length c7, .string tx7] 37)) hgr8
          have hs8 : StoreIs w8 b bm S := ((Hs5.out.same hc7).same hca).kept hap.1 (fun g hg => (hap.2 g hg).2) (fun hm => by have := (hap.2 _ hm).1; omega) (fun hm => by have := (hap.2 _ hm).1; omega)
          have hf8 : StoreIs w8 bf bfm S := ((Hf5.out.same hc7).same hca).kept hap.1 (fun g hg => (hap.2 g hg).2) (fun hm => by have := (hap.2 _ hm).1; omega) (fun hm => by have := (hap.2 _ hm).1; omega)
          have hcw8 : Chg [] w w8 := ((hcw5.new hc7).new hca).comp hap.1 (fun g hg => Or.inr (by have := (hap.2 _ hg).1; omega))
          have hb8 : BefAt w8 v8 w4.heap.size (k2 + 1) S := by
            refine BefAt.snoc (a := a7) (c := c7) (cs := cs) (fun i hi => ?_) Hlen.out ((Hown.out.alloc _).alloc _) hgr8 ?_ ?_
            · obtain ⟨a, c, e1, e2, e3⟩ := Hel.out i hi
              exact ⟨a, c, e1, e2, e3.same hca⟩
            · have := Hi7.out
              exact this.same hca
            · rw [← Hx7.out, ← Htx7.out]
              exact hown8
          have hz8 : w4.heap.size ≤ w8.heap.size := Nat.le_trans hz7 (Nat.le_trans hca.size hap.1.size)
          clear hown8 hgr8 hap hca
          go_wp2
          exact ⟨⟨k2 + 1, by omega, by go_num, hb8, hs8, hf8, hcw8, hz8⟩, by simp [intOf]; omega⟩
        · have hk24 : k2 = 4 := by omega
          rw [hk24] at hbef
          clear hk24
          obtain ⟨d, hd⟩ : ∃ d : Nat, t + d = n := ⟨n - t, by omega⟩
          obtain ⟨A, C, hA, hsl⟩ : ∃ A C, (0 < d → A = ⟨g, off + t * 3, none⟩) ∧ ∀ w : World, (Instr.slice 22 (.slice (some ⟨g, off, none⟩) n cap) (some (.int .i64 (t : Int))) none none).run Try.prog w = .ok (.slice (some A) d C) w := by
            refine ⟨if cap = t then ⟨g, off, none⟩ else (⟨g, off, none⟩ : Addr).add (t * 3), cap - t, fun h => by rw [if_neg (by omega), Addr.add_lit], fun w => ?_⟩
            rw [slice_from w _ _ _ _ htm, show n - t = d from by omega]
          have HA := Lib.hid hA
          have Hbef := Lib.hid hbef
          clear hA hbef hs4 hf
          go_wp2_with fail
          go_loopw [87] (fun i wr => ForkThree w b bm bf bfm w4.heap.size t d S u10 i wr) (fun i _ => d - (intOf i).toNat)
          case atStart => exact ⟨0, S, by omega, rfl, Hbef.out, hs5, hf5, hcw5, hz5, by omega, Int.le_refl _, hinv⟩
          case round =>
            clear hs5 hf5 hcw5 hz5 Hbef hinv hrk
            obtain ⟨k3, T3, hk3, rfl, hbef, hs, hf, hcw, hz, hrk, hr1, hinv⟩ := hrel
            by_cases hlt3 : k3 < d
            · obtain rfl := HA.out (by omega)
              obtain ⟨q0, q1, q2⟩ := Hc.out (t + k3) (by omega)
              rw [show off + (t + k3) * 3 = off + t * 3 + k3 * 3 from by omega] at q0 q1 q2
              have lg := lt_of_cell q0
              replace q0 := (hcw.cell lg (by simp)).trans q0
              replace q1 := (hcw.cell (p := ⟨g, off + t * 3 + k3 * 3 + 1, none⟩) lg (by simp)).trans q1
              replace q2 := (hcw.cell (p := ⟨g, off + t * 3 + k3 * 3 + 2, none⟩) lg (by simp)).trans q2
              generalize (ss.getD (t + k3) (0, 0, 0)).1 = xd at q0
              generalize (ss.getD (t + k3) (0, 0, 0)).2.1 = xa at q1
              generalize (ss.getD (t + k3) (0, 0, 0)).2.2 = xb at q2
              have Hi := Lib.hid hinv
              have Hs := Lib.hid hs
              have hr0 := hinv.rev0
              have lb := lt_of_obj hs.blk
              have lbm := hs.map.lt
              clear hinv hs
              have ba := modI_bd xa 4 (by decide)
              have bd := modI_bd xd 3 (by decide)
              have Hbef := Lib.hid hbef
              have Hf := Lib.hid hf
              clear hbef hf
              go_wp2_with fail
              go_region_held3 (fun w' => w'.cell? ⟨wr.heap.size, 0, none⟩ = some (.int .i64 xd) ∧ w'.cell? ⟨wr.heap.size, 1, none⟩ = some (.int .i64 xa) ∧ w'.cell? ⟨wr.heap.size, 2, none⟩ = some (.int .i64 xb) ∧ wr.heap.size < w'.heap.size)
        (first | (go_keep; done) | (refine ⟨?_, ?_, ?_, ?_⟩ <;> (simp [go_sem]; done)) | (go_split_ands; refine ⟨?_, ?_, ?_, ?_⟩; (rw [hcc.cell (by assumption) (by simp; try omega)]; assumption); (rw [hcc.cell (by assumption) (by simp; try omega)]; assumption); (rw [hcc.cell (by assumption) (by simp; try omega)]; assumption); (have := hcc.size; omega)))
        (first
          | (go_at_call 9; refine (mod_any _ _ _ (by decide) (by decide)).mono ?_; rintro e w' ⟨rfl, rfl⟩)
          | (go_at_call 8; refine (inputKey_any _ _).mono ?_; rintro e w4 ⟨rfl, hcc⟩; have hk1 := hcc)
          | (go_at_call 10; refine (number_any _ _).mono ?_; rintro e w5 ⟨an, cn, rfl, hin, hcc⟩; have hk2 := hcc)
          | (go_at_call 7; refine (set_any b bm T3 (0, modI xa 4, 0) _ [xb] ⟨#[]⟩ (modI xd 3) _ (Hs.out.same (((((Chg.refl [] wr).alloc _).drew).new hk1).new hk2)) (keyA_ok ba.1 (by omega)) rfl hin (by simp) bd (Hi.out.at _).1 ⟨hr0, by omega⟩).mono ?_; rintro e w6 ⟨ch, S', rfl, hs', hcc, hrel⟩))
              obtain ⟨hinv', hrv⟩ := Hi.out.step hrel bd
              have hpre : Chg [] wr w5 := (((Chg.refl [] wr).alloc _).drew.new hk1).new hk2
              have hcw' : Chg [] w w6 := by
                refine (hcw.new hpre).comp hcc ?_
                intro x hx
                simp at hx
                omega
              have hrk' : S'.rev ≤ (t + (k3 + 1 : Nat) : Int) := by cases ch <;> simp at hrv <;> omega
              have hr1' : S.rev ≤ S'.rev := by cases ch <;> simp at hrv <;> omega
              clear hrel hrv
              have hn6 : ∀ j ∈ [b, bm], NotE 3 w5 j := by
                have h5 := Hs.out.same hpre
                intro j hj
                simp at hj
                rcases hj with rfl | rfl
                · exact NotE.of_heap h5.blk (by simp)
                · obtain ⟨arr, clock, e1, _⟩ := h5.map
                  exact NotE.of_heap e1 (by simp)
              go_wp2
              exact ⟨⟨k3 + 1, S', by omega, by go_num, (Hbef.out.same hpre).kept hcc (fun j hj hm => by simp at hm; omega) hn6, hs', (Hf.out.same hpre).kept hcc hn6 (fun hm => by simp at hm; omega) (fun hm => by simp at hm; omega), hcw', Nat.le_trans hz (Nat.le_trans hpre.size hcc.size), hrk', hr1', hinv'⟩, by simp [intOf]; omega⟩
            · obtain ⟨gb, capb, hu⟩ := hbef.shape (by decide)
              rw [hu] at hbef ⊢
              clear hu
              have Hi3 := Lib.hid hinv
              clear hinv
              go_wp2_with fail
              go_loopw [104] (fun i wr => ForkFour w b bm bf bfm w4.heap.size T3 S (.slice (some ⟨gb, 0, none⟩) 4 capb) i wr) (fun i _ => 4 - (intOf i).toNat)
              case atStart => exact ⟨0, by omega, rfl, hbef, hs, hf, hcw⟩
              case round =>
                clear hbef hs hf hcw hz
                obtain ⟨k4, hk4, rfl, hbef, hs, hf, hcw⟩ := hrel
                by_cases hlt4 : k4 < 4
                · have Hbef := Lib.hid hbef
                  have Hs := Lib.hid hs
                  have Hf := Lib.hid hf
                  clear hbef hs hf
                  go_wp2_with fail
                  refine (inputKey_any _ _).mono ?_
                  rintro e w6 ⟨rfl, hk6⟩
                  go_wp2_with fail
                  refine (get_any bf bfm S (0, (k4 : Int), 0) _ (Hf.out.same hk6) (keyA_ok (by omega) (by omega))).mono ?_
                  rintro e w7 ⟨a7, c7, rfl, hi7, hk7⟩
                  have hc7 := ((Chg.refl [] wr).new hk6).new hk7
                  obtain ⟨gg, cc, ab, cb, hsh, q0, q1, hib⟩ := (Hbef.out.same hc7).cells k4 hlt4
                  simp only [Value.slice.injEq, Option.some.injEq, Addr.mk.injEq, and_true, true_and] at hsh
                  obtain ⟨rfl, rfl⟩ := hsh
                  have lg7 := lt_of_cell q0
                  have lg8 := World.new_ne w7 _ q0
                  have Hi7 := Lib.hid hi7
                  have Hib := Lib.hid hib
                  clear hi7 hib hk6 hk7
                  have hk40 : (0 : Int) ≤ k4 := by omega
                  have hk41 : (k4 : Int) < 4 := by omega
                  generalize (S.at (0, (k4 : Int), 0)) = cv7 at q0 q1 Hi7 Hib
                  go_wp2_with fail
                  go_region_held3 (fun w' => w'.cell? ⟨gb, k4 * 2, none⟩ = some (.slice ab cv7.xs.length cb) ∧ w'.cell? ⟨gb, k4 * 2 + 1, none⟩ = some (.string cv7.tx) ∧ w'.cell? ⟨w7.heap.size, 0, none⟩ = some (.slice a7 cv7.xs.length c7) ∧ w'.cell? ⟨w7.heap.size, 1, none⟩ = some (.string cv7.tx))
                    (first | (go_keep; done) | (refine ⟨?_, ?_, ?_, ?_⟩ <;> (simp [go_sem, *]; done)) | (go_split_ands; refine ⟨?_, ?_, ?_, ?_⟩ <;> (rw [hcc.cell (by simp; try omega) (by simp)]; simp [go_sem, *]; done)))
                    ((go_at_call 15; refine (inputsEqual_true _ _ _ _ cv7.xs (by exact Hi7.out.same (((Chg.refl [] w7).alloc _).drew)) (by exact Hib.out.same (((Chg.refl [] w7).alloc _).drew))).mono ?_; rintro e w8 ⟨rfl, hcc⟩))
                  have hc8 := (hc7.alloc (.cells #[.slice a7 cv7.xs.length c7, .string cv7.tx] 37)).drew.new hcc
                  go_wp2
                  exact ⟨⟨k4 + 1, by omega, by go_num, Hbef.out.same hc8, Hs.out.same hc8, Hf.out.same hc8, hcw.new hc8⟩, by simp [intOf]; omega⟩
                · go_wp2_with fail
                  refine (revision_any bf bfm S _ hf).mono ?_
                  rintro e w9 ⟨rfl, rfl⟩
                  go_wp2_with fail
                  refine (revision_any b bm T3 _ hs).mono ?_
                  rintro e w9 ⟨rfl, rfl⟩
                  go_wp2
                  go_ret
                  exact ⟨rfl, hcw⟩

set_option maxRecDepth 100000 in
set_option maxHeartbeats 8000000 in
theorem fork_walk_many (w : World) (g off cap n : Nat) (x : Int) (ss : List (Int × Int × Int)) (hn : n ≤ cap) (hcap : cap ≤ maxLen) (hgt : 30 < n) (hml : 30 ≤ ss.length)
    (hc : ∀ i, i < ss.length → w.cell? ⟨g, off + i * 3, none⟩ = some (.int .i64 (ss.getD i (0, 0, 0)).1) ∧ w.cell? ⟨g, off + i * 3 + 1, none⟩ = some (.int .i64 (ss.getD i (0, 0, 0)).2.1) ∧ w.cell? ⟨g, off + i * 3 + 2, none⟩ = some (.int .i64 (ss.getD i (0, 0, 0)).2.2)) :
    Calls Try.prog 4 #[.slice (some ⟨g, off, none⟩) n cap, .int .i64 x] w fun e w' => e = .returned (.bool true) ∧ Chg [] w w' := by
  have Hc := Lib.hid hc
  clear hc
  unfold maxLen at hcap
  obtain ⟨i0, hi, hz0, hz1, hz2⟩ := info_parts Try.infoQV
  have Hi0 := Lib.hid hi
  have Hz0 := Lib.hid hz0
  have Hz1 := Lib.hid hz1
  have Hz2 := Lib.hid hz2
  clear hi hz0 hz1 hz2
  go_enter Try.func4, Try.ntmps4
  go_wp2_with fail
  refine (storeExample_any _).mono ?_
  rintro e w1 ⟨rfl, c1⟩
  go_wp2_with fail
  refine (new_any _).mono ?_
  rintro e w2 ⟨rfl, h2, c2⟩
  go_wp2_with fail
  refine (storeExample_any _).mono ?_
  rintro e w3 ⟨rfl, c3⟩
  have hmax : max (30 : Int) 0 = 30 := rfl
  go_wp2_with fail
  refine (mod_any _ _ _ (by omega) (by omega)).mono ?_
  rintro e w' ⟨rfl, rfl⟩
  obtain ⟨ht0, ht1⟩ := modI_bd x ((30 : Int) + 1) (by omega)
  obtain ⟨t, ht⟩ := Int.eq_ofNat_of_zero_le ht0
  rw [show modI x 31 = (t : Int) from ht]
  rw [ht] at ht1
  clear ht ht0
  have htm : t ≤ 30 := by omega
  have htc : t ≤ cap := by omega
  have hb1 : w.heap.size ≤ w1.heap.size := c1.size
  have h3 := h2.same c3
  have cw : Chg [] w w3 := (c1.new c2).new c3
  have hbb : w.heap.size ≤ w1.heap.size + 1 := by omega
  generalize w1.heap.size + 1 = b at h3 hbb ⊢
  generalize w1.heap.size = bm at h3 hb1 ⊢
  clear h2 c1 c2 c3
  go_wp2_with fail
  go_loopw [44] (fun i wr => ForkOne w b bm t i wr) (fun i _ => t - (intOf i).toNat)
  case atStart => exact ⟨0, _, Nat.zero_le _, rfl, by decide, Inv.new, h3, cw⟩
  case round =>
    obtain ⟨k, S, hk, rfl, hrk, hinv, hs, hcw⟩ := hrel
    clear h3 cw
    by_cases hlt : k < t
    · obtain ⟨q0, q1, q2⟩ := Hc.out k (by omega)
      have lg := lt_of_cell q0
      replace q0 := (hcw.cell lg (by simp)).trans q0
      replace q1 := (hcw.cell (p := ⟨g, off + k * 3 + 1, none⟩) lg (by simp)).trans q1
      replace q2 := (hcw.cell (p := ⟨g, off + k * 3 + 2, none⟩) lg (by simp)).trans q2
      generalize (ss.getD k (0, 0, 0)).1 = xd at q0
      generalize (ss.getD k (0, 0, 0)).2.1 = xa at q1
      generalize (ss.getD k (0, 0, 0)).2.2 = xb at q2
      have Hi := Lib.hid hinv
      have Hs := Lib.hid hs
      have hr0 := hinv.rev0
      have lb := lt_of_obj hs.blk
      have lbm := hs.map.lt
      clear hinv hs
      have ba := modI_bd xa 4 (by decide)
      have bd := modI_bd xd 3 (by decide)
      go_wp2_with fail
      go_region_held3 (fun w' => w'.cell? ⟨wr.heap.size, 0, none⟩ = some (.int .i64 xd) ∧ w'.cell? ⟨wr.heap.size, 1, none⟩ = some (.int .i64 xa) ∧ w'.cell? ⟨wr.heap.size, 2, none⟩ = some (.int .i64 xb) ∧ wr.heap.size < w'.heap.size)
        (first | (go_keep; done) | (refine ⟨?_, ?_, ?_, ?_⟩ <;> (simp [go_sem]; done)) | (go_split_ands; refine ⟨?_, ?_, ?_, ?_⟩; (rw [hcc.cell (by assumption) (by simp; try omega)]; assumption); (rw [hcc.cell (by assumption) (by simp; try omega)]; assumption); (rw [hcc.cell (by assumption) (by simp; try omega)]; assumption); (have := hcc.size; omega)))
        (first
          | (go_at_call 9; refine (mod_any _ _ _ (by decide) (by decide)).mono ?_; rintro e w' ⟨rfl, rfl⟩)
          | (go_at_call 8; refine (inputKey_any _ _).mono ?_; rintro e w4 ⟨rfl, hcc⟩; have hk1 := hcc)
          | (go_at_call 10; refine (number_any _ _).mono ?_; rintro e w5 ⟨an, cn, rfl, hin, hcc⟩; have hk2 := hcc)
          | (go_at_call 7; refine (set_any b bm S (0, modI xa 4, 0) _ [xb] ⟨#[]⟩ (modI xd 3) _ (Hs.out.same (((((Chg.refl [] wr).alloc _).drew).new hk1).new hk2)) (keyA_ok ba.1 (by omega)) rfl hin (by simp) bd (Hi.out.at _).1 ⟨hr0, by omega⟩).mono ?_; rintro e w6 ⟨ch, S', rfl, hs', hcc, hrel⟩))
      obtain ⟨hinv', hrv⟩ := Hi.out.step hrel bd
      have hcw' : Chg [] w w6 := by
        refine (((((hcw.alloc _).drew).new hk1).new hk2)).comp hcc ?_
        intro x hx
        simp at hx
        omega
      have hrk' : S'.rev ≤ (k + 1 : Nat) := by cases ch <;> simp at hrv <;> omega
      clear hrel hrv
      go_wp2
      exact ⟨⟨k + 1, S', by omega, by go_num, hrk', hinv', hs', hcw'⟩, by simp [intOf]; omega⟩
    · go_wp2_with fail
      refine (fork_any b bm S _ hs).mono ?_
      rintro e w4 ⟨rfl, hf, c4⟩
      have hs4 := hs.same c4
      have hcw4 := hcw.new c4
      have z4 : wr.heap.size + 1 < w4.heap.size := lt_of_obj hf.blk
      have lb4 := lt_of_obj hs4.blk
      have lbm4 := hs4.map.lt
      have lwr : w.heap.size ≤ wr.heap.size := hcw.size
      have lb3 := lt_of_obj hs.blk
      have lbm3 := hs.map.lt
      have lbff : wr.heap.size < wr.heap.size + 1 := by omega
      have nb4 : NotE 3 w4 b := NotE.of_heap hs4.blk (by simp)
      generalize hbf : wr.heap.size + 1 = bf at hf z4 lbff ⊢
      generalize hbfm : wr.heap.size = bfm at hf lwr lb3 lbm3 lbff ⊢
      have lbf : w.heap.size ≤ bf := by omega
      have lbf2 : bfm < w4.heap.size := by omega
      clear hbf hbfm hs hcw c4
      go_wp2_with fail
      refine (revision_any b bm S _ hs4).mono ?_
      rintro e w5 ⟨rfl, rfl⟩
      go_wp2_with fail
      go_loopw [10, 67] (fun bv i wr => ForkTwo w b bm bf bfm w4.heap.size S bv i wr) (fun _ i _ => 4 - (intOf i).toNat)
      case atStart => exact ⟨0, by omega, rfl, BefAt.zero _ _ _, hs4, hf, hcw4, Nat.le_refl _⟩
      case round =>
        obtain ⟨k2, hk2, rfl, hbef, hs5, hf5, hcw5, hz5⟩ := hrel
        by_cases hlt2 : k2 < 4
        · have Hbef := Lib.hid hbef
          have Hs5 := Lib.hid hs5
          have Hf5 := Lib.hid hf5
          clear hbef hs5 hf5 hs4 hf
          go_wp2_with fail
          refine (inputKey_any _ _).mono ?_
          rintro e w6 ⟨rfl, hk6⟩
          go_wp2_with fail
          refine (get_any bf bfm S (0, (k2 : Int), 0) _ (Hf5.out.same hk6) (keyA_ok (by omega) (by omega))).mono ?_
          rintro e w7 ⟨a7, c7, rfl, hi7, hk7⟩
          have hc7 := (Chg.refl [] wr).new hk6 |>.new hk7
          obtain ⟨cs, hown, hel⟩ := Hbef.out.same hc7
          have hz7 : w4.heap.size ≤ w7.heap.size := Nat.le_trans hz5 hc7.size
          have hlen : cs.length = k2 * 2 := hown.1
          have Hown := Lib.hid hown
          have Hel := Lib.hid hel
          have Hi7 := Lib.hid hi7
          have Hlen := Lib.hid hlen
          clear hown hel hi7 hk6 hk7 hlen
          obtain ⟨xs7, hx7⟩ : ∃ xs7, xs7 = (S.at (0, (k2 : Int), 0)).xs := ⟨_, rfl⟩
          obtain ⟨tx7, htx7⟩ : ∃ tx7, tx7 = (S.at (0, (k2 : Int), 0)).tx := ⟨_, rfl⟩
          rw [← hx7, ← htx7]
          have Hx7 := Lib.hid hx7
          have Htx7 := Lib.hid htx7
          clear hx7 htx7
          go_wp2_with (at_builtin; refine wpList_append_own _ rfl _ _ 44 rfl w4.heap.size 37 i0 (.agg #[.slice none 0 0, .string ⟨#[]⟩]) 2 40 Try.underlying44 Hi0.out Hz0.out Hz1.out Hz2.out rfl (by decide) u10 k2 cs rfl ((Hown.out.alloc _).alloc _) ⟨w7.heap.size + 1, 0, none⟩ 1 1 [.slice a7 xs7.length c7, .string tx7] rfl rfl (news_of (heap_at _ _ _ (by simp))) (by simp [Value.oneCell']) (by unfold maxLen; omega) (by omega) (by simp; omega) ?_; intro v8 w8 hown8 hgr8 _)
          have hca := ((Chg.refl [] w7).alloc (.cells #[.slice a7 xs7.length c7, .string tx7] 37)).alloc (.cells #[.slice a7 xs7.length c7, .string tx7] 37)
          have hap := append_chg ((Hown.out.alloc (.cells #[.slice a7 xs7.length c7, .string tx7] 37)).alloc (.cells #[.slice a7 xs7.length c7, .string tx7] 37)) hgr8
          have hs8 : StoreIs w8 b bm S := ((Hs5.out.same hc7).same hca).kept hap.1 (fun g hg => (hap.2 g hg).2) (fun hm => by have := (hap.2 _ hm).1; omega) (fun hm => by have := (hap.2 _ hm).1; omega)
          have hf8 : StoreIs w8 bf bfm S := ((Hf5.out.same hc7).same hca).kept hap.1 (fun g hg => (hap.2 g hg).2) (fun hm => by have := (hap.2 _ hm).1; omega) (fun hm => by have := (hap.2 _ hm).1; omega)
          have hcw8 : Chg [] w w8 := ((hcw5.new hc7).new hca).comp hap.1 (fun g hg => Or.inr (by have := (hap.2 _ hg).1; omega))
          have hb8 : BefAt w8 v8 w4.heap.size (k2 + 1) S := by
            refine BefAt.snoc (a := a7) (c := c7) (cs := cs) (fun i hi => ?_) Hlen.out ((Hown.out.alloc _).alloc _) hgr8 ?_ ?_
            · obtain ⟨a, c, e1, e2, e3⟩ := Hel.out i hi
              exact ⟨a, c, e1, e2, e3.same hca⟩
            · have := Hi7.out
              exact this.same hca
            · rw [← Hx7.out, ← Htx7.out]
              exact hown8
          have hz8 : w4.heap.size ≤ w8.heap.size := Nat.le_trans hz7 (Nat.le_trans hca.size hap.1.size)
          clear hown8 hgr8 hap hca
          go_wp2
          exact ⟨⟨k2 + 1, by omega, by go_num, hb8, hs8, hf8, hcw8, hz8⟩, by simp [intOf]; omega⟩
        · have hk24 : k2 = 4 := by omega
          rw [hk24] at hbef
          clear hk24
          obtain ⟨d, hd⟩ : ∃ d : Nat, t + d = 30 := ⟨30 - t, by omega⟩
          obtain ⟨A, C, hA, hsl⟩ : ∃ A C, (0 < d → A = ⟨g, off + t * 3, none⟩) ∧ ∀ w : World, (Instr.slice 22 (.slice (some ⟨g, off, none⟩) 30 cap) (some (.int .i64 (t : Int))) none none).run Try.prog w = .ok (.slice (some A) d C) w := by
            refine ⟨if cap = t then ⟨g, off, none⟩ else (⟨g, off, none⟩ : Addr).add (t * 3), cap - t, fun h => by rw [if_neg (by omega), Addr.add_lit], fun w => ?_⟩
            rw [slice_from w _ _ _ _ htm, show 30 - t = d from by omega]
          have HA := Lib.hid hA
          have Hbef := Lib.hid hbef
          clear hA hbef hs4 hf
          go_wp2_with fail
          go_loopw [87] (fun i wr => ForkThree w b bm bf bfm w4.heap.size t d S u10 i wr) (fun i _ => d - (intOf i).toNat)
          case atStart => exact ⟨0, S, by omega, rfl, Hbef.out, hs5, hf5, hcw5, hz5, by omega, Int.le_refl _, hinv⟩
          case round =>
            clear hs5 hf5 hcw5 hz5 Hbef hinv hrk
            obtain ⟨k3, T3, hk3, rfl, hbef, hs, hf, hcw, hz, hrk, hr1, hinv⟩ := hrel
            by_cases hlt3 : k3 < d
            · obtain rfl := HA.out (by omega)
              obtain ⟨q0, q1, q2⟩ := Hc.out (t + k3) (by omega)
              rw [show off + (t + k3) * 3 = off + t * 3 + k3 * 3 from by omega] at q0 q1 q2
              have lg := lt_of_cell q0
              replace q0 := (hcw.cell lg (by simp)).trans q0
              replace q1 := (hcw.cell (p := ⟨g, off + t * 3 + k3 * 3 + 1, none⟩) lg (by simp)).trans q1
              replace q2 := (hcw.cell (p := ⟨g, off + t * 3 + k3 * 3 + 2, none⟩) lg (by simp)).trans q2
              generalize (ss.getD (t + k3) (0, 0, 0)).1 = xd at q0
              generalize (ss.getD (t + k3) (0, 0, 0)).2.1 = xa at q1
              generalize (ss.getD (t + k3) (0, 0, 0)).2.2 = xb at q2
              have Hi := Lib.hid hinv
              have Hs := Lib.hid hs
              have hr0 := hinv.rev0
              have lb := lt_of_obj hs.blk
              have lbm := hs.map.lt
              clear hinv hs
              have ba := modI_bd xa 4 (by decide)
              have bd := modI_bd xd 3 (by decide)
              have Hbef := Lib.hid hbef
              have Hf := Lib.hid hf
              clear hbef hf
              go_wp2_with fail
              go_region_held3 (fun w' => w'.cell? ⟨wr.heap.size, 0, none⟩ = some (.int .i64 xd) ∧ w'.cell? ⟨wr.heap.size, 1, none⟩ = some (.int .i64 xa) ∧ w'.cell? ⟨wr.heap.size, 2, none⟩ = some (.int .i64 xb) ∧ wr.heap.size < w'.heap.size)
        (first | (go_keep; done) | (refine ⟨?_, ?_, ?_, ?_⟩ <;> (simp [go_sem]; done)) | (go_split_ands; refine ⟨?_, ?_, ?_, ?_⟩; (rw [hcc.cell (by assumption) (by simp; try omega)]; assumption); (rw [hcc.cell (by assumption) (by simp; try omega)]; assumption); (rw [hcc.cell (by assumption) (by simp; try omega)]; assumption); (have := hcc.size; omega)))
        (first
          | (go_at_call 9; refine (mod_any _ _ _ (by decide) (by decide)).mono ?_; rintro e w' ⟨rfl, rfl⟩)
          | (go_at_call 8; refine (inputKey_any _ _).mono ?_; rintro e w4 ⟨rfl, hcc⟩; have hk1 := hcc)
          | (go_at_call 10; refine (number_any _ _).mono ?_; rintro e w5 ⟨an, cn, rfl, hin, hcc⟩; have hk2 := hcc)
          | (go_at_call 7; refine (set_any b bm T3 (0, modI xa 4, 0) _ [xb] ⟨#[]⟩ (modI xd 3) _ (Hs.out.same (((((Chg.refl [] wr).alloc _).drew).new hk1).new hk2)) (keyA_ok ba.1 (by omega)) rfl hin (by simp) bd (Hi.out.at _).1 ⟨hr0, by omega⟩).mono ?_; rintro e w6 ⟨ch, S', rfl, hs', hcc, hrel⟩))
              obtain ⟨hinv', hrv⟩ := Hi.out.step hrel bd
              have hpre : Chg [] wr w5 := (((Chg.refl [] wr).alloc _).drew.new hk1).new hk2
              have hcw' : Chg [] w w6 := by
                refine (hcw.new hpre).comp hcc ?_
                intro x hx
                simp at hx
                omega
              have hrk' : S'.rev ≤ (t + (k3 + 1 : Nat) : Int) := by cases ch <;> simp at hrv <;> omega
              have hr1' : S.rev ≤ S'.rev := by cases ch <;> simp at hrv <;> omega
              clear hrel hrv
              have hn6 : ∀ j ∈ [b, bm], NotE 3 w5 j := by
                have h5 := Hs.out.same hpre
                intro j hj
                simp at hj
                rcases hj with rfl | rfl
                · exact NotE.of_heap h5.blk (by simp)
                · obtain ⟨arr, clock, e1, _⟩ := h5.map
                  exact NotE.of_heap e1 (by simp)
              go_wp2
              exact ⟨⟨k3 + 1, S', by omega, by go_num, (Hbef.out.same hpre).kept hcc (fun j hj hm => by simp at hm; omega) hn6, hs', (Hf.out.same hpre).kept hcc hn6 (fun hm => by simp at hm; omega) (fun hm => by simp at hm; omega), hcw', Nat.le_trans hz (Nat.le_trans hpre.size hcc.size), hrk', hr1', hinv'⟩, by simp [intOf]; omega⟩
            · obtain ⟨gb, capb, hu⟩ := hbef.shape (by decide)
              rw [hu] at hbef ⊢
              clear hu
              have Hi3 := Lib.hid hinv
              clear hinv
              go_wp2_with fail
              go_loopw [104] (fun i wr => ForkFour w b bm bf bfm w4.heap.size T3 S (.slice (some ⟨gb, 0, none⟩) 4 capb) i wr) (fun i _ => 4 - (intOf i).toNat)
              case atStart => exact ⟨0, by omega, rfl, hbef, hs, hf, hcw⟩
              case round =>
                clear hbef hs hf hcw hz
                obtain ⟨k4, hk4, rfl, hbef, hs, hf, hcw⟩ := hrel
                by_cases hlt4 : k4 < 4
                · have Hbef := Lib.hid hbef
                  have Hs := Lib.hid hs
                  have Hf := Lib.hid hf
                  clear hbef hs hf
                  go_wp2_with fail
                  refine (inputKey_any _ _).mono ?_
                  rintro e w6 ⟨rfl, hk6⟩
                  go_wp2_with fail
                  refine (get_any bf bfm S (0, (k4 : Int), 0) _ (Hf.out.same hk6) (keyA_ok (by omega) (by omega))).mono ?_
                  rintro e w7 ⟨a7, c7, rfl, hi7, hk7⟩
                  have hc7 := ((Chg.refl [] wr).new hk6).new hk7
                  obtain ⟨gg, cc, ab, cb, hsh, q0, q1, hib⟩ := (Hbef.out.same hc7).cells k4 hlt4
                  simp only [Value.slice.injEq, Option.some.injEq, Addr.mk.injEq, and_true, true_and] at hsh
                  obtain ⟨rfl, rfl⟩ := hsh
                  have lg7 := lt_of_cell q0
                  have lg8 := World.new_ne w7 _ q0
                  have Hi7 := Lib.hid hi7
                  have Hib := Lib.hid hib
                  clear hi7 hib hk6 hk7
                  have hk40 : (0 : Int) ≤ k4 := by omega
                  have hk41 : (k4 : Int) < 4 := by omega
                  generalize (S.at (0, (k4 : Int), 0)) = cv7 at q0 q1 Hi7 Hib
                  go_wp2_with fail
                  go_region_held3 (fun w' => w'.cell? ⟨gb, k4 * 2, none⟩ = some (.slice ab cv7.xs.length cb) ∧ w'.cell? ⟨gb, k4 * 2 + 1, none⟩ = some (.string cv7.tx) ∧ w'.cell? ⟨w7.heap.size, 0, none⟩ = some (.slice a7 cv7.xs.length c7) ∧ w'.cell? ⟨w7.heap.size, 1, none⟩ = some (.string cv7.tx))
                    (first | (go_keep; done) | (refine ⟨?_, ?_, ?_, ?_⟩ <;> (simp [go_sem, *]; done)) | (go_split_ands; refine ⟨?_, ?_, ?_, ?_⟩ <;> (rw [hcc.cell (by simp; try omega) (by simp)]; simp [go_sem, *]; done)))
                    ((go_at_call 15; refine (inputsEqual_true _ _ _ _ cv7.xs (by exact Hi7.out.same (((Chg.refl [] w7).alloc _).drew)) (by exact Hib.out.same (((Chg.refl [] w7).alloc _).drew))).mono ?_; rintro e w8 ⟨rfl, hcc⟩))
                  have hc8 := (hc7.alloc (.cells #[.slice a7 cv7.xs.length c7, .string cv7.tx] 37)).drew.new hcc
                  go_wp2
                  exact ⟨⟨k4 + 1, by omega, by go_num, Hbef.out.same hc8, Hs.out.same hc8, Hf.out.same hc8, hcw.new hc8⟩, by simp [intOf]; omega⟩
                · go_wp2_with fail
                  refine (revision_any bf bfm S _ hf).mono ?_
                  rintro e w9 ⟨rfl, rfl⟩
                  go_wp2_with fail
                  refine (revision_any b bm T3 _ hs).mono ?_
                  rintro e w9 ⟨rfl, rfl⟩
                  go_wp2
                  go_ret
                  exact ⟨rfl, hcw⟩

set_option maxRecDepth 100000 in
set_option maxHeartbeats 8000000 in
theorem fork_walk_zero (w : World) (a : Addr) (cap : Nat) (x : Int) :
    Calls Try.prog 4 #[.slice (some a) 0 cap, .int .i64 x] w fun e w' => e = .returned (.bool true) ∧ Chg [] w w' := by
  obtain ⟨i0, hi, hz0, hz1, hz2⟩ := info_parts Try.infoQV
  have Hi0 := Lib.hid hi
  have Hz0 := Lib.hid hz0
  have Hz1 := Lib.hid hz1
  have Hz2 := Lib.hid hz2
  clear hi hz0 hz1 hz2
  go_enter Try.func4, Try.ntmps4
  go_wp2_with fail
  refine (storeExample_any _).mono ?_
  rintro e w1 ⟨rfl, c1⟩
  go_wp2_with fail
  refine (new_any _).mono ?_
  rintro e w2 ⟨rfl, h2, c2⟩
  go_wp2_with fail
  refine (storeExample_any _).mono ?_
  rintro e w3 ⟨rfl, c3⟩
  go_wp2_with fail
  refine (mod_any _ _ _ (by omega) (by omega)).mono ?_
  rintro e w' ⟨rfl, rfl⟩
  obtain ⟨ht0, ht1⟩ := modI_bd x (1 : Int) (by omega)
  obtain ⟨t, ht⟩ := Int.eq_ofNat_of_zero_le ht0
  rw [ht]
  rw [ht] at ht1
  clear ht ht0
  have htm : t ≤ 0 := by omega
  have hb1 : w.heap.size ≤ w1.heap.size := c1.size
  have h3 := h2.same c3
  have cw : Chg [] w w3 := (c1.new c2).new c3
  have hbb : w.heap.size ≤ w1.heap.size + 1 := by omega
  generalize w1.heap.size + 1 = b at h3 hbb ⊢
  generalize w1.heap.size = bm at h3 hb1 ⊢
  clear h2 c1 c2 c3
  go_wp2_with fail
  go_loopw [44] (fun i wr => ForkOne w b bm t i wr) (fun i _ => t - (intOf i).toNat)
  case atStart => exact ⟨0, _, Nat.zero_le _, rfl, by decide, Inv.new, h3, cw⟩
  case round =>
    obtain ⟨k, S, hk, rfl, hrk, hinv, hs, hcw⟩ := hrel
    clear h3 cw
    by_cases hlt : k < t
    · omega
    · go_wp2_with fail
      refine (fork_any b bm S _ hs).mono ?_
      rintro e w4 ⟨rfl, hf, c4⟩
      have hs4 := hs.same c4
      have hcw4 := hcw.new c4
      have z4 : wr.heap.size + 1 < w4.heap.size := lt_of_obj hf.blk
      have lb4 := lt_of_obj hs4.blk
      have lbm4 := hs4.map.lt
      have lwr : w.heap.size ≤ wr.heap.size := hcw.size
      have lb3 := lt_of_obj hs.blk
      have lbm3 := hs.map.lt
      have lbff : wr.heap.size < wr.heap.size + 1 := by omega
      have nb4 : NotE 3 w4 b := NotE.of_heap hs4.blk (by simp)
      generalize hbf : wr.heap.size + 1 = bf at hf z4 lbff ⊢
      generalize hbfm : wr.heap.size = bfm at hf lwr lb3 lbm3 lbff ⊢
      have lbf : w.heap.size ≤ bf := by omega
      have lbf2 : bfm < w4.heap.size := by omega
      clear hbf hbfm hs hcw c4
      go_wp2_with fail
      refine (revision_any b bm S _ hs4).mono ?_
      rintro e w5 ⟨rfl, rfl⟩
      go_wp2_with fail
      go_loopw [10, 67] (fun bv i wr => ForkTwo w b bm bf bfm w4.heap.size S bv i wr) (fun _ i _ => 4 - (intOf i).toNat)
      case atStart => exact ⟨0, by omega, rfl, BefAt.zero _ _ _, hs4, hf, hcw4, Nat.le_refl _⟩
      case round =>
        obtain ⟨k2, hk2, rfl, hbef, hs5, hf5, hcw5, hz5⟩ := hrel
        by_cases hlt2 : k2 < 4
        · have Hbef := Lib.hid hbef
          have Hs5 := Lib.hid hs5
          have Hf5 := Lib.hid hf5
          clear hbef hs5 hf5 hs4 hf
          go_wp2_with fail
          refine (inputKey_any _ _).mono ?_
          rintro e w6 ⟨rfl, hk6⟩
          go_wp2_with fail
          refine (get_any bf bfm S (0, (k2 : Int), 0) _ (Hf5.out.same hk6) (keyA_ok (by omega) (by omega))).mono ?_
          rintro e w7 ⟨a7, c7, rfl, hi7, hk7⟩
          have hc7 := (Chg.refl [] wr).new hk6 |>.new hk7
          obtain ⟨cs, hown, hel⟩ := Hbef.out.same hc7
          have hz7 : w4.heap.size ≤ w7.heap.size := Nat.le_trans hz5 hc7.size
          have hlen : cs.length = k2 * 2 := hown.1
          have Hown := Lib.hid hown
          have Hel := Lib.hid hel
          have Hi7 := Lib.hid hi7
          have Hlen := Lib.hid hlen
          clear hown hel hi7 hk6 hk7 hlen
          obtain ⟨xs7, hx7⟩ : ∃ xs7, xs7 = (S.at (0, (k2 : Int), 0)).xs := ⟨_, rfl⟩
          obtain ⟨tx7, htx7⟩ : ∃ tx7, tx7 = (S.at (0, (k2 : Int), 0)).tx := ⟨_, rfl⟩
          rw [← hx7, ← htx7]
          have Hx7 := Lib.hid hx7
          have Htx7 := Lib.hid htx7
          clear hx7 htx7
          go_wp2_with (at_builtin; refine wpList_append_own _ rfl _ _ 44 rfl w4.heap.size 37 i0 (.agg #[.slice none 0 0, .string ⟨#[]⟩]) 2 40 Try.underlying44 Hi0.out Hz0.out Hz1.out Hz2.out rfl (by decide) u10 k2 cs rfl ((Hown.out.alloc _).alloc _) ⟨w7.heap.size + 1, 0, none⟩ 1 1 [.slice a7 xs7.length c7, .string tx7] rfl rfl (news_of (heap_at _ _ _ (by simp))) (by simp [Value.oneCell']) (by unfold maxLen; omega) (by omega) (by simp; omega) ?_; intro v8 w8 hown8 hgr8 _)
          have hca := ((Chg.refl [] w7).alloc (.cells #[.slice a7 xs7.length c7, .string tx7] 37)).alloc (.cells #[.slice a7 xs7.length c7, .string tx7] 37)
          have hap := append_chg ((Hown.out.alloc (.cells #[.slice a7 xs7.length c7, .string tx7] 37)).alloc (.cells #[.slice a7 xs7.length c7, .string tx7] 37)) hgr8
          have hs8 : StoreIs w8 b bm S := ((Hs5.out.same hc7).same hca).kept hap.1 (fun g hg => (hap.2 g hg).2) (fun hm => by have := (hap.2 _ hm).1; omega) (fun hm => by have := (hap.2 _ hm).1; omega)
          have hf8 : StoreIs w8 bf bfm S := ((Hf5.out.same hc7).same hca).kept hap.1 (fun g hg => (hap.2 g hg).2) (fun hm => by have := (hap.2 _ hm).1; omega) (fun hm => by have := (hap.2 _ hm).1; omega)
          have hcw8 : Chg [] w w8 := ((hcw5.new hc7).new hca).comp hap.1 (fun g hg => Or.inr (by have := (hap.2 _ hg).1; omega))
          have hb8 : BefAt w8 v8 w4.heap.size (k2 + 1) S := by
            refine BefAt.snoc (a := a7) (c := c7) (cs := cs) (fun i hi => ?_) Hlen.out ((Hown.out.alloc _).alloc _) hgr8 ?_ ?_
            · obtain ⟨a, c, e1, e2, e3⟩ := Hel.out i hi
              exact ⟨a, c, e1, e2, e3.same hca⟩
            · have := Hi7.out
              exact this.same hca
            · rw [← Hx7.out, ← Htx7.out]
              exact hown8
          have hz8 : w4.heap.size ≤ w8.heap.size := Nat.le_trans hz7 (Nat.le_trans hca.size hap.1.size)
          clear hown8 hgr8 hap hca
          go_wp2
          exact ⟨⟨k2 + 1, by omega, by go_num, hb8, hs8, hf8, hcw8, hz8⟩, by simp [intOf]; omega⟩
        · have hk24 : k2 = 4 := by omega
          rw [hk24] at hbef
          clear hk24
          obtain ⟨d, hd⟩ : ∃ d : Nat, t + d = 0 := ⟨0 - t, by omega⟩
          obtain ⟨A, C, hsl⟩ : ∃ A C, ∀ w : World, (Instr.slice 22 (.slice (some a) 0 cap) (some (.int .i64 (t : Int))) none none).run Try.prog w = .ok (.slice (some A) d C) w :=
            ⟨_, _, fun w => by rw [slice_from w a 0 cap t htm, show 0 - t = d from by omega]⟩
          have Hbef := Lib.hid hbef
          clear hbef hs4 hf
          go_wp2_with fail
          go_loopw [87] (fun i wr => ForkThree w b bm bf bfm w4.heap.size t d S u10 i wr) (fun i _ => d - (intOf i).toNat)
          case atStart => exact ⟨0, S, by omega, rfl, Hbef.out, hs5, hf5, hcw5, hz5, by omega, Int.le_refl _, hinv⟩
          case round =>
            clear hs5 hf5 hcw5 hz5 Hbef hinv hrk
            obtain ⟨k3, T3, hk3, rfl, hbef, hs, hf, hcw, hz, hrk, hr1, hinv⟩ := hrel
            by_cases hlt3 : k3 < d
            · omega
            · obtain ⟨gb, capb, hu⟩ := hbef.shape (by decide)
              rw [hu] at hbef ⊢
              clear hu
              have Hi3 := Lib.hid hinv
              clear hinv
              go_wp2_with fail
              go_loopw [104] (fun i wr => ForkFour w b bm bf bfm w4.heap.size T3 S (.slice (some ⟨gb, 0, none⟩) 4 capb) i wr) (fun i _ => 4 - (intOf i).toNat)
              case atStart => exact ⟨0, by omega, rfl, hbef, hs, hf, hcw⟩
              case round =>
                clear hbef hs hf hcw hz
                obtain ⟨k4, hk4, rfl, hbef, hs, hf, hcw⟩ := hrel
                by_cases hlt4 : k4 < 4
                · have Hbef := Lib.hid hbef
                  have Hs := Lib.hid hs
                  have Hf := Lib.hid hf
                  clear hbef hs hf
                  go_wp2_with fail
                  refine (inputKey_any _ _).mono ?_
                  rintro e w6 ⟨rfl, hk6⟩
                  go_wp2_with fail
                  refine (get_any bf bfm S (0, (k4 : Int), 0) _ (Hf.out.same hk6) (keyA_ok (by omega) (by omega))).mono ?_
                  rintro e w7 ⟨a7, c7, rfl, hi7, hk7⟩
                  have hc7 := ((Chg.refl [] wr).new hk6).new hk7
                  obtain ⟨gg, cc, ab, cb, hsh, q0, q1, hib⟩ := (Hbef.out.same hc7).cells k4 hlt4
                  simp only [Value.slice.injEq, Option.some.injEq, Addr.mk.injEq, and_true, true_and] at hsh
                  obtain ⟨rfl, rfl⟩ := hsh
                  have lg7 := lt_of_cell q0
                  have lg8 := World.new_ne w7 _ q0
                  have Hi7 := Lib.hid hi7
                  have Hib := Lib.hid hib
                  clear hi7 hib hk6 hk7
                  have hk40 : (0 : Int) ≤ k4 := by omega
                  have hk41 : (k4 : Int) < 4 := by omega
                  generalize (S.at (0, (k4 : Int), 0)) = cv7 at q0 q1 Hi7 Hib
                  go_wp2_with fail
                  go_region_held3 (fun w' => w'.cell? ⟨gb, k4 * 2, none⟩ = some (.slice ab cv7.xs.length cb) ∧ w'.cell? ⟨gb, k4 * 2 + 1, none⟩ = some (.string cv7.tx) ∧ w'.cell? ⟨w7.heap.size, 0, none⟩ = some (.slice a7 cv7.xs.length c7) ∧ w'.cell? ⟨w7.heap.size, 1, none⟩ = some (.string cv7.tx))
                    (first | (go_keep; done) | (refine ⟨?_, ?_, ?_, ?_⟩ <;> (simp [go_sem, *]; done)) | (go_split_ands; refine ⟨?_, ?_, ?_, ?_⟩ <;> (rw [hcc.cell (by simp; try omega) (by simp)]; simp [go_sem, *]; done)))
                    ((go_at_call 15; refine (inputsEqual_true _ _ _ _ cv7.xs (by exact Hi7.out.same (((Chg.refl [] w7).alloc _).drew)) (by exact Hib.out.same (((Chg.refl [] w7).alloc _).drew))).mono ?_; rintro e w8 ⟨rfl, hcc⟩))
                  have hc8 := (hc7.alloc (.cells #[.slice a7 cv7.xs.length c7, .string cv7.tx] 37)).drew.new hcc
                  go_wp2
                  exact ⟨⟨k4 + 1, by omega, by go_num, Hbef.out.same hc8, Hs.out.same hc8, Hf.out.same hc8, hcw.new hc8⟩, by simp [intOf]; omega⟩
                · go_wp2_with fail
                  refine (revision_any bf bfm S _ hf).mono ?_
                  rintro e w9 ⟨rfl, rfl⟩
                  go_wp2_with fail
                  refine (revision_any b bm T3 _ hs).mono ?_
                  rintro e w9 ⟨rfl, rfl⟩
                  go_wp2
                  go_ret
                  exact ⟨rfl, hcw⟩

set_option maxRecDepth 100000 in
set_option maxHeartbeats 8000000 in
theorem fork_walk_nil (w : World) (x : Int) :
    Calls Try.prog 4 #[.slice none 0 0, .int .i64 x] w fun e w' => e = .returned (.bool true) ∧ Chg [] w w' := by
  obtain ⟨i0, hi, hz0, hz1, hz2⟩ := info_parts Try.infoQV
  have Hi0 := Lib.hid hi
  have Hz0 := Lib.hid hz0
  have Hz1 := Lib.hid hz1
  have Hz2 := Lib.hid hz2
  clear hi hz0 hz1 hz2
  go_enter Try.func4, Try.ntmps4
  go_wp2_with fail
  refine (storeExample_any _).mono ?_
  rintro e w1 ⟨rfl, c1⟩
  go_wp2_with fail
  refine (new_any _).mono ?_
  rintro e w2 ⟨rfl, h2, c2⟩
  go_wp2_with fail
  refine (storeExample_any _).mono ?_
  rintro e w3 ⟨rfl, c3⟩
  go_wp2_with fail
  refine (mod_any _ _ _ (by omega) (by omega)).mono ?_
  rintro e w' ⟨rfl, rfl⟩
  obtain ⟨ht0, ht1⟩ := modI_bd x (1 : Int) (by omega)
  obtain ⟨t, ht⟩ := Int.eq_ofNat_of_zero_le ht0
  rw [ht]
  rw [ht] at ht1
  clear ht ht0
  have htm : t ≤ 0 := by omega
  have hb1 : w.heap.size ≤ w1.heap.size := c1.size
  have h3 := h2.same c3
  have cw : Chg [] w w3 := (c1.new c2).new c3
  have hbb : w.heap.size ≤ w1.heap.size + 1 := by omega
  generalize w1.heap.size + 1 = b at h3 hbb ⊢
  generalize w1.heap.size = bm at h3 hb1 ⊢
  clear h2 c1 c2 c3
  go_wp2_with fail
  go_loopw [44] (fun i wr => ForkOne w b bm t i wr) (fun i _ => t - (intOf i).toNat)
  case atStart => exact ⟨0, _, Nat.zero_le _, rfl, by decide, Inv.new, h3, cw⟩
  case round =>
    obtain ⟨k, S, hk, rfl, hrk, hinv, hs, hcw⟩ := hrel
    clear h3 cw
    by_cases hlt : k < t
    · omega
    · go_wp2_with fail
      refine (fork_any b bm S _ hs).mono ?_
      rintro e w4 ⟨rfl, hf, c4⟩
      have hs4 := hs.same c4
      have hcw4 := hcw.new c4
      have z4 : wr.heap.size + 1 < w4.heap.size := lt_of_obj hf.blk
      have lb4 := lt_of_obj hs4.blk
      have lbm4 := hs4.map.lt
      have lwr : w.heap.size ≤ wr.heap.size := hcw.size
      have lb3 := lt_of_obj hs.blk
      have lbm3 := hs.map.lt
      have lbff : wr.heap.size < wr.heap.size + 1 := by omega
      have nb4 : NotE 3 w4 b := NotE.of_heap hs4.blk (by simp)
      generalize hbf : wr.heap.size + 1 = bf at hf z4 lbff ⊢
      generalize hbfm : wr.heap.size = bfm at hf lwr lb3 lbm3 lbff ⊢
      have lbf : w.heap.size ≤ bf := by omega
      have lbf2 : bfm < w4.heap.size := by omega
      clear hbf hbfm hs hcw c4
      go_wp2_with fail
      refine (revision_any b bm S _ hs4).mono ?_
      rintro e w5 ⟨rfl, rfl⟩
      go_wp2_with fail
      go_loopw [10, 67] (fun bv i wr => ForkTwo w b bm bf bfm w4.heap.size S bv i wr) (fun _ i _ => 4 - (intOf i).toNat)
      case atStart => exact ⟨0, by omega, rfl, BefAt.zero _ _ _, hs4, hf, hcw4, Nat.le_refl _⟩
      case round =>
        obtain ⟨k2, hk2, rfl, hbef, hs5, hf5, hcw5, hz5⟩ := hrel
        by_cases hlt2 : k2 < 4
        · have Hbef := Lib.hid hbef
          have Hs5 := Lib.hid hs5
          have Hf5 := Lib.hid hf5
          clear hbef hs5 hf5 hs4 hf
          go_wp2_with fail
          refine (inputKey_any _ _).mono ?_
          rintro e w6 ⟨rfl, hk6⟩
          go_wp2_with fail
          refine (get_any bf bfm S (0, (k2 : Int), 0) _ (Hf5.out.same hk6) (keyA_ok (by omega) (by omega))).mono ?_
          rintro e w7 ⟨a7, c7, rfl, hi7, hk7⟩
          have hc7 := (Chg.refl [] wr).new hk6 |>.new hk7
          obtain ⟨cs, hown, hel⟩ := Hbef.out.same hc7
          have hz7 : w4.heap.size ≤ w7.heap.size := Nat.le_trans hz5 hc7.size
          have hlen : cs.length = k2 * 2 := hown.1
          have Hown := Lib.hid hown
          have Hel := Lib.hid hel
          have Hi7 := Lib.hid hi7
          have Hlen := Lib.hid hlen
          clear hown hel hi7 hk6 hk7 hlen
          obtain ⟨xs7, hx7⟩ : ∃ xs7, xs7 = (S.at (0, (k2 : Int), 0)).xs := ⟨_, rfl⟩
          obtain ⟨tx7, htx7⟩ : ∃ tx7, tx7 = (S.at (0, (k2 : Int), 0)).tx := ⟨_, rfl⟩
          rw [← hx7, ← htx7]
          have Hx7 := Lib.hid hx7
          have Htx7 := Lib.hid htx7
          clear hx7 htx7
          go_wp2_with (at_builtin; refine wpList_append_own _ rfl _ _ 44 rfl w4.heap.size 37 i0 (.agg #[.slice none 0 0, .string ⟨#[]⟩]) 2 40 Try.underlying44 Hi0.out Hz0.out Hz1.out Hz2.out rfl (by decide) u10 k2 cs rfl ((Hown.out.alloc _).alloc _) ⟨w7.heap.size + 1, 0, none⟩ 1 1 [.slice a7 xs7.length c7, .string tx7] rfl rfl (news_of (heap_at _ _ _ (by simp))) (by simp [Value.oneCell']) (by unfold maxLen; omega) (by omega) (by simp; omega) ?_; intro v8 w8 hown8 hgr8 _)
          have hca := ((Chg.refl [] w7).alloc (.cells #[.slice a7 xs7.length c7, .string tx7] 37)).alloc (.cells #[.slice a7 xs7.length c7, .string tx7] 37)
          have hap := append_chg ((Hown.out.alloc (.cells #[.slice a7 xs7.length c7, .string tx7] 37)).alloc (.cells #[.slice a7 xs7.length c7, .string tx7] 37)) hgr8
          have hs8 : StoreIs w8 b bm S := ((Hs5.out.same hc7).same hca).kept hap.1 (fun g hg => (hap.2 g hg).2) (fun hm => by have := (hap.2 _ hm).1; omega) (fun hm => by have := (hap.2 _ hm).1; omega)
          have hf8 : StoreIs w8 bf bfm S := ((Hf5.out.same hc7).same hca).kept hap.1 (fun g hg => (hap.2 g hg).2) (fun hm => by have := (hap.2 _ hm).1; omega) (fun hm => by have := (hap.2 _ hm).1; omega)
          have hcw8 : Chg [] w w8 := ((hcw5.new hc7).new hca).comp hap.1 (fun g hg => Or.inr (by have := (hap.2 _ hg).1; omega))
          have hb8 : BefAt w8 v8 w4.heap.size (k2 + 1) S := by
            refine BefAt.snoc (a := a7) (c := c7) (cs := cs) (fun i hi => ?_) Hlen.out ((Hown.out.alloc _).alloc _) hgr8 ?_ ?_
            · obtain ⟨a, c, e1, e2, e3⟩ := Hel.out i hi
              exact ⟨a, c, e1, e2, e3.same hca⟩
            · have := Hi7.out
              exact this.same hca
            · rw [← Hx7.out, ← Htx7.out]
              exact hown8
          have hz8 : w4.heap.size ≤ w8.heap.size := Nat.le_trans hz7 (Nat.le_trans hca.size hap.1.size)
          clear hown8 hgr8 hap hca
          go_wp2
          exact ⟨⟨k2 + 1, by omega, by go_num, hb8, hs8, hf8, hcw8, hz8⟩, by simp [intOf]; omega⟩
        · have hk24 : k2 = 4 := by omega
          rw [hk24] at hbef
          clear hk24
          obtain ⟨d, hd⟩ : ∃ d : Nat, t + d = 0 := ⟨0 - t, by omega⟩
          have hsl : ∀ w : World, (Instr.slice 22 (.slice none 0 0) (some (.int .i64 (t : Int))) none none).run Try.prog w = .ok (.slice none d 0) w := fun w => by
            obtain rfl : t = 0 := by omega
            obtain rfl : d = 0 := by omega
            rfl
          have Hbef := Lib.hid hbef
          clear hbef hs4 hf
          go_wp2_with fail
          go_loopw [87] (fun i wr => ForkThree w b bm bf bfm w4.heap.size t d S u10 i wr) (fun i _ => d - (intOf i).toNat)
          case atStart => exact ⟨0, S, by omega, rfl, Hbef.out, hs5, hf5, hcw5, hz5, by omega, Int.le_refl _, hinv⟩
          case round =>
            clear hs5 hf5 hcw5 hz5 Hbef hinv hrk
            obtain ⟨k3, T3, hk3, rfl, hbef, hs, hf, hcw, hz, hrk, hr1, hinv⟩ := hrel
            by_cases hlt3 : k3 < d
            · omega
            · obtain ⟨gb, capb, hu⟩ := hbef.shape (by decide)
              rw [hu] at hbef ⊢
              clear hu
              have Hi3 := Lib.hid hinv
              clear hinv
              go_wp2_with fail
              go_loopw [104] (fun i wr => ForkFour w b bm bf bfm w4.heap.size T3 S (.slice (some ⟨gb, 0, none⟩) 4 capb) i wr) (fun i _ => 4 - (intOf i).toNat)
              case atStart => exact ⟨0, by omega, rfl, hbef, hs, hf, hcw⟩
              case round =>
                clear hbef hs hf hcw hz
                obtain ⟨k4, hk4, rfl, hbef, hs, hf, hcw⟩ := hrel
                by_cases hlt4 : k4 < 4
                · have Hbef := Lib.hid hbef
                  have Hs := Lib.hid hs
                  have Hf := Lib.hid hf
                  clear hbef hs hf
                  go_wp2_with fail
                  refine (inputKey_any _ _).mono ?_
                  rintro e w6 ⟨rfl, hk6⟩
                  go_wp2_with fail
                  refine (get_any bf bfm S (0, (k4 : Int), 0) _ (Hf.out.same hk6) (keyA_ok (by omega) (by omega))).mono ?_
                  rintro e w7 ⟨a7, c7, rfl, hi7, hk7⟩
                  have hc7 := ((Chg.refl [] wr).new hk6).new hk7
                  obtain ⟨gg, cc, ab, cb, hsh, q0, q1, hib⟩ := (Hbef.out.same hc7).cells k4 hlt4
                  simp only [Value.slice.injEq, Option.some.injEq, Addr.mk.injEq, and_true, true_and] at hsh
                  obtain ⟨rfl, rfl⟩ := hsh
                  have lg7 := lt_of_cell q0
                  have lg8 := World.new_ne w7 _ q0
                  have Hi7 := Lib.hid hi7
                  have Hib := Lib.hid hib
                  clear hi7 hib hk6 hk7
                  have hk40 : (0 : Int) ≤ k4 := by omega
                  have hk41 : (k4 : Int) < 4 := by omega
                  generalize (S.at (0, (k4 : Int), 0)) = cv7 at q0 q1 Hi7 Hib
                  go_wp2_with fail
                  go_region_held3 (fun w' => w'.cell? ⟨gb, k4 * 2, none⟩ = some (.slice ab cv7.xs.length cb) ∧ w'.cell? ⟨gb, k4 * 2 + 1, none⟩ = some (.string cv7.tx) ∧ w'.cell? ⟨w7.heap.size, 0, none⟩ = some (.slice a7 cv7.xs.length c7) ∧ w'.cell? ⟨w7.heap.size, 1, none⟩ = some (.string cv7.tx))
                    (first | (go_keep; done) | (refine ⟨?_, ?_, ?_, ?_⟩ <;> (simp [go_sem, *]; done)) | (go_split_ands; refine ⟨?_, ?_, ?_, ?_⟩ <;> (rw [hcc.cell (by simp; try omega) (by simp)]; simp [go_sem, *]; done)))
                    ((go_at_call 15; refine (inputsEqual_true _ _ _ _ cv7.xs (by exact Hi7.out.same (((Chg.refl [] w7).alloc _).drew)) (by exact Hib.out.same (((Chg.refl [] w7).alloc _).drew))).mono ?_; rintro e w8 ⟨rfl, hcc⟩))
                  have hc8 := (hc7.alloc (.cells #[.slice a7 cv7.xs.length c7, .string cv7.tx] 37)).drew.new hcc
                  go_wp2
                  exact ⟨⟨k4 + 1, by omega, by go_num, Hbef.out.same hc8, Hs.out.same hc8, Hf.out.same hc8, hcw.new hc8⟩, by simp [intOf]; omega⟩
                · go_wp2_with fail
                  refine (revision_any bf bfm S _ hf).mono ?_
                  rintro e w9 ⟨rfl, rfl⟩
                  go_wp2_with fail
                  refine (revision_any b bm T3 _ hs).mono ?_
                  rintro e w9 ⟨rfl, rfl⟩
                  go_wp2
                  go_ret
                  exact ⟨rfl, hcw⟩

theorem fork_law (w : World) (v : Value) (x : Int) (ss : List (Int × Int × Int)) (h : StepsAt w v ss) : Calls Try.prog 4 #[v, .int .i64 x] w fun e w' => e = .returned (.bool true) ∧ Chg [] w w' := by
  rcases h with ⟨rfl, rfl⟩ | ⟨a, cap, rfl, rfl⟩ | ⟨g, off, cap, rfl, h1, h2, h3⟩
  · exact fork_walk_nil w x
  · exact fork_walk_zero w a cap x
  · by_cases hle : ss.length ≤ 30
    · exact fork_walk_few w g off cap _ x ss h1 h2 hle (Nat.le_refl _) h3
    · exact fork_walk_many w g off cap _ x ss h1 h2 (by omega) (by omega) h3
end Go.Proofs.Ytcenokecielghaa
