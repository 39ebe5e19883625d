/- A server: Pending, start, cancel. -/
import Derived.Test.YtiklgipcgdgkoaaDoorJsI
namespace Go.Proofs.YtiklgipcgdgkoaaDoor.Jv
open Go.RowKit Go.ChangeMaps Go.MapKept
set_option linter.unusedVariables false
set_option linter.unusedSimpArgs false
theorem infoIn : (Tryd.prog.info? 3).map (fun i => (i.zero, i.size, i.bytes)) = some (some (.int .i64 0), 1, 8) := by kernel_rfl
/-- one int more -/
theorem pushI {w : World} {base n cap : Nat} {a : Option Addr} {xs : List Int} (h : w.ownsRow base 3 1 (.slice a n cap) n (xs.map (Value.int .i64))) (hn : n ≤ 1000) (hb : base ≤ w.heap.size) (x : Int) :
    ∃ a' c w2, (Builtin.append_ #[43, 43] 43 #[.slice a n cap, .slice (some ⟨w.heap.size, 0, none⟩) 1 1]).run Tryd.prog (w.alloc (.cells #[.int .i64 x] 3)) = .ok (.slice a' (n + 1) c) w2 ∧ w2.ownsRow base 3 1 (.slice a' (n + 1) c) (n + 1) ((xs ++ [x]).map (Value.int .i64)) ∧ ChgP (fun g => base ≤ g) w w2 := by
  have hc1 : Chg [] w (w.alloc (.cells #[.int .i64 x] 3)) := (Chg.refl _ _).alloc _
  have hb1 : (w.alloc (.cells #[.int .i64 x] 3)).heap[w.heap.size]? = some (.cells #[.int .i64 x] 3 (0, 0)) := heap_at _ _ _ rfl
  obtain ⟨i0, hi, hz0, hz1, hz2⟩ := info_parts infoIn
  have h1 := ownsRow_kept h fun g hg hl => hc1.block g hl (by simp)
  obtain ⟨v', w2, hr, ho, hg, _, hb5⟩ := run_append_own_at (P := Tryd.prog) _ base 43 43 3 i0 _ 1 8 Tryd.underlying43 hi hz0 hz1 hz2 rfl (by decide) (.slice a n cap) n (xs.map (Value.int .i64)) h1 ⟨w.heap.size, 0, none⟩ 1 1 [.int .i64 x] rfl (fun j u hj => by
    rw [Addr.add_lit, Nat.zero_add]
    exact cell_of_heap hb1 (by simpa using hj)) (fun u hu => by rw [List.mem_singleton.1 hu]; rfl) (by unfold maxLen; omega) (by omega) (Nat.le_trans hb hc1.size)
  obtain ⟨a', c, rfl⟩ := ownsRow_shape ho
  refine ⟨a', c, w2, hr, by rw [List.map_append]; exact ho, ?_⟩
  exact (hc1.p (S := fun g => base ≤ g)).trans ((ChgP.refl _ _).grown hg fun k hk => Or.inl (ownsRow_ge h1 hk).1)
theorem pendF_snoc : ∀ (js : List Jb) (i : Nat) (j : Jb), pendF i (js ++ [j]) = pendF i js ++ (if j.2.1 then [((i + js.length : Nat) : Int)] else [])
  | [], i, j => by
    simp only [List.nil_append, pendF, List.length_nil, Nat.add_zero]
  | y :: js, i, j => by
    rw [List.cons_append, pendF, pendF, pendF_snoc js (i + 1) j, List.length_cons, show i + 1 + js.length = i + (js.length + 1) by omega]
    split <;> simp
theorem pendF_len : ∀ (js : List Jb) (i : Nat), (pendF i js).length ≤ js.length
  | [], i => by simp [pendF]
  | y :: js, i => by
    rw [pendF]
    have := pendF_len js (i + 1)
    split <;> simp <;> omega
/-- the pending jobs, as a slice of ints -/
def PdPost (js : List Jb) (w : World) (e : Ending) (w' : World) : Prop := (∃ a c, e = .returned (.slice a (pendF 0 js).length c) ∧ w'.ownsRow w.heap.size 3 1 (.slice a (pendF 0 js).length c) (pendF 0 js).length ((pendF 0 js).map (Value.int .i64))) ∧ Chg [] w w'
set_option maxHeartbeats 8000000 in
theorem pending_any (w : World) (base : Bs) (sb jl jn ql qn : Nat) (ja qa : Option Addr) (js : List Jb) (qs : List Qm) (h : Srv w base sb ja jl jn qa ql qn js qs) (hl : js.length ≤ 1000) :
    Calls Tryd.prog 22 #[.pointer (some ⟨sb, 0, none⟩)] w (PdPost js w) := by
  have H := Lib.hid (fun W (hc : Chg [] w W) => h.new hc)
  have HJ := Lib.hid h.jl
  have hjl : jl ≤ 1000 := by rw [h.jl]; exact hl
  have c0 := h.c0
  have lb := lt_of_cell c0
  clear h
  go_enter Tryd.func22, Tryd.ntmps22
  go_wp2_with fail
  clear c0 lb
  go_loopw [3, 11] (fun o i wr => ∃ n : Nat, n ≤ jl ∧ i = .int .i64 (n : Nat) ∧ Hid (Chg [] w wr) ∧ ∃ a m cap, o = .slice a m cap ∧ Hid (m = (pendF 0 (js.take n)).length ∧ wr.ownsRow w.heap.size 3 1 (.slice a m cap) m ((pendF 0 (js.take n)).map (Value.int .i64)))) (fun _ i _ => jl - (intOf i).toNat)
  case atStart => exact ⟨0, by omega, rfl, Lib.hid (Chg.refl _ _), none, 0, 0, rfl, Lib.hid ⟨rfl, World.ownsRow_nil _ _ _ _⟩⟩
  case round =>
    obtain ⟨n, hn, rfl, Hcw, a, m, cap, rfl, Hown⟩ := hrel
    have c0 := (H.out wr Hcw.out).c0
    have lb := lt_of_cell c0
    by_cases hlt : n < jl
    · have hnj : n < js.length := by have := HJ.out; omega
      obtain ⟨g, rfl, _, lg, q0, q1, q2, hcap⟩ := (H.out wr Hcw.out).job (i := n) hnj
      have Hsn : Hid (pendF 0 (js.take (n + 1)) = pendF 0 (js.take n) ++ (if (js[n]'hnj).2.1 then [(n : Int)] else [])) := Lib.hid (by
        rw [List.take_succ_eq_append_getElem hnj, pendF_snoc, Nat.zero_add, List.length_take, Nat.min_eq_left (by omega)])
      generalize js[n]'hnj = j at q0 q1 q2 Hsn
      obtain ⟨j0, j1, j2⟩ := j
      simp only at q0 q1 q2
      have hn1 : (n : Int) < jl := by omega
      have hn0 : (0 : Int) ≤ (n : Int) := by omega
      cases j1
      · go_wp2_with fail
        refine ⟨⟨n + 1, by omega, by go_num, Lib.hid (Hcw.out.alloc _), a, m, cap, rfl, Lib.hid ?_⟩, by simp [intOf]; omega⟩
        have e : pendF 0 (js.take (n + 1)) = pendF 0 (js.take n) := by rw [Hsn.out]; simp
        rw [e]
        exact ⟨Hown.out.1, ownsRow_kept Hown.out.2 fun g hg hl => heap_past _ _ _ hl⟩
      · obtain ⟨w1, hw1⟩ : ∃ x, x = wr.alloc (.cells #[.int .i64 j0, .bool true, .bool j2] 80) := ⟨_, rfl⟩
        have hc1 : Chg [] wr w1 := by rw [hw1]; exact (Chg.refl _ _).alloc _
        have hm : m ≤ 1000 := by
          have h1 := Hown.out.1
          have h2 := pendF_len (js.take n) 0
          rw [List.length_take] at h2
          omega
        obtain ⟨a', c, w2, hr, ho, hc2⟩ := pushI (ownsRow_kept Hown.out.2 fun g hg hl => hc1.block g hl (by simp)) hm (Nat.le_trans Hcw.out.size hc1.size) (n : Nat)
        have Hr := Lib.hid hr
        have Ho := Lib.hid (And.intro ho hc2)
        have Hc1 := Lib.hid hc1
        clear hr ho hc2 hc1
        have sb1 : wr.heap.size < w1.heap.size := by rw [hw1]; simp
        go_upto_region 5 with fail
        rw [← hw1]
        have r1 : w1.cell? ⟨wr.heap.size, 1, none⟩ = some (.bool true) := by rw [hw1]; exact cell_of_heap (heap_at _ _ _ rfl) rfl
        clear hw1
        go_wp2_with (at_builtin; refine wpList_append_run rfl _ _ _ rfl _ _ _ _ rfl rfl Hr.out ?_)
        refine ⟨⟨n + 1, by omega, by go_num, Lib.hid ?_, a', m + 1, c, rfl, Lib.hid ?_⟩, by simp [intOf]; omega⟩
        · exact (Hcw.out.trans Hc1.out).toP.toL |> fun h => (h.toP.comp Ho.out.2 fun g hg => Or.inr hg).toL
        · have e : pendF 0 (js.take (n + 1)) = pendF 0 (js.take n) ++ [(n : Int)] := by rw [Hsn.out]; simp
          rw [e, List.length_append, ← Hown.out.1]
          exact ⟨rfl, Ho.out.1⟩
    · obtain rfl : n = jl := by omega
      have hn1 : ¬ ((n : Int) < n) := by omega
      go_wp2_with fail
      go_ret
      obtain ⟨hm, ho⟩ := Hown.out
      rw [List.take_of_length_le (by have := HJ.out; omega)] at hm ho
      subst hm
      exact ⟨⟨a, cap, rfl, ho⟩, Hcw.out⟩
end Go.Proofs.YtiklgipcgdgkoaaDoor.Jv
