/- Commit of one input; slices.ContainsFunc over its closures. -/
import Derived.Test.YtggiddhhbilcjaaSnL
namespace Go.Proofs.Ytggiddhhbilcjaa.Sn
open Go.RowKit Go.ChangeMaps Go.MapKept Go.MuLone
set_option linter.unusedVariables false
set_option linter.unusedSimpArgs false
/-- an assignment of an input, in memory -/
structure InpAt (w : World) (g off : Nat) (k2 k3 : Int) (va : Option Addr) (vl vc : Nat) : Prop where
  c0 : w.cell? ⟨g, off, none⟩ = some (.int .i64 0)
  c1 : w.cell? ⟨g, off + 1, none⟩ = some (.int .i64 k2)
  c2 : w.cell? ⟨g, off + 2, none⟩ = some (.int .i64 k3)
  c3 : w.cell? ⟨g, off + 3, none⟩ = some (.slice va vl vc)
  c4 : w.cell? ⟨g, off + 4, none⟩ = some (.string ⟨#[]⟩)
theorem InpAt.new {w w' : World} {g off : Nat} {k2 k3 : Int} {va : Option Addr} {vl vc : Nat} (h : InpAt w g off k2 k3 va vl vc) (hc : Chg [] w w') : InpAt w' g off k2 k3 va vl vc :=
  ⟨(hc.cell (lt_of_cell h.c0) (by simp)).trans h.c0, (hc.cell (lt_of_cell h.c1) (by simp)).trans h.c1, (hc.cell (lt_of_cell h.c2) (by simp)).trans h.c2, (hc.cell (lt_of_cell h.c3) (by simp)).trans h.c3, (hc.cell (lt_of_cell h.c4) (by simp)).trans h.c4⟩
set_option maxHeartbeats 1000000 in
theorem kindNo (w : World) (k2 k3 : Int) (va : Option Addr) (vl vc : Nat) :
    Calls Try.prog 38 #[.agg #[.int .i64 0, .int .i64 k2, .int .i64 k3, .slice va vl vc, .string ⟨#[]⟩]] w fun e w' => e = .returned (.bool false) ∧ Chg [] w w' := by
  go_enter Try.func38, Try.ntmps38
  go_wp2_with fail
  go_ret
  exact ⟨rfl, (Chg.refl _ _).alloc _⟩
set_option maxHeartbeats 1000000 in
theorem idxKind (w : World) (g off cap : Nat) (k2 k3 : Int) (va : Option Addr) (vl vc : Nat) (h : InpAt w g off k2 k3 va vl vc) :
    Calls Try.prog 64 #[.slice (some ⟨g, off, none⟩) 1 cap, .func (.func 38) #[] #[]] w fun e w' => e = .returned (.int .i64 (-1)) ∧ Chg [] w w' := by
  have H := Lib.hid h
  clear h
  go_enter Try.func64, Try.ntmps64
  go_wp2_with fail
  go_loopw [8] (fun i wr => ∃ n : Nat, n ≤ 1 ∧ i = .int .i64 (n : Nat) ∧ Hid (Chg [] w wr)) (fun i _ => 1 - (intOf i).toNat)
  case atStart => exact ⟨0, by omega, rfl, Lib.hid (Chg.refl _ _)⟩
  case round =>
    obtain ⟨n, hn, rfl, Hcw⟩ := hrel
    by_cases hlt : n = 0
    · subst hlt
      obtain ⟨c0, c1, c2, c3, c4⟩ := H.out.new Hcw.out
      go_wp2_with fail
      refine (kindNo wr k2 k3 va vl vc).mono ?_
      rintro e w1 ⟨rfl, hc1⟩
      have H1 := Lib.hid (Hcw.out.trans hc1)
      clear hc1 c0 c1 c2 c3 c4
      go_wp2_with fail
      exact ⟨⟨1, by omega, by go_num, H1⟩, by simp [intOf]⟩
    · obtain rfl : n = 1 := by omega
      clear hlt
      go_wp2_with fail
      go_ret
      exact ⟨rfl, Hcw.out⟩
set_option maxHeartbeats 1000000 in
theorem contKind (w : World) (g off cap : Nat) (k2 k3 : Int) (va : Option Addr) (vl vc : Nat) (h : InpAt w g off k2 k3 va vl vc) :
    Calls Try.prog 37 #[.slice (some ⟨g, off, none⟩) 1 cap, .func (.func 38) #[] #[]] w fun e w' => e = .returned (.bool false) ∧ Chg [] w w' := by
  have H := Lib.hid (idxKind w g off cap k2 k3 va vl vc h)
  clear h
  go_enter Try.func37, Try.ntmps37
  go_wp2_with fail
  refine H.out.mono ?_
  rintro e w1 ⟨rfl, hc1⟩
  go_wp2_with fail
  go_ret
  exact ⟨rfl, hc1⟩
set_option maxHeartbeats 1000000 in
theorem idxNone (w : World) (a : Option Addr) (cap : Nat) (fv : Value) :
    Calls Try.prog 64 #[.slice a 0 cap, fv] w fun e w' => e = .returned (.int .i64 (-1)) ∧ Chg [] w w' := by
  go_enter Try.func64, Try.ntmps64
  go_wp2_with fail
  go_loopw [8] (fun i wr => i = .int .i64 0 ∧ wr = w) (fun i _ => 0)
  case atStart => exact ⟨rfl, rfl⟩
  case round =>
    obtain ⟨rfl, rfl⟩ := hrel
    go_wp2_with fail
    go_ret
    exact ⟨rfl, Chg.refl _ _⟩
set_option maxHeartbeats 1000000 in
theorem contNone (w : World) (a : Option Addr) (cap : Nat) (fv : Value) :
    Calls Try.prog 37 #[.slice a 0 cap, fv] w fun e w' => e = .returned (.bool false) ∧ Chg [] w w' := by
  have H := Lib.hid (idxNone w a cap fv)
  go_enter Try.func37, Try.ntmps37
  go_wp2_with fail
  refine H.out.mono ?_
  rintro e w1 ⟨rfl, hc1⟩
  go_wp2_with fail
  go_ret
  exact ⟨rfl, hc1⟩
/-- what Commit of one assignment brings -/
def comP (s : HS) (k : QK) (xs : List Int) : HS := chgP { s with lat := s.lat + 1 } k xs
def CommitPost (k : QK) (xs : List Int) (w : World) (d : Hm) (e : Ending) (w' : World) : Prop := e = .returned (.tuple #[.int .i64 (d.lat + 1), .int .i64 0]) ∧ ∃ d', AfterH w w' d d' ∧ d'.pl = comP d.pl k xs ∧ d'.mu = 0 ∧ (d.RL = [] → d'.RL = [])
set_option maxRecDepth 100000 in
set_option maxHeartbeats 8000000 in
theorem commit_any (w : World) (d : Hm) (k2 k3 : Int) (g off : Nat) (va : Option Addr) (vc : Nat) (xs : List Int) (h : HmAt w d) (hmu : d.mu = 0) (hk : Inp.QKok (0, k2, k3)) (hv : ∀ e ∈ gL d.VL (0, k2, k3), 0 ≤ e.rev ∧ e.rev ≤ 1000000) (hfew : (gL d.VL (0, k2, k3)).length ≤ 200000) (hlat : 0 ≤ d.lat ∧ d.lat < 900)
    (hi : InpAt w g off k2 k3 va xs.length vc) (hg : ¬ d.M g) (hx : Inp.Ints w (.slice va xs.length vc) xs) (hxl : xs.length * 8 ≤ 140737488355328) :
    Calls Try.prog 13 #[.pointer (some ⟨d.b, 0, none⟩), .slice (some ⟨g, off, none⟩) 1 1] w (CommitPost (0, k2, k3) xs w d) := by
  have q0 : w.cell? ⟨d.b, 0, none⟩ = some (.int .i32 0) := by have := cell_of_heap h.box (i := 0) rfl; rw [this]; simp [Hm.head, hmu]
  have f0 := frozen_of_heap h.box (i := 0)
  have hl := lock_after h hmu
  obtain ⟨wl, hwl⟩ : ∃ x, x = w.setCell ⟨d.b, 0, none⟩ (.int .i32 1) := ⟨_, rfl⟩
  have hlock : Calls Try.prog 31 #[.pointer (some ⟨d.b, 0, none⟩)] w fun e w' => e = .returned (.tuple #[]) ∧ w' = wl := (lock_free Try.muLib ⟨d.b, 0, none⟩ _ q0 f0).mono fun e w' h => ⟨h.1, h.2.trans hwl.symm⟩
  rw [← hwl] at hl
  have hil : InpAt wl g off k2 k3 va xs.length vc := by
    have hne : ∀ {o : Nat}, (⟨g, o, none⟩ : Addr).block < w.heap.size → wl.cell? ⟨g, o, none⟩ = w.cell? ⟨g, o, none⟩ := fun {o} hlt => hl.chg.cell hlt hg
    exact ⟨(hne (lt_of_cell hi.c0)).trans hi.c0, (hne (lt_of_cell hi.c1)).trans hi.c1, (hne (lt_of_cell hi.c2)).trans hi.c2, (hne (lt_of_cell hi.c3)).trans hi.c3, (hne (lt_of_cell hi.c4)).trans hi.c4⟩
  have hxw : ∀ w', ChgP d.M w w' → Inp.Ints w' (.slice va xs.length vc) xs := fun w' hc => intsKept' hx fun g' hg' => hc.block g' (tyAt_lt (tyAt_ints hx hg')) (fun hm => ne_tyM (by decide) h (tyAt_ints hx hg') hm)
  have Hl := Lib.hid hl
  have Hlock := Lib.hid hlock
  have Hil := Lib.hid hil
  have Hxw := Lib.hid hxw
  have Hv := Lib.hid hv
  have Hk := Lib.hid hk
  clear h hl hwl hlock q0 f0 hi hil hx hxw hv hk
  go_enter_defers Try.func13, Try.ntmps13
  go_wp2_with (go_at_call 31; refine Hlock.out.mono ?_; rintro e w1 ⟨rfl, rfl⟩)
  refine (contKind _ g off 1 k2 k3 va xs.length vc Hil.out).mono ?_
  rintro e w2 ⟨rfl, hc2⟩
  have hn := Hl.out.thenNew hc2
  have q5 : w2.cell? ⟨d.b, 5, none⟩ = some (.int .i64 d.lat) := cell_of_heap hn.mem.box rfl
  have f5 := frozen_of_heap hn.mem.box (i := 5)
  have hge : (1000 ≤ d.lat + 1) = False := by simp; omega
  have Hn := Lib.hid hn
  have Hil2 := Lib.hid (Hil.out.new hc2)
  clear hc2 hn
  go_wp2_with fail
  have hl3 : AfterH w2 (w2.setCell ⟨d.b, 5, none⟩ (.int .i64 (d.lat + 1))) { d with mu := 1 } { d with mu := 1, lat := d.lat + 1 } := AfterH.heads (d := { d with mu := 1 }) (d' := { d with mu := 1, lat := d.lat + 1 }) Hn.out.mem rfl rfl rfl rfl rfl rfl (i := 5) (v := .int .i64 (d.lat + 1)) (by simp [Hm.head])
  obtain ⟨w3, hw3⟩ : ∃ x, x = w2.setCell ⟨d.b, 5, none⟩ (.int .i64 (d.lat + 1)) := ⟨_, rfl⟩
  rw [← hw3] at hl3 ⊢
  have hgb : ∀ o, w3.cell? ⟨g, o, none⟩ = w2.cell? ⟨g, o, none⟩ := fun o => by
    rw [hw3]
    exact World.cell?_setCell_other _ _ _ _ (by intro e; exact hg (Or.inl (by simpa using (congrArg Addr.block e).symm)))
  have hil3 : InpAt w3 g off k2 k3 va xs.length vc := ⟨(hgb _).trans Hil2.out.c0, (hgb _).trans Hil2.out.c1, (hgb _).trans Hil2.out.c2, (hgb _).trans Hil2.out.c3, (hgb _).trans Hil2.out.c4⟩
  have Hil3 := Lib.hid hil3
  have Hl3 := Lib.hid (Hn.out.trans hl3)
  clear hil3 hl3 hw3 hgb q5 f5 hge
  go_loopw [39] (fun i wr => ∃ n : Nat, i = .int .i64 (n : Nat) ∧ ((n = 0 ∧ wr = w3) ∨ (n = 1 ∧ ∃ d', Hid (AfterH w wr d d') ∧ Hid (d'.pl = comP d.pl (0, k2, k3) xs) ∧ Hid (d'.mu = 1) ∧ Hid (d.RL = [] → d'.RL = [])))) (fun i _ => 1 - (intOf i).toNat)
  case atStart =>
    exact ⟨0, rfl, Or.inl ⟨rfl, rfl⟩⟩
  case round =>
    obtain ⟨n, rfl, ⟨rfl, rfl⟩ | ⟨rfl, d', Hd', Hpl, Hmu', Hrl⟩⟩ := hrel
    · obtain ⟨c0, c1, c2, c3, c4⟩ := Hil3.out
      go_wp2_with fail
      generalize hwa : World.alloc wr _ = wa
      refine (contNone wa _ _ _).mono ?_
      rintro e w4 ⟨rfl, hc4⟩
      have hb : wa.heap[wr.heap.size]? = some (.cells #[.int .i64 0, .int .i64 k2, .int .i64 k3, .slice va xs.length vc, .string ⟨#[]⟩] 51 (0, 0)) := by rw [← hwa]; exact heap_at _ _ _ rfl
      have hb4 := (hc4.block _ (lt_of_obj hb) (by simp)).trans hb
      have hca : Chg [] wr wa := by rw [← hwa]; exact (Chg.refl _ _).alloc _
      have H4 := Lib.hid (Hl3.out.thenNew (hca.trans hc4))
      have e0 : w4.cell? ⟨wr.heap.size, 0, none⟩ = some (.int .i64 0) := cell_of_heap hb4 rfl
      have e1 : w4.cell? ⟨wr.heap.size, 1, none⟩ = some (.int .i64 k2) := cell_of_heap hb4 rfl
      have e2 : w4.cell? ⟨wr.heap.size, 2, none⟩ = some (.int .i64 k3) := cell_of_heap hb4 rfl
      have e3 : w4.cell? ⟨wr.heap.size, 3, none⟩ = some (.slice va xs.length vc) := cell_of_heap hb4 rfl
      have e4 : w4.cell? ⟨wr.heap.size, 4, none⟩ = some (.string ⟨#[]⟩) := cell_of_heap hb4 rfl
      clear hwa hb hb4 hca hc4
      go_wp2_with fail
      refine (change_any w4 { d with mu := 1, lat := d.lat + 1 } (0, k2, k3) va vc xs H4.out.mem Hk.out Hv.out hfew (by simp only; omega) (Hxw.out _ H4.out.chg) hxl).mono ?_
      rintro e w5 ⟨rfl, d', ha, hpl, hmu', hrl⟩
      have Ha := Lib.hid (H4.out.trans ha)
      have Hpl := Lib.hid hpl
      have Hmu' := Lib.hid hmu'
      have Hrl := Lib.hid hrl
      clear ha hpl hmu' hrl e0 e1 e2 e3 e4
      go_wp2_with fail
      exact ⟨⟨1, by go_num, Or.inr ⟨rfl, d', Ha, Hpl, Hmu', Hrl⟩⟩, by simp [intOf]⟩
    · have q5 : wr.cell? ⟨d.b, 5, none⟩ = some (.int .i64 d'.lat) := by have := cell_of_heap Hd'.out.mem.box (i := 5) rfl; rw [Hd'.out.b] at this; exact this
      go_wp2_with fail
      have q0l : wr.cell? ⟨d.b, 0, none⟩ = some (.int .i32 1) := by have := cell_of_heap Hd'.out.mem.box (i := 0) rfl; rw [Hd'.out.b] at this; rw [this]; simp [Hm.head, Hmu'.out]
      have f0l : wr.frozen? ⟨d.b, 0, none⟩ = false := by have := frozen_of_heap Hd'.out.mem.box (i := 0); rw [Hd'.out.b] at this; exact this
      refine leaves_cons (f := 32) (args := #[.pointer (some ⟨d.b, 0, none⟩)]) (by simp) (by simp [go_sem]) ?_
      refine (unlock_deferred Try.muLib ⟨d.b, 0, none⟩ .returning _ q0l f0l).mono ?_
      rintro e u' w'' ⟨rfl, rfl, rfl⟩
      refine ⟨_, results_tmp2 rfl _ _ _, ?_⟩
      have hun := AfterH.heads (d := d') (d' := { d' with mu := 0 }) Hd'.out.mem rfl rfl rfl rfl rfl rfl (i := 0) (v := .int .i32 0) (by simp [Hm.head])
      rw [← Hd'.out.b]
      have hlat' : d'.lat = d.lat + 1 := (congrArg HS.lat Hpl.out).trans (by unfold comP chgP; split <;> rfl)
      exact ⟨by simp only [hlat']; rfl, { d' with mu := 0 }, Hd'.out.trans hun, Hpl.out, rfl, Hrl.out⟩
end Go.Proofs.Ytggiddhhbilcjaa.Sn
