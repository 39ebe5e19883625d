/- valid. -/
import Derived.Test.YtdeodcomlakpaaaMnD
namespace Go.Proofs.Ytdeodcomlakpaaa
open Go.RowKit
set_option linter.unusedVariables false
theorem revision_q (b bm : Nat) (S : Inp.St) (w : World) (h : Inp.StoreIs w b bm S) :
    Calls Try.prog 91 #[.pointer (some ⟨b, 0, none⟩)] w fun e w' => e = .returned (.int .i64 S.rev) ∧ w' = w := (Inp.revision_any b bm S w h).mono fun _ _ h => ⟨h.1, h.2.symm⟩
theorem last_q (b bm : Nat) (S : Inp.St) (d : Int) (w : World) (h : Inp.StoreIs w b bm S) (hd0 : 0 ≤ d) (hd : d < 3) :
    Calls Try.prog 103 #[.pointer (some ⟨b, 0, none⟩), .int .i64 d] w fun e w' => e = .returned (.int .i64 (S.last d)) ∧ w' = w := (Inp.last_any b bm S d w h hd0 hd).mono fun _ _ h => ⟨h.1, h.2.symm⟩
section
variable {w0 : World} {RO : Nat → Prop} {b : Nat} {comp stop : Value} {K : PS → QK → Prop} {U : PS → QK → Except Int Unit × PS} {ch : Int → List PanicEntry}
theorem validP_yes {s : PS} {r : RV} (h : r.ver = s.rev ∨ s.last r.dur ≤ r.ver) : validP U s r = (.ok true, s) := by unfold validP; rw [if_pos h]
theorem validP_no {s s' : PS} {r : RV} {t : Bool} (h : ¬ (r.ver = s.rev ∨ s.last r.dur ≤ r.ver)) (e : anyChg U r.ver r.deps s = (.ok t, s')) : validP U s r = (.ok (!t), s') := by unfold validP; rw [if_neg h, e]
theorem validP_err {s s' : PS} {r : RV} {x : Int} (h : ¬ (r.ver = s.rev ∨ s.last r.dur ≤ r.ver)) (e : anyChg U r.ver r.deps s = (.error x, s')) : validP U s r = (.error x, s') := by unfold validP; rw [if_neg h, e]
set_option maxRecDepth 100000 in
set_option maxHeartbeats 1000000 in
theorem valid_any (fam : UFam w0 RO b comp stop K U ch) (w : World) (d : Dm) (key : QK) (v : Int) (r : Rs) (h : Env w0 RO b w d) (hc : d.comp = comp) (hs : d.stop = stop) (hr : aget d.es key = some r) (ha : aget d.act key = some v) (hdur : 0 ≤ r.dur ∧ r.dur < 3)
    (hK : ∀ k ∈ r.deps, Inp.QKok k ∧ (k.1 ≠ 0 → K d.pl k)) :
    Calls Try.prog 89 #[.pointer (some ⟨b, 0, none⟩), r.val] w (BPost (fun s => validP U s r.pl) ch b w d) := by
  obtain ⟨hd0, hd3⟩ := hdur
  have hrs := h.mem.rs hr
  have q1 : w.cell? ⟨b, 1, none⟩ = some (.pointer (some ⟨d.bs, 0, none⟩)) := cell_of_heap h.mem.blk rfl
  have r2 : w.cell? ⟨r.blk, 2, none⟩ = some (.int .i64 r.ver) := cell_of_heap hrs.blk rfl
  have r4 : w.cell? ⟨r.blk, 4, none⟩ = some (.int .i64 r.dur) := cell_of_heap hrs.blk rfl
  have r5 : w.cell? ⟨r.blk, 5, none⟩ = some (.slice r.da r.deps.length r.dcap) := cell_of_heap hrs.blk rfl
  have lb : b < w.heap.size := lt_of_cell q1
  have lr : r.blk < w.heap.size := lt_of_cell r2
  have n1 := World.new_ne w _ q1
  have n2 := World.new_ne w _ r2
  have hcd : Chg [] w ((w.alloc (.cells #[.pointer (some ⟨b, 0, none⟩)] 24)).alloc (.cells #[r.val] 104)) := ((Chg.refl [] w).alloc _).alloc _
  have Hst := fun n => h.mem.store.same (hcd.drewN n)
  have hlt1 : b < w.heap.size + 1 := by omega
  have hlt2 : r.blk < w.heap.size + 1 := by omega
  have Hm := Lib.hid h.mem
  by_cases hv : r.ver = d.S.rev
  · have bv : (r.ver == d.S.rev) = true := by simpa using hv
    have Hf := Lib.hid (show validP U d.pl r.pl = (.ok true, d.pl) from validP_yes (Or.inl hv))
    clear hv h hrs hr ha hK
    unfold Rs.val at hcd ⊢
    go_enter Try.func89, Try.ntmps89
    go_wp2_with fail
    go_quiet ((go_at_call 91; exact Calls.quiet_of_same (revision_q _ _ _ _ (by first | exact Hst _ | exact Hst 0))))
    go_wp2
    go_ret
    exact BPost.mkOk (R := fun s => validP U s r.pl) (t := true) Hf.out (Next.new Hm.out (hcd.drewN _)) rfl
  · have bv : (r.ver == d.S.rev) = false := by simpa using hv
    by_cases hl : d.S.last r.dur ≤ r.ver
    · have Hf := Lib.hid (show validP U d.pl r.pl = (.ok true, d.pl) from validP_yes (Or.inr hl))
      clear hv h hrs hr ha hK
      unfold Rs.val at hcd Hst ⊢
      go_enter Try.func89, Try.ntmps89
      go_wp2_with fail
      go_quiet (first | (go_at_call 91; exact Calls.quiet_of_same (revision_q _ _ _ _ (by first | exact Hst _ | exact Hst 0))) | (go_at_call 103; exact Calls.quiet_of_same (last_q _ _ _ _ _ (by first | exact Hst _ | exact Hst 0) hd0 hd3)))
      go_wp2
      go_ret
      exact BPost.mkOk (R := fun s => validP U s r.pl) (t := true) Hf.out (Next.new Hm.out (hcd.drewN _)) rfl
    · have hl' : ¬ (r.pl.ver = d.pl.rev ∨ d.pl.last r.pl.dur ≤ r.pl.ver) := fun e => e.elim hv hl
      have Hl := Lib.hid hl'
      have bl : decide (d.S.last r.dur ≤ r.ver) = false := by simpa using hl
      have hcall : ∀ w', Chg [] ((w.alloc (.cells #[.pointer (some ⟨b, 0, none⟩)] 24)).alloc (.cells #[r.val] 104)) w' → Calls Try.prog 104 #[.slice r.da r.deps.length r.dcap, .func (.func 105) #[] #[.pointer (some ⟨w.heap.size, 0, none⟩), .pointer (some ⟨w.heap.size + 1, 0, none⟩)]] w' (BPost (anyChg U r.ver r.deps) ch b w' d) := fun w' hw => by
        have hm := h.mem.lt
        refine cfChg_any fam w' d key v w.heap.size (w.heap.size + 1) r (h.new (hcd.trans hw)) hc hs hr ha hK ?_ ?_ ?_ ?_
        · rw [hw.cell (by simp; try omega) (by simp)]
          exact cell_of_heap ((heap_past _ _ _ (by simp)).trans (heap_at _ _ _ rfl)) rfl
        · rw [hw.cell (by simp; try omega) (by simp)]
          exact cell_of_heap (heap_at _ _ _ (by simp)) rfl
        · intro hg; have := hm _ hg; omega
        · intro hg; have := hm _ hg; omega
      have Hcall := Lib.hid hcall
      clear hv h hrs hr ha hK hcall hl
      unfold Rs.val at hcd Hst Hcall ⊢
      have hmf : ∀ (fn : Fn) (first cap : Array Value) (w : World), (Instr.makeFunc fn first cap).run Try.prog w = .ok (.func fn first cap) w := fun _ _ _ _ => rfl
      go_enter Try.func89, Try.ntmps89
      go_wp2_with fail
      go_quiet (first | (go_at_call 91; exact Calls.quiet_of_same (revision_q _ _ _ _ (by first | exact Hst _ | exact Hst 0))) | (go_at_call 103; exact Calls.quiet_of_same (last_q _ _ _ _ _ (by first | exact Hst _ | exact Hst 0) hd0 hd3)))
      go_wp2_with fail
      refine (Hcall.out _ ((Chg.refl _ _).drewN _)).mono ?_
      rintro e w1 hp
      rcases hu : anyChg U r.ver r.deps d.pl with ⟨_ | t, s'⟩
      · obtain ⟨d2, rfl, hn, rfl⟩ := hp.err hu
        have Hf := Lib.hid (show validP U d.pl r.pl = (.error _, d2.pl) from validP_err Hl.out hu)
        have Hn := Lib.hid (Next.afterNew Hm.out (hcd.drewN _) hn)
        clear hu hp hn
        go_wp2
        exact ⟨rfl, BPost.mkErr (R := fun s => validP U s r.pl) Hf.out Hn.out rfl⟩
      · obtain ⟨d2, rfl, hn, rfl⟩ := hp.ok hu
        have Hf := Lib.hid (show validP U d.pl r.pl = (.ok (!t), d2.pl) from validP_no Hl.out hu)
        have Hn := Lib.hid (Next.afterNew Hm.out (hcd.drewN _) hn)
        clear hu hp hn
        go_wp2
        go_ret
        exact BPost.mkOk (R := fun s => validP U s r.pl) (t := !t) Hf.out Hn.out rfl
end
end Go.Proofs.Ytdeodcomlakpaaa
