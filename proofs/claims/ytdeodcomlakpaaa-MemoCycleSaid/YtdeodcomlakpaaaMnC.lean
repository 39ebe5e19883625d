/- changedSince. -/
import Derived.Test.YtdeodcomlakpaaaMnB
namespace Go.Proofs.Ytdeodcomlakpaaa
open Go.RowKit
set_option linter.unusedVariables false
section
variable {w0 : World} {RO : Nat → Prop} {b : Nat} {comp stop : Value} {K : PS → QK → Prop} {U : PS → QK → Except Int Unit × PS} {ch : Int → List PanicEntry}
set_option maxHeartbeats 1000000 in
theorem changedSince_inp (w : World) (d : Dm) (k : QK) (rev : Int) (h : DmAt w b d) (hk : Inp.QKok k) (h0 : k.1 = 0) :
    Calls Try.prog 106 #[.pointer (some ⟨b, 0, none⟩), i3v k, .int .i64 rev] w fun e w' => e = .returned (.bool (decide (rev < (d.pl.inp k).ch))) ∧ Chg [] w w' := by
  have Hch := Lib.hid (show (d.pl.inp k).ch = (d.S.at k).ch by rw [Dm.inp_pl]; rfl)
  have q1 : w.cell? ⟨b, 1, none⟩ = some (.pointer (some ⟨d.bs, 0, none⟩)) := cell_of_heap h.blk rfl
  have lb := lt_of_obj h.blk
  have hne := World.new_ne w _ q1
  have hb2 : b < w.heap.size + 1 := by omega
  have hb3 : b < w.heap.size + 2 := by omega
  have hb4 : b < w.heap.size + 1 + 1 := by omega
  have Hs := Lib.hid h.store
  have Hk := Lib.hid hk
  obtain ⟨k1, k2, k3⟩ := k
  obtain rfl : k1 = 0 := h0
  clear h hk
  unfold i3v
  go_enter Try.func106, Try.ntmps106
  go_wp2_with fail
  go_region_held3 (fun w' => w'.cell? ⟨b, 1, none⟩ = some (.pointer (some ⟨d.bs, 0, none⟩)) ∧ w'.cell? ⟨w.heap.size, 0, none⟩ = some (.int .i64 0) ∧ w'.cell? ⟨w.heap.size, 1, none⟩ = some (.int .i64 k2) ∧ w'.cell? ⟨w.heap.size, 2, none⟩ = some (.int .i64 k3))
    (first | (go_keep; done) | (refine ⟨?_, ?_, ?_, ?_⟩ <;> (simp [go_sem, *]; done)) | (refine ⟨?_, ?_, ?_, ?_⟩ <;> (rw [hc1.cell (by simp; try omega) (by simp)]; simp [go_sem, *]; done)))
    (first
      | (go_at_call 65; refine (Inp.get_any d.bs d.bsm d.S (0, k2, k3) _ (Hs.out.same (by exact (((Chg.refl [] w).alloc _).alloc _).drew)) Hk.out).mono ?_; rintro e w1 ⟨a1, c1, rfl, hi1, hn1, hc1⟩; have bq := hc1.block (w.heap.size + 1) (by first | (simp; done) | (simp; omega)) (by simp); have r0 : w1.cell? ⟨w.heap.size + 1, 0, none⟩ = some (.slice none 0 0) := (World.cell?_of_block bq).trans (by simp [go_sem]); have r1 : w1.cell? ⟨w.heap.size + 1, 1, none⟩ = some (.string ⟨#[]⟩) := (World.cell?_of_block bq).trans (by simp [go_sem]); have f0 : w1.frozen? ⟨w.heap.size + 1, 0, none⟩ = false := (World.frozen?_of_block bq).trans (by simp [go_sem]); have f1 : w1.frozen? ⟨w.heap.size + 1, 1, none⟩ = false := (World.frozen?_of_block bq).trans (by simp [go_sem]); have hcw : Chg [] w w1 := (((Chg.refl [] w).alloc _).alloc _).drew.new hc1; have k0 : w1.cell? ⟨b, 1, none⟩ = some (.pointer (some ⟨d.bs, 0, none⟩)) := (hcw.cell (p := ⟨b, 1, none⟩) lb (by simp)).trans q1; have k1' : w1.cell? ⟨w.heap.size, 0, none⟩ = some (.int .i64 0) := (hc1.cell (p := ⟨w.heap.size, 0, none⟩) (by first | (simp; done) | (simp; omega)) (by simp)).trans (by simp [go_sem]); have k2' : w1.cell? ⟨w.heap.size, 1, none⟩ = some (.int .i64 k2) := (hc1.cell (p := ⟨w.heap.size, 1, none⟩) (by first | (simp; done) | (simp; omega)) (by simp)).trans (by simp [go_sem]); have k3' : w1.cell? ⟨w.heap.size, 2, none⟩ = some (.int .i64 k3) := (hc1.cell (p := ⟨w.heap.size, 2, none⟩) (by first | (simp; done) | (simp; omega)) (by simp)).trans (by simp [go_sem]))
      | (go_at_call 65; refine (Inp.get_any d.bs d.bsm d.S (0, k2, k3) _ (Hs.out.same (by exact ((Chg.refl [] w).alloc _).drew)) Hk.out).mono ?_; rintro e w1 ⟨a1, c1, rfl, hi1, hn1, hc1⟩; have hcw : Chg [] w w1 := ((Chg.refl [] w).alloc _).drew.new hc1; have k0 : w1.cell? ⟨b, 1, none⟩ = some (.pointer (some ⟨d.bs, 0, none⟩)) := (hcw.cell (p := ⟨b, 1, none⟩) lb (by simp)).trans q1; have k1' : w1.cell? ⟨w.heap.size, 0, none⟩ = some (.int .i64 0) := (hc1.cell (p := ⟨w.heap.size, 0, none⟩) (by first | (simp; done) | (simp; omega)) (by simp)).trans (by simp [go_sem]); have k2' : w1.cell? ⟨w.heap.size, 1, none⟩ = some (.int .i64 k2) := (hc1.cell (p := ⟨w.heap.size, 1, none⟩) (by first | (simp; done) | (simp; omega)) (by simp)).trans (by simp [go_sem]); have k3' : w1.cell? ⟨w.heap.size, 2, none⟩ = some (.int .i64 k3) := (hc1.cell (p := ⟨w.heap.size, 2, none⟩) (by first | (simp; done) | (simp; omega)) (by simp)).trans (by simp [go_sem])))
  all_goals
    go_wp2
    go_ret
    refine ⟨by rw [Hch.out]; rfl, ?_⟩
    have hz := hcw.size
    repeat (first | exact hcw | apply Chg.drew | apply Chg.alloc | refine Chg.setCell ?_ (Or.inr (by first | (simp; done) | (simp; omega))) _)
set_option maxHeartbeats 1000000 in
theorem changedSince_any (fam : UFam w0 RO b comp stop K U ch) (w : World) (d : Dm) (k : QK) (rev : Int) (h : Env w0 RO b w d) (hc : d.comp = comp) (hs : d.stop = stop) (hk : Inp.QKok k) (hK : k.1 ≠ 0 → K d.pl k) :
    Calls Try.prog 106 #[.pointer (some ⟨b, 0, none⟩), i3v k, .int .i64 rev] w (BPost (fun s => chgSince U s k rev) ch b w d) := by
  by_cases h0 : k.1 = 0
  · refine (changedSince_inp w d k rev h.mem hk h0).mono ?_
    rintro e w' ⟨he, hw⟩
    exact BPost.mkOk (d' := d) (t := decide (rev < (d.pl.inp k).ch)) (by unfold chgSince; rw [if_pos h0]) (Next.new h.mem hw) he
  · have hok : ∀ u s', U d.pl k = (.ok u, s') → chgSince U d.pl k rev = (.ok (decide (rev < (s'.res k).chg)), s') := fun u s' e => by unfold chgSince; rw [if_neg h0, e]
    have herr : ∀ x s', U d.pl k = (.error x, s') → chgSince U d.pl k rev = (.error x, s') := fun x s' e => by unfold chgSince; rw [if_neg h0, e]
    have hcall := fun w' (hw : Chg [] w w') => fam.call w' d k (h.new hw) hc hs (hK h0)
    have b0 : (k.1 == 0) = false := by simpa using h0
    obtain ⟨k1, k2, k3⟩ := k
    simp only at b0
    have Hok := Lib.hid hok
    have Herr := Lib.hid herr
    have Hcall := Lib.hid hcall
    have Hm := Lib.hid h.mem
    clear hok herr hcall h hK h0 hk
    unfold i3v at Hcall ⊢
    go_enter Try.func106, Try.ntmps106
    go_wp2_with fail
    refine (Hcall.out _ (by exact (Chg.refl [] w).alloc _)).mono ?_
    rintro e w1 hp
    rcases hu : U d.pl (k1, k2, k3) with ⟨_ | u, s'⟩
    · obtain ⟨d', rfl, hn, rfl⟩ := hp.err hu
      have Hu := Lib.hid hu
      clear hu
      go_wp2
      exact ⟨rfl, BPost.mkErr (R := fun s => chgSince U s (k1, k2, k3) rev) (Herr.out _ _ Hu.out) (Next.afterNew Hm.out ((Chg.refl [] w).alloc _) hn) rfl⟩
    · obtain ⟨d', r, rfl, hn, rfl, hr⟩ := hp.ok hu
      have Hu := Lib.hid hu
      have q2 : w1.cell? ⟨r.blk, 3, none⟩ = some (.int .i64 r.chg) := cell_of_heap (hn.mem.rs hr).blk rfl
      have Hn := Lib.hid hn
      have Hr := Lib.hid hr
      clear hu hn hr hp
      unfold Rs.val
      go_wp2
      go_ret
      exact BPost.mkOk (R := fun s => chgSince U s (k1, k2, k3) rev) (t := decide (rev < r.chg)) (by have := Hok.out _ _ Hu.out; rw [Dm.res_pl Hr.out] at this; exact this) (Next.afterNew Hm.out ((Chg.refl [] w).alloc _) Hn.out) rfl
end
end Go.Proofs.Ytdeodcomlakpaaa
