/- valid: its closure, ContainsFunc over it. -/
import Derived.Test.YtdeodcomlakpaaaMnC
import Derived.StillTailTactics
namespace Go.Proofs.Ytdeodcomlakpaaa
open Go.RowKit
set_option linter.unusedVariables false
/-- a region whose first n operations only read, the rest in forced order: the text's order, in a world of its own -/
theorem wp_region_reads {P : Program} {id : Nat} {Q : Exit → Act → World → Prop} {a : Act} {w : World} {l : List Oper} (n : Nat) (hm : P.follows .mixedOrders = true) (hB : Region.lexTailB .any l.toArray n = true)
    (h : ∀ W : World, W = w.drew → wpStill P l.toArray W (fun a' => wpList P l.toArray Q (l.drop n) a' W) (l.take n) a) : (Code.region id l.toArray true).wp P Q a w :=
  wp_region_still_tail n hm hB (h _ rfl)
section
variable {w0 : World} {RO : Nat → Prop} {b : Nat} {comp stop : Value} {K : PS → QK → Prop} {U : PS → QK → Except Int Unit × PS} {ch : Int → List PanicEntry}
set_option maxRecDepth 100000 in
set_option maxHeartbeats 1000000 in
theorem valid1_any (fam : UFam w0 RO b comp stop K U ch) (w : World) (d : Dm) (k : QK) (bd br : Nat) (r : Rs) (h : Env w0 RO b w d) (hc : d.comp = comp) (hs : d.stop = stop) (hk : Inp.QKok k) (hK : k.1 ≠ 0 → K d.pl k)
    (hd : w.cell? ⟨bd, 0, none⟩ = some (.pointer (some ⟨b, 0, none⟩))) (hr : w.cell? ⟨br, 0, none⟩ = some r.val) (hv : w.cell? ⟨r.blk, 2, none⟩ = some (.int .i64 r.ver)) :
    Calls Try.prog 105 #[i3v k, .pointer (some ⟨bd, 0, none⟩), .pointer (some ⟨br, 0, none⟩)] w (BPost (fun s => chgSince U s k r.ver) ch b w d) := by
  have hcall := fun w' (hw : Chg [] w w') => changedSince_any fam w' d k r.ver (h.new hw) hc hs hk hK
  have ld := lt_of_cell hd
  have lr := lt_of_cell hr
  have lv := lt_of_cell hv
  obtain ⟨k1, k2, k3⟩ := k
  have Hcall := Lib.hid hcall
  have Hm := Lib.hid h.mem
  clear hcall h hK hk fam
  unfold i3v at Hcall ⊢
  unfold Rs.val at hr
  go_enter Try.func105, Try.ntmps105
  go_wp2_with fail
  refine wp_region_reads 6 (by kernel_rfl) (by kernel_rfl) ?_
  simp only [List.take_succ_cons, List.take_zero, List.drop_succ_cons, List.drop_zero]
  intro wd hwd
  have hcd : Chg [] w wd := by rw [hwd]; exact ((Chg.refl [] w).alloc _).drew
  have e0 : wd.cell? ⟨bd, 0, none⟩ = some (.pointer (some ⟨b, 0, none⟩)) := (hcd.cell ld (by simp)).trans hd
  have e1 : wd.cell? ⟨br, 0, none⟩ = some (.pointer (some ⟨r.blk, 0, none⟩)) := (hcd.cell lr (by simp)).trans hr
  have e2 : wd.cell? ⟨r.blk, 2, none⟩ = some (.int .i64 r.ver) := (hcd.cell lv (by simp)).trans hv
  have e3 : wd.cell? ⟨w.heap.size, 0, none⟩ = some (.int .i64 k1) := by rw [hwd]; exact cell_of_heap (heap_at _ _ _ rfl) rfl
  have e4 : wd.cell? ⟨w.heap.size, 1, none⟩ = some (.int .i64 k2) := by rw [hwd]; exact cell_of_heap (heap_at _ _ _ rfl) rfl
  have e5 : wd.cell? ⟨w.heap.size, 2, none⟩ = some (.int .i64 k3) := by rw [hwd]; exact cell_of_heap (heap_at _ _ _ rfl) rfl
  clear hwd
  repeat still_step
  refine wpStill_nil ?_
  go_wp2_with fail
  refine (Hcall.out _ hcd).mono ?_
  rintro e w1 hp
  have Hp := Lib.hid hp
  rcases hu : chgSince U d.pl (k1, k2, k3) r.ver with ⟨_ | t, s'⟩
  · obtain ⟨d', rfl, hn, rfl⟩ := hp.err hu
    have Hu := Lib.hid hu
    clear hu hp
    go_wp2
    exact ⟨rfl, BPost.mkErr (R := fun s => chgSince U s (k1, k2, k3) r.ver) Hu.out (Next.afterNew Hm.out hcd hn) rfl⟩
  · obtain ⟨d', rfl, hn, rfl⟩ := hp.ok hu
    have Hu := Lib.hid hu
    have Hn := Lib.hid hn
    clear hu hp hn
    go_wp2
    go_ret
    exact BPost.mkOk (R := fun s => chgSince U s (k1, k2, k3) r.ver) (t := t) Hu.out (Next.afterNew Hm.out hcd Hn.out) rfl
theorem chg_keep (fam : UFam w0 RO b comp stop K U ch) {s : PS} {k : QK} {rev : Int} {l : List QK} (h : ∀ k ∈ l, Inp.QKok k ∧ (k.1 ≠ 0 → K s k)) (hk : k ∈ l) : ∀ k' ∈ l, Inp.QKok k' ∧ (k'.1 ≠ 0 → K (chgSince U s k rev).2 k') := by
  intro k' hk'
  refine ⟨(h k' hk').1, fun h0 => ?_⟩
  unfold chgSince
  by_cases e : k.1 = 0
  · rw [if_pos e]; exact (h k' hk').2 h0
  · rw [if_neg e]
    have := fam.keep s k k' ((h k hk).2 e) ((h k' hk').2 h0)
    rcases hu : U s k with ⟨_ | u, s'⟩ <;> rw [hu] at this <;> exact this
theorem anyChg_yes {rev : Int} {k : QK} {l : List QK} {s s' : PS} (h : chgSince U s k rev = (.ok true, s')) : anyChg U rev (k :: l) s = (.ok true, s') := by
  unfold anyChg; rw [h]
theorem anyChg_no {rev : Int} {k : QK} {l : List QK} {s s' : PS} (h : chgSince U s k rev = (.ok false, s')) : anyChg U rev (k :: l) s = anyChg U rev l s' := by
  conv => lhs; unfold anyChg
  rw [h]
theorem anyChg_err {rev : Int} {k : QK} {l : List QK} {s s' : PS} {x : Int} (h : chgSince U s k rev = (.error x, s')) : anyChg U rev (k :: l) s = (.error x, s') := by
  unfold anyChg; rw [h]
/-- IndexFunc's answer -/
def IPost (R : PS → Except Int Bool × PS) (ch : Int → List PanicEntry) (b : Nat) (w : World) (d : Dm) (e : Ending) (w' : World) : Prop :=
  ∃ d', Next b w w' d d' ∧ d'.pl = (R d.pl).2 ∧ match (R d.pl).1 with
    | .ok t => ∃ z : Int, e = .returned (.int .i64 z) ∧ decide (0 ≤ z) = t
    | .error x => e = .panicked (ch x)
/-- the loop over the dependencies, before the k-th -/
structure ChgLoop (K : PS → QK → Prop) (U : PS → QK → Except Int Unit × PS) (b : Nat) (r : Rs) (w : World) (d : Dm) (k : Nat) (wr : World) (d' : Dm) : Prop where
  next : Next b w wr d d'
  eq : anyChg U r.ver r.deps d.pl = anyChg U r.ver (r.deps.drop k) d'.pl
  ok : ∀ k ∈ r.deps, Inp.QKok k ∧ (k.1 ≠ 0 → K d'.pl k)
set_option maxRecDepth 100000 in
set_option maxHeartbeats 1000000 in
theorem idxChg_any (fam : UFam w0 RO b comp stop K U ch) (w : World) (d : Dm) (key : QK) (v : Int) (bd br : Nat) (r : Rs) (h : Env w0 RO b w d) (hc : d.comp = comp) (hs : d.stop = stop) (hr : aget d.es key = some r) (ha : aget d.act key = some v)
    (hK : ∀ k ∈ r.deps, Inp.QKok k ∧ (k.1 ≠ 0 → K d.pl k)) (hd : w.cell? ⟨bd, 0, none⟩ = some (.pointer (some ⟨b, 0, none⟩))) (hb : w.cell? ⟨br, 0, none⟩ = some r.val) (hbd : bd ∉ d.muts b) (hbr : br ∉ d.muts b) :
    Calls Try.prog 113 #[.slice r.da r.deps.length r.dcap, .func (.func 105) #[] #[.pointer (some ⟨bd, 0, none⟩), .pointer (some ⟨br, 0, none⟩)]] w (IPost (anyChg U r.ver r.deps) ch b w d) := by
  obtain ⟨_, _, _, hl1, hl2, _⟩ := (h.mem.rs hr).deps
  unfold maxLen at hl2
  have hlm : r.deps.length ≤ 9223372036854775807 := by omega
  have H := Lib.hid h
  have Hr := Lib.hid hr
  have Ha := Lib.hid ha
  have Hd := Lib.hid hd
  have Hb := Lib.hid hb
  have Hstart := Lib.hid (show ChgLoop K U b r w d 0 w d from ⟨Next.refl h.mem, rfl, hK⟩)
  clear h hr ha hd hb hK hl1 hl2
  go_enter Try.func113, Try.ntmps113
  go_wp2
  go_loopw [8] (fun i wr => ∃ (k : Nat) (d' : Dm), k ≤ r.deps.length ∧ i = .int .i64 (k : Nat) ∧ ChgLoop K U b r w d k wr d') (fun i _ => r.deps.length - (intOf i).toNat)
  case atStart => exact ⟨0, d, by omega, rfl, Hstart.out⟩
  case round =>
    obtain ⟨k, d', hk, rfl, hrel⟩ := hrel
    by_cases hlt : k < r.deps.length
    · have hr' : aget d'.es key = some r := (hrel.next.busy key v Ha.out).2.trans Hr.out
      have hrs := hrel.next.mem.rs hr'
      obtain ⟨g, off, hda, _, q0, q1, q2⟩ := SlR.at hrs.deps k hlt (0, 0, 0)
      obtain ⟨x, hx⟩ : ∃ x, r.deps.getD k (0, 0, 0) = x := ⟨_, rfl⟩
      rw [hx] at q0 q1 q2
      have hxm : x ∈ r.deps := by rw [← hx]; exact getD_memb hlt (0, 0, 0)
      have hdr : r.deps.drop k = x :: r.deps.drop (k + 1) := by rw [← hx]; exact drop_getD _ _ hlt _
      have od := hrel.next.other (lt_of_cell Hd.out) hbd
      have ob := hrel.next.other (lt_of_cell Hb.out) hbr
      have hcall := valid1_any fam wr d' x bd br r (H.out.next hrel.next) (hrel.next.comp.trans hc) (hrel.next.stop.trans hs) (hrel.ok x hxm).1 (hrel.ok x hxm).2 ((World.cell?_of_block od.1).trans Hd.out) ((World.cell?_of_block ob.1).trans Hb.out) (cell_of_heap hrs.blk rfl)
      have Hcall := Lib.hid hcall
      have Heq := Lib.hid (by have := hrel.eq; rw [hdr] at this; exact this)
      have Hrel := Lib.hid hrel
      have Hxm := Lib.hid hxm
      have hk1 : (k : Int) < r.deps.length := by omega
      rw [hda]
      clear hcall hrel hr' hrs hx hdr od ob hxm hda
      obtain ⟨k1, k2, k3⟩ := x
      simp only at q0 q1 q2
      unfold i3v at Hcall
      go_wp2_with fail
      refine Hcall.out.mono ?_
      rintro e w1 hp
      rcases hu : chgSince U d'.pl (k1, k2, k3) r.ver with ⟨_ | t, s'⟩
      · obtain ⟨d2, rfl, hn, rfl⟩ := hp.err hu
        have Hf := Lib.hid (Heq.out.trans (anyChg_err hu))
        have Hn := Lib.hid (Hrel.out.next.trans hn)
        clear hu hp hn
        go_wp2
        refine ⟨rfl, d2, Hn.out, by rw [Hf.out], ?_⟩
        rw [Hf.out]
      · obtain ⟨d2, rfl, hn, rfl⟩ := hp.ok hu
        cases t
        · have Hnext := Lib.hid (show ChgLoop K U b r w d (k + 1) w1 d2 from ⟨Hrel.out.next.trans hn, Heq.out.trans (anyChg_no hu), by have := chg_keep fam (rev := r.ver) Hrel.out.ok Hxm.out; rw [hu] at this; exact this⟩)
          clear hu hp hn
          go_wp2
          exact ⟨⟨k + 1, d2, by omega, by go_num, Hnext.out⟩, by simp [intOf]; omega⟩
        · have Hf := Lib.hid (Heq.out.trans (anyChg_yes hu))
          have Hn := Lib.hid (Hrel.out.next.trans hn)
          clear hu hp hn
          go_wp2
          go_ret
          refine ⟨d2, Hn.out, by rw [Hf.out], ?_⟩
          rw [Hf.out]
          exact ⟨_, rfl, by simp⟩
    · obtain rfl : k = r.deps.length := by omega
      have Hrel := Lib.hid hrel
      clear hrel
      go_wp2
      go_ret
      have hf := Hrel.out.eq
      rw [List.drop_length] at hf
      refine ⟨d', Hrel.out.next, by rw [hf]; rfl, ?_⟩
      rw [hf]
      exact ⟨-1, rfl, rfl⟩
set_option maxRecDepth 100000 in
set_option maxHeartbeats 1000000 in
theorem cfChg_any (fam : UFam w0 RO b comp stop K U ch) (w : World) (d : Dm) (key : QK) (v : Int) (bd br : Nat) (r : Rs) (h : Env w0 RO b w d) (hc : d.comp = comp) (hs : d.stop = stop) (hr : aget d.es key = some r) (ha : aget d.act key = some v)
    (hK : ∀ k ∈ r.deps, Inp.QKok k ∧ (k.1 ≠ 0 → K d.pl k)) (hd : w.cell? ⟨bd, 0, none⟩ = some (.pointer (some ⟨b, 0, none⟩))) (hb : w.cell? ⟨br, 0, none⟩ = some r.val) (hbd : bd ∉ d.muts b) (hbr : br ∉ d.muts b) :
    Calls Try.prog 104 #[.slice r.da r.deps.length r.dcap, .func (.func 105) #[] #[.pointer (some ⟨bd, 0, none⟩), .pointer (some ⟨br, 0, none⟩)]] w (BPost (anyChg U r.ver r.deps) ch b w d) := by
  have Hcall := Lib.hid (idxChg_any fam w d key v bd br r h hc hs hr ha hK hd hb hbd hbr)
  clear h hr ha hd hb hK
  go_enter Try.func104, Try.ntmps104
  go_wp2_with fail
  refine Hcall.out.mono ?_
  rintro e w1 ⟨d2, hn, hpl, hp⟩
  rcases hu : anyChg U r.ver r.deps d.pl with ⟨x | t, s'⟩
  · rw [hu] at hpl hp
    obtain rfl := hp
    have Hf := Lib.hid hu
    have Hpl := Lib.hid hpl
    clear hu hpl
    go_wp2
    exact ⟨rfl, d2, hn, by rw [Hf.out, Hpl.out], by rw [Hf.out]⟩
  · rw [hu] at hpl hp
    obtain ⟨z, rfl, hz⟩ := hp
    have Hf := Lib.hid hu
    have Hn := Lib.hid hn
    have Hpl := Lib.hid hpl
    clear hu hn hpl
    go_wp2
    go_ret
    exact ⟨d2, Hn.out, by rw [Hf.out, Hpl.out], by rw [Hf.out]; rfl⟩
end
end Go.Proofs.Ytdeodcomlakpaaa
