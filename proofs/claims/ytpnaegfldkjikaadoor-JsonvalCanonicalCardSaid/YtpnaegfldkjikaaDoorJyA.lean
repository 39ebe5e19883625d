/- JSON texts, any text: hex4 where the text ends too soon. -/
import Derived.Test.YtpnaegfldkjikaaDoorJvY
namespace Go.Proofs.YtpnaegfldkjikaaDoor.Jv
open Go.RowKit Go.ChangeMaps Go.MapKept
set_option linter.unusedVariables false
set_option linter.unusedSimpArgs false
set_option maxRecDepth 100000 in
set_option maxHeartbeats 4000000 in
theorem hex4_short (db : Nat) (s : ByteArray) (o : Nat) (w : World) (h : DS w db s o) (ho : s.size < o + 4) (hos : o ≤ s.size) (hs : s.size ≤ 100000) :
    Calls Tryd.prog 70 #[.pointer (some ⟨db, 0, none⟩)] w fun e w' => e = .panicked sx ∧ DS w' db s o ∧ Chg [] w w' := by
  have H := Lib.hid h
  have hf : decide ((o : Int) + 4 ≤ s.size) = false := decide_eq_false (by omega)
  clear h
  go_enter Tryd.func70, Tryd.ntmps70
  go_upto_region 1 with fail
  refine wp_region_readsQ 12 (by kernel_rfl) (by kernel_rfl) ?_
  intro wd hwd
  simp only [List.take_succ_cons, List.take_zero, List.drop_succ_cons, List.drop_zero]
  have hcd : Chg [] w wd := by rw [hwd]; exact (Chg.refl [] w).drew
  have Hd := Lib.hid (And.intro (H.out.new hcd) hcd)
  have c0 := Hd.out.1.c0
  have c1 := Hd.out.1.c1
  have lb := lt_of_cell c0
  clear hwd hcd
  repeat go_big_quiet_step (fail)
  refine wpQuiet_nil ?_
  go_wp2_with fail
  refine (expect_any db false wd).mono ?_
  rintro e w2 ⟨rfl, rfl⟩
  go_wp2_with fail
  exact ⟨rfl, rfl, Hd.out.1, Hd.out.2⟩
/-- the variables that hold the two errors -/
def Er (w : World) : Prop := ∃ a b, w.cell? ⟨4, 0, none⟩ = some a ∧ w.cell? ⟨5, 0, none⟩ = some b ∧ (a = .nilIface ∨ ∃ te pe, a = .iface te pe) ∧ (b = .nilIface ∨ ∃ te pe, b = .iface te pe)
theorem Er.new {w w' : World} (h : Er w) (hc : Chg [] w w') : Er w' := by
  obtain ⟨a, b, h1, h2, h3⟩ := h
  exact ⟨a, b, (hc.cell (lt_of_cell h1) (by simp)).trans h1, (hc.cell (lt_of_cell h2) (by simp)).trans h2, h3⟩
theorem eq_syn (w : World) : (binOp .eql 64 (.iface 100 (.int .i64 2)) (.iface 100 (.int .i64 2))).run Tryd.prog w = .ok (.bool true) w := by
  first
    | kernel_rfl
    | rfl
    | (go_simp; done)
    | (simp [binOp, equal, run_underlying Tryd.underlying100]; done)
set_option maxRecDepth 100000 in
set_option maxHeartbeats 4000000 in
theorem toErr_syn (fn t : ByteArray) (ht : t.size ≤ 100000) (x y : Int) (w : World) (hE : Er w) :
    Calls Tryd.prog 63 #[.string fn, .string t, .int .i64 x, .int .i64 y, .iface 100 (.int .i64 2)] w fun e w' => (∃ a b, e = .returned (.iface a b)) ∧ Chg [] w w' := by
  obtain ⟨ea, eb, h1, _, h3, _⟩ := hE
  have H := Lib.hid (Tryd.strconv_syntaxError fn t ea w (by omega) h1 h3)
  have hq := eq_syn
  clear h1 h3
  go_enter Tryd.func63, Tryd.ntmps63
  go_wp2_with fail
  refine H.out.mono ?_
  rintro e w' ⟨N, rfl, _, _, hb⟩
  have Hb := Lib.hid (Chg.of_below hb)
  clear hb
  go_wp2_with fail
  go_ret
  exact ⟨⟨_, _, rfl⟩, Hb.out⟩
set_option maxHeartbeats 4000000 in
set_option maxRecDepth 100000 in
theorem parse16_bad (t : ByteArray) (ht : t.size = 4) (h : hexF 0 t.data.toList = none) (w : World) (hE : Er w) :
    Calls Tryd.prog 82 #[.string t, .int .i64 16, .int .i64 32] w fun e w' => (∃ x a b, e = .returned (.tuple #[x, .iface a b])) ∧ Chg [] w w' := by
  have H := Lib.hid (puint16 t ht w)
  go_enter Tryd.func82, Tryd.ntmps82
  go_wp2_with fail
  refine H.out.mono ?_
  rintro e w' ⟨rfl, rfl⟩
  rw [h]
  unfold hexTup
  simp only
  go_wp2_with fail
  refine (toErr_syn _ t (by omega) 16 32 _ (hE.new (bytesWorld_chg w t))).mono ?_
  rintro e w2 ⟨⟨a, b, rfl⟩, hc⟩
  have Hc := Lib.hid ((bytesWorld_chg w t).trans hc)
  clear hc
  go_wp2_with fail
  go_ret2
  exact ⟨⟨_, _, _, rfl⟩, Hc.out⟩
end Go.Proofs.YtpnaegfldkjikaaDoor.Jv
