/- Room.Edit: refused edits. -/
import Derived.Test.YtihpcpcfccamoaaDocK
namespace Go.Proofs.Ytihpcpcfccamoaa
open Go.RowKit
set_option linter.unusedVariables false
set_option linter.unusedSimpArgs false
variable {B : Nat} {P q : Nat → Prop} {w w2 : World} {rb db dc pb : Nat} {dcs : Array Value} {cv hv rv : Value} {hvs : List Value} {nm : ByteArray} {cl : List Int} {ver : Int} {text : ByteArray} {hist : List (List Edit)} {rd : List Int}
set_option maxRecDepth 100000 in
set_option maxHeartbeats 4000000 in
theorem edit_stale (h : RoomAt B P w rb nm cl ver text hist rd) (c vv : Int) (ev : Value) (hc : c ∈ cl) (hr : c ∈ rd) (hv : vv ≠ ver) :
    Calls Try.prog 12 #[.pointer (some ⟨rb, 0, none⟩), .int .i64 c, .string nm, .int .i64 vv, ev] w fun e w' => e = .returned (.tuple #[.slice none 0 0, .int .i64 11]) ∧ Chg [] w w' := by
  obtain ⟨q, db, dc, pb, dcs, cv, hv', rv, hvs, h⟩ := h
  have H := Lib.hid h
  have hvb : (vv == ver) = false := by simpa using hv
  clear h
  go_enter Try.func12, Try.ntmps12
  go_wp2_with fail
  refine (opened_any H.out c hc hr).mono ?_
  rintro e w1 ⟨rfl, c1⟩
  obtain ⟨x0, x1, x2, x3, x4⟩ := (H.out.same c1).dcells
  go_wp2_with fail
  go_ret2
  exact ⟨rfl, c1⟩
set_option maxRecDepth 100000 in
set_option maxHeartbeats 4000000 in
theorem edit_no (h : RoomAt B P w rb nm cl ver text hist rd) (p : Nat → Prop) (c : Int) (v : Value) (E : List Edit) (hc : c ∈ cl) (hr : c ∈ rd) (hE : Eds p w v E) (hF : Fits E) (h0 : 0 ≤ ver ∧ ver ≤ 9223372036854775807) (hn : docNext ver text E ≠ 0) :
    Calls Try.prog 12 #[.pointer (some ⟨rb, 0, none⟩), .int .i64 c, .string nm, .int .i64 ver, v] w fun e w' => e = .returned (.tuple #[.slice none 0 0, .int .i64 (docNext ver text E)]) ∧ Chg [] w w' := by
  obtain ⟨q, db, dc, pb, dcs, cv, hv', rv, hvs, h⟩ := h
  obtain ⟨a, cap, rfl, _, _⟩ := hE.shape
  have H := Lib.hid h
  have HE := Lib.hid hE
  have hno := fun W hW => docApply_no p nm ver text (.slice a E.length cap) E W hW hF h0 hn
  obtain ⟨z, hz⟩ : ∃ z, docNext ver text E = z := ⟨_, rfl⟩
  rw [hz] at hn hno ⊢
  have Hno := Lib.hid hno
  have hnb : (z == 0) = false := by simpa using hn
  have hvb : (ver == ver) = true := by simp
  clear h hE hno hz
  go_enter Try.func12, Try.ntmps12
  go_wp2_with fail
  refine (opened_any H.out c hc hr).mono ?_
  rintro e w1 ⟨rfl, c1⟩
  obtain ⟨x0, x1, x2, x3, x4⟩ := (H.out.same c1).dcells
  have C1 := Lib.hid c1
  clear c1
  go_wp2_with fail
  refine (Hno.out w1 (HE.out.same C1.out)).mono ?_
  rintro e w2 ⟨rfl, c2⟩
  have C2 := Lib.hid (C1.out.trans c2)
  clear c2
  go_wp2_with fail
  go_ret2
  exact ⟨rfl, C2.out.alloc _⟩
end Go.Proofs.Ytihpcpcfccamoaa
