/- The contract of the inputs store's Fork. -/
import Derived.Test.YtdeodcomlakpaaaMiD
import Derived.Laws.Externs
namespace Go.Proofs.Ytdeodcomlakpaaa.Inp
open Go.RowKit Go.ChangeMaps Go.MapKept
section
variable {P : Program} (w : World)
theorem run_equalIn_map_nil' (d : Nat) (t k e : TypeId) (p : Option Nat) (h : P.underlying t = some (.map k e)) : (Op.equalIn (d + 1) t (.map p) (.map none)).run P w = .ok p.isNone w := by
  cases p <;> simp [Op.equalIn, run_underlying h]
theorem run_eql_map_nil' (t k e : TypeId) (p : Option Nat) (h : P.underlying t = some (.map k e)) : (binOp .eql t (.map p) (.map none)).run P w = .ok (.bool p.isNone) w := by
  simp only [binOp]
  simp [show Op.equal t (.map p) (.map none) = Op.equalIn (9999 + 1) t (.map p) (.map none) from rfl, run_equalIn_map_nil' w 9999 t k e p h]
theorem run_typeAssert_map' (t xT k e : TypeId) (v : Value) (h : P.underlying t = some (.map k e)) : (Instr.typeAssert (.iface t v) xT t false).run P w = .ok v w := by
  simp [Instr.typeAssert, run_underlying h, go_sem, Result.andThen]
theorem run_maps_clone' {r : Nat} {es : Array MapEntry} {clock : Nat} (t : TypeId) (hb : w.heap[r]? = some (.map es clock)) :
    (Extern.MapsClone.clone #[.iface t (.map (some r))]).run P w = .ok (.iface t (.map (some w.heap.size))) (w.alloc (.map es clock)) := by
  have e : Extern.MapsClone.clone #[.iface t (.map (some r))] = (getObj r >>= fun o => match o with
      | .map entries clock => (newObj (.map entries clock) >>= fun n => pure (.iface t (.map (some n))))
      | _ => stuck "maps.clone: a map expected") := rfl
  rw [e]
  simp [MapKept.run_getObj_map hb, Result.andThen, go_sem]
end
set_option maxHeartbeats 1000000 in
set_option maxRecDepth 100000 in
theorem mapsClone (b : Nat) (es : Array MapEntry) (clock : Nat) (w : World) (hb : w.heap[b]? = some (.map es clock)) :
    Calls Try.prog 98 #[.map (some b)] w fun e w' => e = .returned (.map (some w.heap.size)) ∧ w' = w.alloc (.map es clock) := by
  have hq := fun w => run_eql_map_nil' (P := Try.prog) w 131 _ _ (some b) Try.underlying131
  go_enter Try.func98, Try.ntmps98
  go_wp2
  rw [run_callFunc_extern Try.func111 (by kernel_rfl) (by kernel_rfl) (by kernel_rfl) (e := Extern.MapsClone.clone) (by kernel_rfl), run_maps_clone' w 131 hb]
  simp only [Result.andThen]
  rw [Oper.upon_value]
  go_wp2
  rw [run_typeAssert_map' _ 131 _ _ _ _ Try.underlying131]
  simp only [Result.andThen]
  rw [Oper.upon_value]
  go_wp2
  go_ret
  exact ⟨rfl, rfl⟩
theorem MapAt.cloned {P : Program} {K : Type} {kt : TypeId} {ek : K → Value} {w : World} {b : Nat} {es : List (K × Value)} (h : MapAt P kt ek w b es) : ∃ arr clock, w.heap[b]? = some (.map arr clock) ∧ MapAt P kt ek (w.alloc (.map arr clock)) w.heap.size es := by
  obtain ⟨arr, clock, h1, h2⟩ := h
  exact ⟨arr, clock, h1, arr, clock, heap_alloc_new w _, h2⟩
set_option maxHeartbeats 1000000 in
/-- the fork: a new store with the same contents, the old one as it was -/
theorem fork_any (b bm : Nat) (S : St) (w : World) (h : StoreIs w b bm S) :
    Calls Try.prog 76 #[.pointer (some ⟨b, 0, none⟩)] w fun e w' => e = .returned (.pointer (some ⟨w.heap.size + 1, 0, none⟩)) ∧ StoreIs w' (w.heap.size + 1) w.heap.size S ∧ Chg [] w w' := by
  obtain ⟨arr, clock, hm, hcl⟩ := (MapAt.cloned h.map)
  have h0 := cell_of_heap h.blk (i := 0) rfl
  have h1 := cell_of_heap h.blk (i := 1) rfl
  have h2 := cell_of_heap h.blk (i := 2) rfl
  have h3 := cell_of_heap h.blk (i := 3) rfl
  have h4 := cell_of_heap h.blk (i := 4) rfl
  have hb := lt_of_obj h.blk
  have Hs := Lib.hid h
  have Hm := Lib.hid hm
  have Hcl := Lib.hid hcl
  clear h hm hcl
  go_enter Try.func76, Try.ntmps76
  go_wp2
  go_region_held3 (fun w' => w'.cell? ⟨b, 0, none⟩ = some (.int .i64 S.rev) ∧ w'.cell? ⟨b, 1, none⟩ = some (.int .i64 S.l0) ∧ w'.cell? ⟨b, 2, none⟩ = some (.int .i64 S.l1) ∧ w'.cell? ⟨b, 3, none⟩ = some (.int .i64 S.l2) ∧ w'.cell? ⟨b, 4, none⟩ = some (.map (some bm)))
    (first | (go_keep; done) | (refine ⟨?_, ?_, ?_, ?_, ?_⟩ <;> (simp [go_sem, *]; done)))
    ((go_at_call 98; refine (mapsClone bm arr clock _ (by exact Hm.out)).mono ?_; rintro e w1 ⟨rfl, rfl⟩))
  go_wp2
  go_ret
  have hc : Chg [] w ((w.alloc (.map arr clock)).alloc (.cells #[.int .i64 S.rev, .int .i64 S.l0, .int .i64 S.l1, .int .i64 S.l2, .map (some w.heap.size)] 134)).drew := (((Chg.refl [] w).alloc _).alloc _).drew
  refine ⟨rfl, ⟨heap_at _ _ _ (by simp), ?_, fun p hp => (Hs.out.vals p hp).kept hc (by simp)⟩, hc⟩
  exact Hcl.out.kept (((Chg.refl [] _).alloc _).drew) (by simp)
end Go.Proofs.Ytdeodcomlakpaaa.Inp
