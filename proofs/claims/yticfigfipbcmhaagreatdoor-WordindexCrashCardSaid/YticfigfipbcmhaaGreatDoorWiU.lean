/- The document's named: the walk. -/
import Derived.Test.YticfigfipbcmhaaGreatDoorWiT
namespace Go.Proofs.YticfigfipbcmhaaGreatDoor
open Go.RowKit Go.ChangeMaps Go.MapKept Go.Shelf
set_option linter.unusedVariables false
set_option linter.unusedSimpArgs false
theorem step_append_run {P : Program} {ops : Array Oper} {o : Oper} {a : Act} {w : World} {K : Act → World → Prop} {Q : Exit → Act → World → Prop} {E : Prop} (hgd : o.guard = none) (s x : Operand) (t : TypeId)
    (ho : o.op = .call { callee := .builtin .append, args := #[s, x], argTypes := #[t, t] }) (v vx v' : Value) (w' : World) (hs : a.eval s = v) (hx : a.eval x = vx)
    (hr : (Builtin.append_ #[t, t] o.type #[v, vx]).run P w = .ok v' w') (h : K (a.put o.dst v') w') : if Region.wanted o (yielded ops a.tmps) = true then Oper.wp P o a w K Q else E := by
  have hw : Region.wanted o (yielded ops a.tmps) = true := by simp [Region.wanted, hgd]
  rw [if_pos hw]
  unfold Oper.wp execOp
  simp only [ho, resolve, invoke, builtin, Sem.run_bind, Sem.run_pure, Result.andThen_ok, List.map_toArray, List.map_cons, List.map_nil, hs, hx, hr]
  exact h
def cut (n : Nat) (s : ByteArray) : ByteArray := s.extract 0 (min s.size n)
def docAt (T : List ByteArray) (i : Nat) : Dc := (⟨#[109]⟩ ++ dec i, 0, cut 120 (T.getD i ⟨#[]⟩))
def namedD (T : List ByteArray) (n : Nat) : List Dc := (List.range n).map (docAt T)
theorem namedD_succ (T : List ByteArray) (n : Nat) : namedD T (n + 1) = namedD T n ++ [docAt T n] := by
  unfold namedD
  rw [List.range_succ, List.map_append]
  rfl
theorem namedD_len (T : List ByteArray) (n : Nat) : (namedD T n).length = n := by simp [namedD]
theorem namedD_ok (T : List ByteArray) (n : Nat) (hn : n ≤ 5) : DcOk (namedD T n) := by
  refine ⟨by rw [namedD_len]; omega, fun d hd => ?_, ?_⟩
  · obtain ⟨i, hi, rfl⟩ := List.mem_map.1 hd
    have hi5 : i < 5 := by have := List.mem_range.1 hi; omega
    have hs : (docAt T i).1.size = 2 := by
      show ((⟨#[109]⟩ : ByteArray) ++ dec i).size = 2
      have : ∀ i, i < 5 → ((⟨#[109]⟩ : ByteArray) ++ dec i).size = 2 := by decide
      exact this i hi5
    refine ⟨by omega, by omega, ?_⟩
    show (cut 120 _).size ≤ 2000
    unfold cut
    rw [ByteArray.size_extract]
    omega
  · unfold namedD
    rw [List.map_map]
    have h5 : ((List.range 5).map ((·.1) ∘ docAt T)).Nodup := by
      have e : (List.range 5).map ((·.1) ∘ docAt T) = [⟨#[109, 48]⟩, ⟨#[109, 49]⟩, ⟨#[109, 50]⟩, ⟨#[109, 51]⟩, ⟨#[109, 52]⟩] := rfl
      rw [e]
      decide
    have hs : (List.range n).Sublist (List.range 5) := List.range_sublist.2 hn
    exact h5.sublist (hs.map _)
def NaPost (T : List ByteArray) (w : World) (e : Ending) (w' : World) : Prop := ∃ a c D, D = namedD T (min T.length 5) ∧ e = .returned (.slice a D.length c) ∧ OwnD w' w.heap.size (.slice a D.length c) D ∧ Chg [] w w'
set_option maxRecDepth 100000 in
set_option maxHeartbeats 4000000 in
theorem named_any (p : Nat → Prop) (w : World) (v : Value) (T : List ByteArray) (h : StrsP p w v T) :
    Calls Tryz.prog 5 #[v] w (NaPost T w) := by
  obtain ⟨a0, c0, rfl, hml, hcp⟩ := h.shape
  have H := Lib.hid h
  unfold maxLen at hml
  clear h
  obtain ⟨m, hm⟩ : ∃ m : Nat, min (T.length : Int) 5 = m := ⟨(min (T.length : Int) 5).toNat, by omega⟩
  have hm5 : m ≤ 5 := by omega
  have hmT : m ≤ T.length := by omega
  have Hm := Lib.hid (show min T.length 5 = m by omega)
  go_enter Tryz.func5, Tryz.ntmps5
  go_wp2_with fail
  go_loopw [3, 8] (fun v5 i wr => ∃ (k : Nat) (D : List Dc) (a5 : Option Addr) (c5 : Nat), k ≤ m ∧ i = .int .i64 (k : Nat) ∧ v5 = .slice a5 D.length c5 ∧ Hid (OwnD wr w.heap.size v5 D ∧ Chg [] w wr) ∧ Hid (D = namedD T k)) (fun _ i _ => m - (intOf i).toNat)
  case atStart => exact ⟨0, [], none, 0, by omega, rfl, rfl, Lib.hid ⟨OwnD.nil _ _, Chg.refl _ _⟩, Lib.hid rfl⟩
  case round =>
    obtain ⟨k, D, a5, c5, hk, rfl, rfl, HO, HD⟩ := hrel
    by_cases hlt : k < m
    · have hkT : k < T.length := by omega
      obtain ⟨g, off, rfl, _, q0⟩ := (H.out.same HO.out.2).cell k hkT
      obtain ⟨x, hx⟩ : ∃ x, T.getD k ⟨#[]⟩ = x := ⟨_, rfl⟩
      rw [hx] at q0
      have hk1 : (k : Int) < m := by omega
      have hk2 : (k : Int) < T.length := by omega
      have hk0 : (0 : Int) ≤ (k : Int) := by omega
      obtain ⟨tn, htn⟩ : ∃ tn : Nat, min (x.size : Int) 120 = tn := ⟨(min (x.size : Int) 120).toNat, by omega⟩
      have htl : tn ≤ x.size := by omega
      have htl' : (tn : Int) ≤ x.size := by omega
      obtain ⟨X, hX⟩ : ∃ T0, x.extract 0 tn = T0 := ⟨_, rfl⟩
      have Hdoc := Lib.hid (show docAt T k = (⟨#[109]⟩ ++ dec k, 0, X) by
        unfold docAt cut
        rw [hx, show min x.size 120 = tn by omega, hX])
      have lg := lt_of_cell q0
      have Hdc := Lib.hid (fun W => decimal_any k W (by omega))
      obtain ⟨dk, hdk⟩ : ∃ d, dec k = d := ⟨_, rfl⟩
      rw [hdk] at Hdoc Hdc
      have hds : dk.size = 1 := by
        rw [← hdk]
        have : ∀ i, i < 5 → (dec i).size = 1 := by decide
        exact this k (by omega)
      obtain ⟨wd, hwd⟩ : ∃ q, q = wr.drew := ⟨_, rfl⟩
      have hcd : Chg [] wr wd := by rw [hwd]; exact (Chg.refl [] _).drew
      obtain ⟨w2, hw2⟩ : ∃ q, q = wd.alloc (.cells #[.string (⟨#[109]⟩ ++ dk), .int .i64 0, .string X] 34) := ⟨_, rfl⟩
      obtain ⟨n2, hn2⟩ : ∃ q, q = wr.heap.size := ⟨_, rfl⟩
      have hc2 : Chg [] wd w2 := by rw [hw2]; exact (Chg.refl [] _).alloc _
      have hb2 : w2.heap[n2]? = some (.cells #[.string ((⟨#[109]⟩ ++ dk, 0, X) : Dc).1, .int .i64 ((⟨#[109]⟩ ++ dk, 0, X) : Dc).2.1, .string ((⟨#[109]⟩ ++ dk, 0, X) : Dc).2.2] 34 (0, 0)) := by rw [hw2, hn2]; exact heap_at _ _ _ (by rw [hwd]; rfl)
      have hDl : D.length = k := by rw [HD.out, namedD_len]
      have ho2 := HO.out.1.same (hcd.trans hc2)
      have hcw2 := HO.out.2.trans (hcd.trans hc2)
      obtain ⟨v7, w7, hr7, ho7, hc7⟩ := run_append_doc w2 24 w.heap.size _ D _ n2 ho2 hb2 (by omega) hcw2.size
      obtain ⟨a7, c7, rfl⟩ := ownsRow_shape ho7
      have hOl : (D ++ [((⟨#[109]⟩ ++ dk, 0, X) : Dc)]).length = D.length + 1 := by simp
      rw [hOl] at hr7
      have H7 := Lib.hid (show OwnD w7 w.heap.size (.slice a7 (D.length + 1) c7) (D ++ [((⟨#[109]⟩ ++ dk, 0, X) : Dc)]) ∧ Chg [] w w7 from ⟨by rw [← hOl]; exact ho7, hcw2.comp hc7 fun g hg => Or.inr (ho2.lt g (by simpa using hg)).1⟩)
      rw [hw2, hn2, hwd] at hr7
      have Hr7 := Lib.hid hr7
      have HW2 := Lib.hid (And.intro hw2 hn2)
      have Hwd := Lib.hid hwd
      have HOl := Lib.hid hOl
      have q1 : wd.cell? ⟨g, off + k, none⟩ = some (.string x) := (hcd.cell lg (by simp)).trans q0
      have l1 := lt_of_cell q1
      clear hx hdk ho2 hcw2 hw2 hn2 hc2 hb2 hr7 ho7 hc7 hOl hDl hcd hwd
      go_upto_region 5 with (fail)
      go_region_law (first
        | (rw [if_pos (by simp [Region.wanted])]; go_simp; go_at_call 14; refine (Hdc.out _).mono ?_; rintro e w9 ⟨rfl, rfl⟩)
        | (refine step_append_run rfl _ _ _ rfl _ _ _ _ rfl rfl Hr7.out ?_))
      all_goals
        try simp only [List.getElem_toArray, List.getElem_cons_zero, List.getElem_cons_succ]
        go_wp2_with fail
        exact ⟨⟨k + 1, _, a7, c7, by omega, by go_num, by rw [HOl.out], H7, Lib.hid (by rw [namedD_succ, HD.out, Hdoc.out])⟩, by simp [intOf]; omega⟩
    · have hk1 : ¬ ((k : Int) < m) := by omega
      have hkm : k = m := by omega
      have HDm := Lib.hid (show D = namedD T (min T.length 5) by rw [HD.out, Hm.out, hkm])
      clear hkm
      go_wp2_with fail
      go_ret
      exact ⟨a5, c5, D, HDm.out, rfl, HO.out.1, HO.out.2⟩
end Go.Proofs.YticfigfipbcmhaaGreatDoor
