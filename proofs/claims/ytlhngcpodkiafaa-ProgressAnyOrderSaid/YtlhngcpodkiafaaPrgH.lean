/- The assembler's bounds. -/
import Derived.Test.YtlhngcpodkiafaaPrgG
import Derived.Deep.DeepCutAuto
namespace Go.Proofs.Ytlhngcpodkiafaa
open Go.RowKit Go.ChangeMaps
set_option linter.unusedVariables false
def BdPost (es : List CE) (w : World) (e : Ending) (w' : World) : Prop := ∃ f l, e = .returned (.tuple #[.int .i64 f, .int .i64 l]) ∧ Bd es f l ∧ Chg [] w w'
def BdLoop (bi r : Nat) (tok : Int) (es : List CE) (w : World) (f l : Int) (wr : World) : Prop :=
  ∃ restv rest, RangeAt Try.prog 3 ik wr bi r (cvals tok es) restv ∧ restv.Perm (cvals tok rest) ∧ (∀ p ∈ rest, p ∈ es) ∧ BdRel es rest f l ∧ Chg [] w wr
theorem perm_cvals {tok q : Int} {v : Value} {rest : List CE} {rest' : List (Int × Value)} (h : (cvals tok rest).Perm ((q, v) :: rest')) : ∃ c rest2, v = c.val tok q ∧ rest'.Perm (cvals tok rest2) ∧ rest.Perm ((q, c) :: rest2) := by
  obtain ⟨p, hp, hpe⟩ := List.mem_map.1 (h.mem_iff.2 (List.mem_cons_self ..))
  obtain ⟨q', c⟩ := p
  simp only [Prod.mk.injEq] at hpe
  obtain ⟨rfl, rfl⟩ := hpe
  obtain ⟨r1, r2, rfl⟩ := List.append_of_mem hp
  have h1 : (r1 ++ (q', c) :: r2).Perm ((q', c) :: (r1 ++ r2)) := List.perm_middle
  have h2 : (cvals tok (r1 ++ (q', c) :: r2)).Perm ((q', c.val tok q') :: cvals tok (r1 ++ r2)) := h1.map _
  exact ⟨c, r1 ++ r2, rfl, (h.symm.trans h2).cons_inv, h1⟩
set_option maxRecDepth 100000 in
set_option maxHeartbeats 1000000 in
theorem bounds_any (pa bo : Nat) (tok : Int) (st : Option (Nat × List CE)) (w : World) (h : AsAt w pa bo tok st) (ht : In64 tok) (hq : ∀ p ∈ ste st, 0 ≤ p.1 ∧ p.1 < 1000) :
    Calls Try.prog 17 #[.pointer (some ⟨pa, 0, none⟩), .int .i64 tok] w (BdPost (ste st) w) := by
  have c0 : w.cell? ⟨pa, 0, none⟩ = some (.map (some bo)) := cell_of_heap h.blk rfl
  have hl := h.look ht
  cases st with
  | none =>
    have hr := run_range_nilMap (P := Try.prog) w 53 _ _ Try.underlying53
    have hn := fun ty => run_next_nilMap (P := Try.prog) w ty 0 0 #[]
    simp only [stv] at hl
    clear h hq
    go_enter Try.func17, Try.ntmps17
    go_wp2
    go_loopw [4, 5] (fun f l wr => f = .int .i64 (-1) ∧ l = .int .i64 (-1) ∧ wr = w.alloc (.mapIter none 0 #[] 0)) (fun _ _ _ => 0)
    case atStart => exact ⟨rfl, rfl, rfl⟩
    case round =>
      obtain ⟨rfl, rfl, rfl⟩ := hrel
      go_wp2
      go_ret2
      exact ⟨-1, -1, rfl, ⟨Or.inl ⟨rfl, by simp [ste]⟩, by simp [ste], Or.inl ⟨rfl, rfl⟩⟩, (Chg.refl [] w).alloc _⟩
  | some s =>
    obtain ⟨bi, es⟩ := s
    simp only [stv] at hl
    have hm := h.2.2.1
    obtain ⟨it, hr, hra⟩ := hm.range Try.underlying53
    have H := Lib.hid h
    have Hra := Lib.hid hra
    have Hq := Lib.hid hq
    have hbi := hm.lt
    clear h hra hq hm
    go_enter Try.func17, Try.ntmps17
    go_wp2
    go_loopw [4, 5] (fun f l wr => ∃ fz lz : Int, f = .int .i64 fz ∧ l = .int .i64 lz ∧ -1 ≤ lz ∧ lz < 1000 ∧ BdLoop bi w.heap.size tok es w fz lz wr) (fun _ _ wr => wr.rangeLeft bi w.heap.size)
    case atStart => exact ⟨-1, -1, rfl, rfl, by decide, by decide, _, es, Hra.out, List.Perm.refl _, fun _ h => h, BdRel.start es, (Chg.refl [] w).alloc _⟩
    case round =>
      obtain ⟨fz, lz, rfl, rfl, hl0, hl1, restv, rest, hrg, hpv, hsub, hbd, hch⟩ := hrel
      rcases hrg.next 0 with ⟨hnil, hrun⟩ | ⟨q, v, rest', w', hp, hrun, hrg', hcw, hsz, hcell, hfroz, hen⟩
      · have hr0 : rest = [] := by
          have h1 := hpv.length_eq
          rw [hnil] at h1
          exact List.eq_nil_of_length_eq_zero (by simpa [cvals] using h1.symm)
        rw [hr0] at hbd
        have hfin : BdPost es w (.returned (.tuple #[.int .i64 fz, .int .i64 lz])) wr := ⟨fz, lz, rfl, hbd.fin, hch⟩
        have Hfin := Lib.hid hfin
        clear hnil hfin hbd hch hrg hpv hr0
        go_wp2
        go_ret2
        exact Hfin.out
      · obtain ⟨c, rest2, rfl, hp2, hp3⟩ := perm_cvals (hpv.symm.trans hp)
        have hm : (q, c) ∈ es := hsub _ (hp3.mem_iff.2 (List.mem_cons_self ..))
        have hqb := Hq.out _ hm
        simp only at hqb
        have hbd2 := hbd.step hp3 hm hl0 hqb.1
        have hlen : rest'.length < restv.length := by have := hp.length_eq; simp at this; omega
        have hw' : Chg [] w w' := hch.comp hcw (by intro k hk; obtain rfl := List.mem_singleton.1 hk; exact Or.inr (Nat.le_refl _))
        have Hrg := Lib.hid (And.intro hrg hrg')
        have Hbd := Lib.hid (And.intro hbd2 (And.intro hp2 (fun p (hp : p ∈ rest2) => hsub p (hp3.mem_iff.2 (List.mem_cons_of_mem _ hp)))))
        have Hlen := Lib.hid hlen
        have Hw' := Lib.hid hw'
        unfold CQ.val ik at hrun hen
        obtain ⟨cl, ca, cc, cx⟩ := c
        simp only at hrun hen
        clear hp hcw hcell hfroz hbd hbd2 hch hrg hrg' hpv hp2 hp3 hsub hlen hw' hm
        by_cases hlq : lz ≤ q
        · have hmx : max lz q = q := by omega
          have Hmx := Lib.hid hmx
          clear hmx
          cases cl
          · skip
            go_wp2
            go_roundw
            case rel => exact ⟨fz, q, rfl, by congr 1; split <;> omega, by omega, by omega, rest', rest2, Hrg.out.2.kept (S := []) ((Chg.refl [] _).alloc _) (by simp) (by simp), Hbd.out.2.1, Hbd.out.2.2, by have := Hbd.out.1; simpa [Hmx.out] using this, Hw'.out.alloc _⟩
            case measure => rw [(Hrg.out.2.kept (S := []) ((Chg.refl [] _).alloc _) (by simp) (by simp)).left_eq, Hrg.out.1.left_eq]; exact Hlen.out
          · skip
            go_wp2
            go_roundw
            case rel => exact ⟨q, q, rfl, by congr 1; split <;> omega, by omega, by omega, rest', rest2, Hrg.out.2.kept (S := []) ((Chg.refl [] _).alloc _) (by simp) (by simp), Hbd.out.2.1, Hbd.out.2.2, by have := Hbd.out.1; simpa [Hmx.out] using this, Hw'.out.alloc _⟩
            case measure => rw [(Hrg.out.2.kept (S := []) ((Chg.refl [] _).alloc _) (by simp) (by simp)).left_eq, Hrg.out.1.left_eq]; exact Hlen.out
        · have hmx : max lz q = lz := by omega
          have Hmx := Lib.hid hmx
          clear hmx
          cases cl
          · skip
            go_wp2
            go_roundw
            case rel => exact ⟨fz, lz, rfl, by congr 1; split <;> omega, by omega, by omega, rest', rest2, Hrg.out.2.kept (S := []) ((Chg.refl [] _).alloc _) (by simp) (by simp), Hbd.out.2.1, Hbd.out.2.2, by have := Hbd.out.1; simpa [Hmx.out] using this, Hw'.out.alloc _⟩
            case measure => rw [(Hrg.out.2.kept (S := []) ((Chg.refl [] _).alloc _) (by simp) (by simp)).left_eq, Hrg.out.1.left_eq]; exact Hlen.out
          · skip
            go_wp2
            go_roundw
            case rel => exact ⟨q, lz, rfl, by congr 1; split <;> omega, by omega, by omega, rest', rest2, Hrg.out.2.kept (S := []) ((Chg.refl [] _).alloc _) (by simp) (by simp), Hbd.out.2.1, Hbd.out.2.2, by have := Hbd.out.1; simpa [Hmx.out] using this, Hw'.out.alloc _⟩
            case measure => rw [(Hrg.out.2.kept (S := []) ((Chg.refl [] _).alloc _) (by simp) (by simp)).left_eq, Hrg.out.1.left_eq]; exact Hlen.out
end Go.Proofs.Ytlhngcpodkiafaa
