/- timed: events whose times increase and whose kinds are valid. -/
import Derived.Test.YtdekngkcojfhmaaFwS
import Derived.Test.YtdekngkcojfhmaaStep
namespace Go.Proofs.Ytdekngkcojfhmaa
open Go.RowKit Go.ChangeMaps Go.MapKept Go.Shelf
set_option linter.unusedVariables false
set_option linter.unusedSimpArgs false
/-- what timed returns: times up to 'now' -/
structure TimOk (E : List FEv) (now : Int) : Prop where
  len : E.length ≤ 40
  kind : ∀ e ∈ E, 1 ≤ e.2.2 ∧ e.2.2 ≤ 3
  time : ∀ e ∈ E, 0 ≤ e.1 ∧ e.1 ≤ now
  ord : E.Pairwise fun a b => a.1 ≤ b.1
  path : ∀ e ∈ E, e.2.1.size ≤ maxLen
theorem TimOk.ok {E : List FEv} {now : Int} (h : TimOk E now) (hn : now ≤ 1000000) : EvOk E :=
  ⟨by have := h.len; omega, fun e he => by have := h.kind e he; unfold vk; simp; omega, fun e he => by have := h.time e he; omega, h.ord, h.path⟩
theorem TimOk.snoc {E : List FEv} {now t k : Int} {pa : ByteArray} (h : TimOk E now) (hn : now ≤ t) (h0 : 0 ≤ t) (hl : E.length < 40) (hk : 1 ≤ k ∧ k ≤ 3) (hp : pa.size ≤ maxLen) : TimOk (E ++ [(t, pa, k)]) t := by
  refine ⟨by simp; omega, fun e he => ?_, fun e he => ?_, ?_, fun e he => ?_⟩
  · rcases List.mem_append.1 he with he | he
    · exact h.kind e he
    · rw [List.mem_singleton.1 he]; exact hk
  · rcases List.mem_append.1 he with he | he
    · have := h.time e he; omega
    · rw [List.mem_singleton.1 he]; exact ⟨h0, Int.le_refl _⟩
  · rw [List.pairwise_append]
    refine ⟨h.ord, by simp, fun a ha b hb => ?_⟩
    rw [List.mem_singleton.1 hb]
    have := h.time a ha
    show a.1 ≤ t
    omega
  · rcases List.mem_append.1 he with he | he
    · exact h.path e he
    · rw [List.mem_singleton.1 he]; exact hp
theorem own_chgD {w w1 : World} {v : Value} {base k size : Nat} {e : TypeId} {cs : List Value} (hv : w.ownsRow base e size v k cs) (hg : w.drew.grownBy w1 v.ownBlock) : Chg v.ownBlock.toList w w1 ∧ ∀ g ∈ v.ownBlock.toList, base ≤ g := by
  have h := own_chg (ownsRow_kept (w' := w.drew) hv fun _ _ _ => rfl) hg
  exact ⟨((Chg.refl _ w).drew).trans h.1, h.2⟩
def TimPost (w : World) (e : Ending) (w' : World) : Prop := ∃ v E, e = .returned v ∧ OwnEv w' w.heap.size v E ∧ TimOk E 2000 ∧ Chg [] w w'
set_option maxRecDepth 100000 in
set_option maxHeartbeats 8000000 in
theorem timed_any (p : Nat → Prop) (w : World) (v : Value) (E0 : List FEv) (h : EvsP p w v E0) (hpa : ∀ e ∈ E0, e.2.1.size ≤ maxLen) : Calls Try.prog 7 #[v] w (TimPost w) := by
  obtain ⟨a, cap, rfl, hml, hcp⟩ := h.shape
  have H := Lib.hid h
  have Hpa := Lib.hid hpa
  obtain ⟨i0, hi, hz0, hz1, hz2⟩ := info_parts Try.infoEv
  have Hi0 := Lib.hid hi
  have Hz0 := Lib.hid hz0
  have Hz1 := Lib.hid hz1
  have Hz2 := Lib.hid hz2
  obtain ⟨m, hm⟩ : ∃ m, m = min E0.length 40 := ⟨_, rfl⟩
  have hm1 : m ≤ E0.length := by omega
  have hm2 : m ≤ 40 := by omega
  have hmi : min (E0.length : Int) 40 = (m : Int) := by omega
  have Hm := Lib.hid hm
  unfold maxLen at hml
  clear h hpa hi hz0 hz1 hz2 hm
  go_enter Try.func7, Try.ntmps7
  go_wp2_with fail
  go_loopw [13, 3, 4] (fun jj rv nv wr => ∃ (k : Nat) (acc : List FEv) (now : Int), k ≤ m ∧ jj = .int .i64 (k : Nat) ∧ nv = .int .i64 now ∧ 0 ≤ now ∧ now ≤ 50 * k ∧ acc.length ≤ k ∧ Hid (TimOk acc now) ∧ OwnEv wr w.heap.size rv acc ∧ Chg [] w wr) (fun jj _ _ _ => m - (intOf jj).toNat)
  case atStart => exact ⟨0, [], 0, by omega, rfl, rfl, by omega, by omega, by simp, Lib.hid ⟨by simp, by simp, by simp, by simp, by simp⟩, OwnEv.nil _ _, Chg.refl _ _⟩
  case round =>
    obtain ⟨k, acc, now, hk, rfl, rfl, hn0, hn1, hal, HT, how, hc⟩ := hrel
    by_cases hlt : k < m
    · have hk1 : (k : Int) < m := by omega
      obtain ⟨g, off, rfl, hp, c0, c1, c2⟩ := (H.out.same hc).cells k (by omega)
      have hpa := Hpa.out _ (getD_memE (show k < E0.length by omega))
      obtain ⟨⟨t, pa, kd⟩, hr⟩ : ∃ r, E0.getD k ev0 = r := ⟨_, rfl⟩
      rw [hr] at c0 c1 c2 hpa
      simp only at c0 c1 c2 hpa
      obtain ⟨ma, hma⟩ : ∃ x, modI t 50 = x := ⟨_, rfl⟩
      have hma1 := modI_bd t 50 (by omega)
      obtain ⟨mb, hmb⟩ : ∃ x, modI (IntKind.i64.wrap (kd - 1)) 3 = x := ⟨_, rfl⟩
      have hmb1 := modI_bd (IntKind.i64.wrap (kd - 1)) 3 (by omega)
      rw [hma] at hma1
      rw [hmb] at hmb1
      have hwr : IntKind.i64.wrap (now + ma) = now + ma := IntWalk.i64_in _ (by omega)
      have hwr2 : IntKind.i64.wrap (1 + mb) = 1 + mb := IntWalk.i64_in _ (by omega)
      have Hma := Lib.hid (show ∀ W, Calls Try.prog 8 #[.int .i64 t, .int .i64 50] W fun e w' => e = .returned (.int .i64 ma) ∧ w' = W from fun W => by
        refine (mod_any t 50 W (by omega) (by omega)).mono ?_
        rintro e w' ⟨rfl, rfl⟩
        exact ⟨by rw [hma], rfl⟩)
      have Hmb := Lib.hid (show ∀ W, Calls Try.prog 8 #[.int .i64 (IntKind.i64.wrap (kd - 1)), .int .i64 3] W fun e w' => e = .returned (.int .i64 mb) ∧ w' = W from fun W => by
        refine (mod_any _ 3 W (by omega) (by omega)).mono ?_
        rintro e w' ⟨rfl, rfl⟩
        exact ⟨by rw [hmb], rfl⟩)
      have HN := Lib.hid (And.intro how hc)
      have Hmab := Lib.hid (And.intro hma1 (And.intro hmb1 hpa))
      clear hma hmb hr how hc hpa
      go_wp2_with fail
      refine (Hma.out _).mono ?_
      rintro e w1 ⟨rfl, rfl⟩
      go_wp2_with fail
      go_region_law (first
        | (rw [if_pos (by simp [Region.wanted])]; go_simp; refine (Hmb.out _).mono ?_; rintro e wz ⟨rfl, rfl⟩)
        | (refine step_append_own rfl _ _ _ (by rfl) w.heap.size 33 i0 (.agg #[.int .i64 0, .string ⟨#[]⟩, .int .i64 0]) 3 32 Try.underlying22 Hi0.out Hz0.out Hz1.out Hz2.out rfl (by decide) u3 acc.length (evCells acc) (by rfl) (World.ownsRow.alloc (World.ownsRow.alloc HN.out.1 _) _) ⟨wr.heap.size + 1, 0, none⟩ 1 1 [.int .i64 (now + ma), .string pa, .int .i64 (1 + mb)] (by rfl) (by rfl) (news_of (heap_at _ _ _ (by simp))) (by simp [Value.oneCell']) (by unfold maxLen; omega) (by omega) (by have := HN.out.2.size; simp; omega) ?_; intro v8 w8 hown8 hgr8; have Hown8 := Lib.hid hown8; have Hgr8 := Lib.hid hgr8; clear hown8 hgr8))
      all_goals
        try simp only [List.getElem_toArray, List.getElem_cons_zero, List.getElem_cons_succ]
        go_wp2_with fail
        have hap := own_chgD (World.ownsRow.alloc (World.ownsRow.alloc HN.out.1 (.cells #[.int .i64 t, .string pa, .int .i64 kd] 33)) (.cells #[.int .i64 (now + ma), .string pa, .int .i64 (1 + mb)] 33)) Hgr8.out
        have hcw := (((Chg.refl [] wr).alloc (.cells #[.int .i64 t, .string pa, .int .i64 kd] 33))).alloc (.cells #[.int .i64 (now + ma), .string pa, .int .i64 (1 + mb)] 33)
        refine ⟨⟨k + 1, acc ++ [(now + ma, pa, 1 + mb)], now + ma, by omega, by go_num, rfl, by have := Hmab.out.1; omega, by have := Hmab.out.1; omega, by simp; omega, Lib.hid (HT.out.snoc (by have := Hmab.out.1; omega) (by have := Hmab.out.1; omega) (by omega) (by have := Hmab.out.2.1; omega) Hmab.out.2.2), ?_, ?_⟩, by simp [intOf]; omega⟩
        · unfold OwnEv
          rw [evCells_snoc, List.length_append]
          exact Hown8.out
        · exact (HN.out.2.trans hcw).comp hap.1 fun x hx => Or.inr (hap.2 x hx)
    · obtain rfl : k = m := by omega
      have hk1 : ¬ ((k : Int) < k) := by omega
      have HN := Lib.hid (And.intro how hc)
      have hnow : now ≤ 2000 := by omega
      clear how hc
      go_wp2_with fail
      go_ret
      exact ⟨_, acc, rfl, HN.out.1, ⟨HT.out.len, HT.out.kind, fun e he => by have := HT.out.time e he; omega, HT.out.ord, HT.out.path⟩, HN.out.2⟩
end Go.Proofs.Ytdekngkcojfhmaa
