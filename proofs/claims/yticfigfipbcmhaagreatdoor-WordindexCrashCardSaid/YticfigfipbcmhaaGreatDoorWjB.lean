/- Contracts of the journal's Append, parse and next. -/
import Derived.Test.YticfigfipbcmhaaGreatDoorWjA
import Derived.Lib.Strings
namespace Go.Proofs.YticfigfipbcmhaaGreatDoor.J
open Go.RowKit
def Rec.vals (r : Rec) : Array Value := #[.string r.key, .string r.val, .bool r.del]
set_option maxRecDepth 100000 in
set_option maxHeartbeats 1000000 in
theorem append_any (s : ByteArray) (r : Rec) (w : World) (hs : s.size ≤ 100000) :
    Calls Tryz.prog 20 #[.string s, .agg #[.string r.key, .string r.val, .bool r.del]] w fun e w' => e = .returned (.tuple #[.string (bs (appendL s.data.toList r).1), .int .i64 (appendL s.data.toList r).2]) ∧ Chg [] w w' := by
  have hsl : s.data.toList.length = s.size := Array.length_toList
  by_cases h0 : r.err = 0
  · have hk := Rec.ok_key h0
    have hpl := r.pay_length
    have hfl : r.frame.length = r.pay.length + 6 := frameL_length _
    have hzf : (bs r.frame).size = r.frame.length := bs_size _
    have hzq : (bs r.pay).size = r.pay.length := bs_size _
    by_cases h1 : 40000 < s.size + r.frame.length
    · have ha : appendL s.data.toList r = ([], 2) := by unfold appendL; rw [if_neg (by simp [h0]), if_pos (by rw [hsl]; exact h1)]
      rw [ha]
      have h1' : (40000 : Int) < (s.size : Int) + (r.frame.length : Int) := by omega
      have hfb : r.frame.length ≤ 4000 := by omega
      have hzp : (bs r.pay).size ≤ 100000 := by omega
      have H0 := Lib.hid h0
      have Hk := Lib.hid hk
      clear ha h0 hpl hfl hzq hsl h1 hk
      go_enter Tryz.func20, Tryz.ntmps20
      go_wp2_with fail
      refine (validate_any r _).mono ?_
      rintro e w1 ⟨rfl, c1⟩
      rw [H0.out]
      have B := (c1.block w.heap.size (by simp) (by simp)).trans (heap_at _ _ _ rfl)
      have b0 := cell_of_heap B (i := 0) rfl
      have b1 := cell_of_heap B (i := 1) rfl
      have b2 := cell_of_heap B (i := 2) rfl
      go_wp2_with fail
      refine (payload_any r _ Hk.out.1 Hk.out.2).mono ?_
      rintro e w2 ⟨rfl, c2⟩
      go_wp2_with fail
      refine (frame_any _ _ hzp).mono ?_
      rintro e w3 ⟨rfl, c3⟩
      rw [bs_data, show frameL r.pay = r.frame from rfl]
      clear B b0 b1 b2
      go_wp2
      go_ret2
      exact ⟨rfl, (((Chg.refl [] w).alloc _).new c1).new (c2.new c3)⟩
    · have ha : appendL s.data.toList r = (s.data.toList ++ r.frame, 0) := by unfold appendL; rw [if_neg (by simp [h0]), if_neg (by rw [hsl]; exact h1)]
      rw [ha]
      obtain ⟨f, hf⟩ : ∃ f, bs r.frame = f := ⟨_, rfl⟩
      have h1' : (s.size : Int) + (f.size : Int) ≤ 40000 := by rw [← hf]; omega
      have Hf := Lib.hid hf
      have hzp : (bs r.pay).size ≤ 100000 := by omega
      have H0 := Lib.hid h0
      have Hk := Lib.hid hk
      clear ha h0 hpl hfl hzq hzf hsl h1 hk hf
      go_enter Tryz.func20, Tryz.ntmps20
      go_wp2_with fail
      refine (validate_any r _).mono ?_
      rintro e w1 ⟨rfl, c1⟩
      rw [H0.out]
      have B := (c1.block w.heap.size (by simp) (by simp)).trans (heap_at _ _ _ rfl)
      have b0 := cell_of_heap B (i := 0) rfl
      have b1 := cell_of_heap B (i := 1) rfl
      have b2 := cell_of_heap B (i := 2) rfl
      go_wp2_with fail
      refine (payload_any r _ Hk.out.1 Hk.out.2).mono ?_
      rintro e w2 ⟨rfl, c2⟩
      go_wp2_with fail
      refine (frame_any _ _ hzp).mono ?_
      rintro e w3 ⟨rfl, c3⟩
      rw [bs_data, show frameL r.pay = r.frame from rfl, Hf.out]
      clear B b0 b1 b2
      go_wp2
      go_ret2
      refine ⟨?_, (((Chg.refl [] w).alloc _).new c1).new (c2.new c3)⟩
      rw [← Hf.out, show s ++ bs r.frame = bs (s.data.toList ++ r.frame) from eq_bs (by rw [append_bs, bs_data])]
      rfl
  · have ha : appendL s.data.toList r = ([], r.err) := by unfold appendL; rw [if_pos h0]
    rw [ha]
    obtain ⟨x, hx⟩ : ∃ x, r.err = x := ⟨_, rfl⟩
    rw [hx] at h0 ⊢
    have h0' : (x != 0) = true := by simpa using h0
    have Hx := Lib.hid hx
    clear ha h0 hsl hx
    go_enter Tryz.func20, Tryz.ntmps20
    go_wp2_with fail
    refine (validate_any r _).mono ?_
    rintro e w1 ⟨rfl, c1⟩
    rw [Hx.out]
    go_wp2
    go_ret2
    exact ⟨rfl, ((Chg.refl [] w).alloc _).new c1⟩
theorem parse_eq (p : ByteArray) (h0 : 0 < p.size) (h1 : 1 < p.size) : parseL p.data.toList = if p[0].toNat > 1 ∨ p.size < 2 + p[1].toNat then none else
    if Rec.err ⟨p.extract 2 (2 + p[1].toNat), p.extract (2 + p[1].toNat) p.size, decide (p[0].toNat = 1)⟩ = 0 then some ⟨p.extract 2 (2 + p[1].toNat), p.extract (2 + p[1].toNat) p.size, decide (p[0].toNat = 1)⟩ else none := by
  obtain ⟨⟨l⟩⟩ := p
  match l, h0, h1 with
  | f :: n :: q, _, _ =>
    have e1 : (ByteArray.mk ⟨f :: n :: q⟩).extract 2 (2 + n.toNat) = bs (q.take n.toNat) := eq_bs (by rw [Lib.extract_data]; simp)
    have e2 : (ByteArray.mk ⟨f :: n :: q⟩).extract (2 + n.toNat) (ByteArray.mk ⟨f :: n :: q⟩).size = bs (q.drop n.toNat) := eq_bs (by
      rw [Lib.extract_data]
      simp only [show 2 + n.toNat = n.toNat + 1 + 1 from by omega, List.drop_succ_cons]
      rw [List.take_of_length_le]
      simp [ByteArray.size])
    show parseL (f :: n :: q) = if f.toNat > 1 ∨ (ByteArray.mk ⟨f :: n :: q⟩).size < 2 + n.toNat then none else if Rec.err ⟨(ByteArray.mk ⟨f :: n :: q⟩).extract 2 (2 + n.toNat), (ByteArray.mk ⟨f :: n :: q⟩).extract (2 + n.toNat) (ByteArray.mk ⟨f :: n :: q⟩).size, decide (f.toNat = 1)⟩ = 0 then some ⟨(ByteArray.mk ⟨f :: n :: q⟩).extract 2 (2 + n.toNat), (ByteArray.mk ⟨f :: n :: q⟩).extract (2 + n.toNat) (ByteArray.mk ⟨f :: n :: q⟩).size, decide (f.toNat = 1)⟩ else none
    rw [e1, e2]
    unfold parseL
    have e3 : (ByteArray.mk ⟨f :: n :: q⟩).size = q.length + 2 := rfl
    have e4 : q.length < n.toNat ↔ (ByteArray.mk ⟨f :: n :: q⟩).size < 2 + n.toNat := by omega
    by_cases hc : f.toNat > 1 ∨ q.length < n.toNat
    · rw [if_pos (by rw [← e4]; exact hc)]
      exact if_pos hc
    · rw [if_neg (by rw [← e4]; exact hc)]
      exact if_neg hc
def ParsePost (p : ByteArray) (w : World) (e : Ending) (w' : World) : Prop :=
  Chg [] w w' ∧ ((∃ r, parseL p.data.toList = some r ∧ e = .returned (.tuple #[.agg r.vals, .bool true])) ∨ (parseL p.data.toList = none ∧ ∃ r : Rec, e = .returned (.tuple #[.agg r.vals, .bool false])))
set_option maxRecDepth 100000 in
set_option maxHeartbeats 1000000 in
theorem parse_any (p : ByteArray) (w : World) (hs : p.size ≤ 100000) :
    Calls Tryz.prog 81 #[.string p] w (ParsePost p w) := by
  by_cases h2 : p.size < 2
  · have hp : parseL p.data.toList = none := by
      have hl : p.data.toList.length < 2 := by rw [Array.length_toList]; exact h2
      match p.data.toList, hl with
      | [], _ => rfl
      | [_], _ => rfl
    have Hp := Lib.hid hp
    clear hp
    go_enter Tryz.func81, Tryz.ntmps81
    go_wp2
    refine bodyPost_ret (v := .tuple #[.agg Rec.zero.vals, .bool false]) (by simp [results, Tryz.results81, go_sem, Rec.vals, Rec.zero]) rfl ⟨(Chg.refl [] w).alloc _, Or.inr ⟨Hp.out, _, rfl⟩⟩
  · have h2' : (2 : Int) ≤ (p.size : Int) := by omega
    have h0 : 0 < p.size := by omega
    have h1 : 1 < p.size := by omega
    have hpe := parse_eq p h0 h1
    have ha6 : p[0].toNat < 256 := p[0].toNat_lt
    have hn6 : p[1].toNat < 256 := p[1].toNat_lt
    obtain ⟨a, ha⟩ : ∃ a, p[0].toNat = a := ⟨_, rfl⟩
    obtain ⟨n, hn⟩ : ∃ n, p[1].toNat = n := ⟨_, rfl⟩
    rw [ha, hn] at hpe
    rw [ha] at ha6
    rw [hn] at hn6
    by_cases h3 : a > 1 ∨ p.size < 2 + n
    · rw [if_pos h3] at hpe
      have Hp := Lib.hid hpe
      clear hpe
      by_cases h4 : 1 < a
      · clear h3
        go_enter Tryz.func81, Tryz.ntmps81
        go_wp2
        refine bodyPost_ret (v := .tuple #[.agg Rec.zero.vals, .bool false]) (by simp [results, Tryz.results81, go_sem, Rec.vals, Rec.zero]) rfl ⟨(Chg.refl [] w).alloc _, Or.inr ⟨Hp.out, _, rfl⟩⟩
      · have h5 : (p.size : Int) < 2 + (n : Int) := by omega
        have h4' : (a : Int) ≤ 1 := by omega
        clear h3 h4
        go_enter Tryz.func81, Tryz.ntmps81
        go_wp2
        refine bodyPost_ret (v := .tuple #[.agg Rec.zero.vals, .bool false]) (by simp [results, Tryz.results81, go_sem, Rec.vals, Rec.zero]) rfl ⟨(Chg.refl [] w).alloc _, Or.inr ⟨Hp.out, _, rfl⟩⟩
    · rw [if_neg h3] at hpe
      have Hp := Lib.hid hpe
      have h5 : 2 + (n : Int) ≤ (p.size : Int) := by omega
      have h4' : (a : Int) ≤ 1 := by omega
      clear hpe h3
      go_enter Tryz.func81, Tryz.ntmps81
      go_wp2
      go_region
      go_wp2
      have ea : ((a : Int) == 1) = decide (a = 1) := by
        by_cases h : a = 1
        · subst h; rfl
        · rw [decide_eq_false h]; simp; omega
      rw [ea]
      generalize hk : p.extract 2 (2 + n) = key at Hp ⊢
      generalize hv : p.extract (2 + n) p.size = val at Hp ⊢
      generalize decide (a = 1) = del at Hp ⊢
      clear ea hk hv
      go_region_held3 (fun w' => w'.cell? ⟨w.heap.size + 1, 0, none⟩ = some (.string key) ∧ w'.cell? ⟨w.heap.size + 1, 1, none⟩ = some (.string val) ∧ w'.cell? ⟨w.heap.size + 1, 2, none⟩ = some (.bool del))
        (first | (go_keep; done) | (refine ⟨?_, ?_, ?_⟩ <;> (simp [go_sem]; done)) | (refine ⟨?_, ?_, ?_⟩ <;> (rw [hc1.cell (by simp; try omega) (by simp)]; simp [go_sem]; done)))
        ((go_at_call 38; refine (validate_any ⟨key, val, del⟩ _).mono ?_; rintro e w1 ⟨rfl, hc1⟩; have q1 := hc1.block w.heap.size (by first | (simp; done) | (simp; omega)) (by simp); have r0 : w1.cell? ⟨w.heap.size, 0, none⟩ = some (.string ⟨#[]⟩) := (World.cell?_of_block q1).trans (by simp [go_sem]); have r1 : w1.cell? ⟨w.heap.size, 1, none⟩ = some (.string ⟨#[]⟩) := (World.cell?_of_block q1).trans (by simp [go_sem]); have r2 : w1.cell? ⟨w.heap.size, 2, none⟩ = some (.bool false) := (World.cell?_of_block q1).trans (by simp [go_sem]); have f0 : w1.frozen? ⟨w.heap.size, 0, none⟩ = false := (World.frozen?_of_block q1).trans (by simp [go_sem]); have f1 : w1.frozen? ⟨w.heap.size, 1, none⟩ = false := (World.frozen?_of_block q1).trans (by simp [go_sem]); have f2 : w1.frozen? ⟨w.heap.size, 2, none⟩ = false := (World.frozen?_of_block q1).trans (by simp [go_sem])))
      go_wp2
      have hch : Chg [] w ((((w1.setCell ⟨w.heap.size, 0, none⟩ (.string key)).setCell ⟨w.heap.size, 1, none⟩ (.string val)).setCell ⟨w.heap.size, 2, none⟩ (.bool del))) :=
        ((((((Chg.refl [] w).alloc _).alloc _).drew.drew.new hc1).setCell (Or.inr (by simp)) _).setCell (Or.inr (by simp)) _).setCell (Or.inr (by simp)) _
      refine bodyPost_ret (v := .tuple #[.agg #[.string key, .string val, .bool del], .bool (Rec.err ⟨key, val, del⟩ == 0)]) (by simp [results, Tryz.results81, go_sem, r0, r1, r2]) rfl ⟨hch, ?_⟩
      have hp := Hp.out
      by_cases he : Rec.err ⟨key, val, del⟩ = 0
      · rw [if_pos he] at hp
        exact Or.inl ⟨_, hp, by rw [he]; rfl⟩
      · rw [if_neg he] at hp
        exact Or.inr ⟨hp, ⟨key, val, del⟩, by rw [show (Rec.err ⟨key, val, del⟩ == 0) = false from by simpa using he]; rfl⟩

end Go.Proofs.YticfigfipbcmhaaGreatDoor.J
