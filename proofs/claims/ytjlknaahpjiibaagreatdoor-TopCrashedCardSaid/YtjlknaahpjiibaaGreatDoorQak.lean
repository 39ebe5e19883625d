/- Part of the proof of topCrashedLaw_holds. -/
import Derived.Lib.Strings
import Derived.Test.YtjlknaahpjiibaaGreatDoorQaj
namespace Go.Proofs.YtjlknaahpjiibaaGreatDoor.J
open Go.RowKit
def Rec.vals (r : Rec) : Array Value := #[.string r.key, .string r.val, .bool r.del]
set_option maxRecDepth 100000 in
set_option maxHeartbeats 1000000 in
theorem append_any (s : ByteArray) (r : Rec) (w : World) (hs : s.size ≤ 100000) :
 Calls Tryz.prog 28 #[.string s, .agg #[.string r.key, .string r.val, .bool r.del]] w fun e w' => e = .returned (.tuple #[.string (bs (appendL s.data.toList r).1), .int .i64 (appendL s.data.toList r).2]) ∧ Chg [] w w' := by
 have hsl : s.data.toList.length = s.size := Array.length_toList
 by_cases h0 : r.err = 0
 · have hk := Rec.ok_key h0
   have hpl := r.pay_length
   have hfl : r.frame.length = r.pay.length + 6 := frameL_length _
   have hzf : (bs r.frame).size = r.frame.length := bs_size _
   have hzq : (bs r.pay).size = r.pay.length := bs_size _
   by_cases h1 : 40000 < s.size + r.frame.length
   · have ha : appendL s.data.toList r = ([], 2) := by unfold appendL; rw [if_neg (by simp [h0]), if_pos (by rw [hsl]; exact h1)]
     rw [ha]
     have h1' : (40000 : Int) < (s.size : Int) + (r.frame.length : Int) := by omega
     have hfb : r.frame.length ≤ 4000 := by omega
     have hzp : (bs r.pay).size ≤ 100000 := by omega
     have H0 := Lib.hid h0
     have Hk := Lib.hid hk
     clear ha h0 hpl hfl hzq hsl h1 hk
     go_enter Tryz.func28, Tryz.ntmps28
     go_wp2_with fail
     refine (validate_any r _).mono ?_
     rintro e w1 ⟨rfl, c1⟩
     rw [H0.out]
     have B := (c1.block w.heap.size (by simp) (by simp)).trans (heap_at _ _ _ rfl)
     have b0 := cell_of_heap B (i := 0) rfl
     have b1 := cell_of_heap B (i := 1) rfl
     have b2 := cell_of_heap B (i := 2) rfl
     go_wp2_with fail
     refine (payload_any r _ Hk.out.1 Hk.out.2).mono ?_
     rintro e w2 ⟨rfl, c2⟩
     go_wp2_with fail
     refine (frame_any _ _ hzp).mono ?_
     rintro e w3 ⟨rfl, c3⟩
     rw [bs_data, show frameL r.pay = r.frame from rfl]
     clear B b0 b1 b2
     go_wp2
     go_ret2
     exact ⟨rfl, (((Chg.refl [] w).alloc _).new c1).new (c2.new c3)⟩
   · have ha : appendL s.data.toList r = (s.data.toList ++ r.frame, 0) := by unfold appendL; rw [if_neg (by simp [h0]), if_neg (by rw [hsl]; exact h1)]
     rw [ha]
     obtain ⟨f, hf⟩ : ∃ f, bs r.frame = f := ⟨_, rfl⟩
     have h1' : (s.size : Int) + (f.size : Int) ≤ 40000 := by rw [← hf]; omega
     have Hf := Lib.hid hf
     have hzp : (bs r.pay).size ≤ 100000 := by omega
     have H0 := Lib.hid h0
     have Hk := Lib.hid hk
     clear ha h0 hpl hfl hzq hzf hsl h1 hk hf
     go_enter Tryz.func28, Tryz.ntmps28
     go_wp2_with fail
     refine (validate_any r _).mono ?_
     rintro e w1 ⟨rfl, c1⟩
     rw [H0.out]
     have B := (c1.block w.heap.size (by simp) (by simp)).trans (heap_at _ _ _ rfl)
     have b0 := cell_of_heap B (i := 0) rfl
     have b1 := cell_of_heap B (i := 1) rfl
     have b2 := cell_of_heap B (i := 2) rfl
     go_wp2_with fail
     refine (payload_any r _ Hk.out.1 Hk.out.2).mono ?_
     rintro e w2 ⟨rfl, c2⟩
     go_wp2_with fail
     refine (frame_any _ _ hzp).mono ?_
     rintro e w3 ⟨rfl, c3⟩
     rw [bs_data, show frameL r.pay = r.frame from rfl, Hf.out]
     clear B b0 b1 b2
     go_wp2
     go_ret2
     refine ⟨?_, (((Chg.refl [] w).alloc _).new c1).new (c2.new c3)⟩
     rw [← Hf.out, show s ++ bs r.frame = bs (s.data.toList ++ r.frame) from eq_bs (by rw [append_bs, bs_data])]
     rfl
 · have ha : appendL s.data.toList r = ([], r.err) := by unfold appendL; rw [if_pos h0]
   rw [ha]
   obtain ⟨x, hx⟩ : ∃ x, r.err = x := ⟨_, rfl⟩
   rw [hx] at h0 ⊢
   have h0' : (x != 0) = true := by simpa using h0
   have Hx := Lib.hid hx
   clear ha h0 hsl hx
   go_enter Tryz.func28, Tryz.ntmps28
   go_wp2_with fail
   refine (validate_any r _).mono ?_
   rintro e w1 ⟨rfl, c1⟩
   rw [Hx.out]
   go_wp2
   go_ret2
   exact ⟨rfl, ((Chg.refl [] w).alloc _).new c1⟩
theorem parse_eq (p : ByteArray) (h0 : 0 < p.size) (h1 : 1 < p.size) : parseL p.data.toList = if p[0].toNat > 1 ∨ p.size < 2 + p[1].toNat then none else
 if Rec.err ⟨p.extract 2 (2 + p[1].toNat), p.extract (2 + p[1].toNat) p.size, decide (p[0].toNat = 1)⟩ = 0 then some ⟨p.extract 2 (2 + p[1].toNat), p.extract (2 + p[1].toNat) p.size, decide (p[0].toNat = 1)⟩ else none := by
 obtain ⟨⟨l⟩⟩ := p
 match l, h0, h1 with
 | f :: n :: q, _, _ =>
   have e1 : (ByteArray.mk ⟨f :: n :: q⟩).extract 2 (2 + n.toNat) = bs (q.take n.toNat) := eq_bs (by rw [Lib.extract_data]; simp)
   have e2 : (ByteArray.mk ⟨f :: n :: q⟩).extract (2 + n.toNat) (ByteArray.mk ⟨f :: n :: q⟩).size = bs (q.drop n.toNat) := eq_bs (by
    rw [Lib.extract_data]
    simp only [show 2 + n.toNat = n.toNat + 1 + 1 from by omega, List.drop_succ_cons]
    rw [List.take_of_length_le]
    simp [ByteArray.size])
   show parseL (f :: n :: q) = if f.toNat > 1 ∨ (ByteArray.mk ⟨f :: n :: q⟩).size < 2 + n.toNat then none else if Rec.err ⟨(ByteArray.mk ⟨f :: n :: q⟩).extract 2 (2 + n.toNat), (ByteArray.mk ⟨f :: n :: q⟩).extract (2 + n.toNat) (ByteArray.mk ⟨f :: n :: q⟩).size, decide (f.toNat = 1)⟩ = 0 then some ⟨(ByteArray.mk ⟨f :: n :: q⟩).extract 2 (2 + n.toNat), (ByteArray.mk ⟨f :: n :: q⟩).extract (2 + n.toNat) (ByteArray.mk ⟨f :: n :: q⟩).size, decide (f.toNat = 1)⟩ else none
   rw [e1, e2]
   unfold parseL
   have e3 : (ByteArray.mk ⟨f :: n :: q⟩).size = q.length + 2 := rfl
   have e4 : q.length < n.toNat ↔ (ByteArray.mk ⟨f :: n :: q⟩).size < 2 + n.toNat := by omega
   by_cases hc : f.toNat > 1 ∨ q.length < n.toNat
   · rw [if_pos (by rw [← e4]; exact hc)]
     exact if_pos hc
   · rw [if_neg (by rw [← e4]; exact hc)]
     exact if_neg hc
def ParsePost (p : ByteArray) (w : World) (e : Ending) (w' : World) : Prop :=
 Chg [] w w' ∧ ((∃ r, parseL p.data.toList = some r ∧ e = .returned (.tuple #[.agg r.vals, .bool true])) ∨ (parseL p.data.toList = none ∧ ∃ r : Rec, e = .returned (.tuple #[.agg r.vals, .bool false])))
set_option maxRecDepth 100000 in
set_option maxHeartbeats 1000000 in
theorem parse_any (p : ByteArray) (w : World) (hs : p.size ≤ 100000) :
 Calls Tryz.prog 146 #[.string p] w (ParsePost p w) := by
 by_cases h2 : p.size < 2
 · have hp : parseL p.data.toList = none := by
    have hl : p.data.toList.length < 2 := by rw [Array.length_toList]; exact h2
    match p.data.toList, hl with
    | [], _ => rfl
    | [_], _ => rfl
   have Hp := Lib.hid hp
   clear hp
   go_enter Tryz.func146, Tryz.ntmps146
   go_wp2
   refine bodyPost_ret (v := .tuple #[.agg Rec.zero.vals, .bool false]) (by simp [results, Tryz.results146, go_sem, Rec.vals, Rec.zero]) rfl ⟨(Chg.refl [] w).alloc _, Or.inr ⟨Hp.out, _, rfl⟩⟩
 · have h2' : (2 : Int) ≤ (p.size : Int) := by omega
   have h0 : 0 < p.size := by omega
   have h1 : 1 < p.size := by omega
   have hpe := parse_eq p h0 h1
   have ha6 : p[0].toNat < 256 := p[0].toNat_lt
   have hn6 : p[1].toNat < 256 := p[1].toNat_lt
   obtain ⟨a, ha⟩ : ∃ a, p[0].toNat = a := ⟨_, rfl⟩
   obtain ⟨n, hn⟩ : ∃ n, p[1].toNat = n := ⟨_, rfl⟩
   rw [ha, hn] at hpe
   rw [ha] at ha6
   rw [hn] at hn6
   by_cases h3 : a > 1 ∨ p.size < 2 + n
   · rw [if_pos h3] at hpe
     have Hp := Lib.hid hpe
     clear hpe
     by_cases h4 : 1 < a
     · clear h3
       go_enter Tryz.func146, Tryz.ntmps146
       go_wp2
       refine bodyPost_ret (v := .tuple #[.agg Rec.zero.vals, .bool false]) (by simp [results, Tryz.results146, go_sem, Rec.vals, Rec.zero]) rfl ⟨(Chg.refl [] w).alloc _, Or.inr ⟨Hp.out, _, rfl⟩⟩
     · have h5 : (p.size : Int) < 2 + (n : Int) := by omega
       have h4' : (a : Int) ≤ 1 := by omega
       clear h3 h4
       go_enter Tryz.func146, Tryz.ntmps146
       go_wp2
       refine bodyPost_ret (v := .tuple #[.agg Rec.zero.vals, .bool false]) (by simp [results, Tryz.results146, go_sem, Rec.vals, Rec.zero]) rfl ⟨(Chg.refl [] w).alloc _, Or.inr ⟨Hp.out, _, rfl⟩⟩
   · rw [if_neg h3] at hpe
     have Hp := Lib.hid hpe
     have h5 : 2 + (n : Int) ≤ (p.size : Int) := by omega
     have h4' : (a : Int) ≤ 1 := by omega
     clear hpe h3
     go_enter Tryz.func146, Tryz.ntmps146
     go_wp2
     go_region
     go_wp2
     have ea : ((a : Int) == 1) = decide (a = 1) := by
      by_cases h : a = 1
      · subst h; rfl
      · rw [decide_eq_false h]; simp; omega
     rw [ea]
     generalize hk : p.extract 2 (2 + n) = key at Hp ⊢
     generalize hv : p.extract (2 + n) p.size = val at Hp ⊢
     generalize decide (a = 1) = del at Hp ⊢
     clear ea hk hv
     go_region_held3 (fun w' => w'.cell? ⟨w.heap.size + 1, 0, none⟩ = some (.string key) ∧ w'.cell? ⟨w.heap.size + 1, 1, none⟩ = some (.string val) ∧ w'.cell? ⟨w.heap.size + 1, 2, none⟩ = some (.bool del))
      (first | (go_keep; done) | (refine ⟨?_, ?_, ?_⟩ <;> (simp [go_sem]; done)) | (refine ⟨?_, ?_, ?_⟩ <;> (rw [hc1.cell (by simp; try omega) (by simp)]; simp [go_sem]; done)))
      ((go_at_call 57; refine (validate_any ⟨key, val, del⟩ _).mono ?_; rintro e w1 ⟨rfl, hc1⟩; have q1 := hc1.block w.heap.size (by first | (simp; done) | (simp; omega)) (by simp); have r0 : w1.cell? ⟨w.heap.size, 0, none⟩ = some (.string ⟨#[]⟩) := (World.cell?_of_block q1).trans (by simp [go_sem]); have r1 : w1.cell? ⟨w.heap.size, 1, none⟩ = some (.string ⟨#[]⟩) := (World.cell?_of_block q1).trans (by simp [go_sem]); have r2 : w1.cell? ⟨w.heap.size, 2, none⟩ = some (.bool false) := (World.cell?_of_block q1).trans (by simp [go_sem]); have f0 : w1.frozen? ⟨w.heap.size, 0, none⟩ = false := (World.frozen?_of_block q1).trans (by simp [go_sem]); have f1 : w1.frozen? ⟨w.heap.size, 1, none⟩ = false := (World.frozen?_of_block q1).trans (by simp [go_sem]); have f2 : w1.frozen? ⟨w.heap.size, 2, none⟩ = false := (World.frozen?_of_block q1).trans (by simp [go_sem])))
     go_wp2
     have hch : Chg [] w ((((w1.setCell ⟨w.heap.size, 0, none⟩ (.string key)).setCell ⟨w.heap.size, 1, none⟩ (.string val)).setCell ⟨w.heap.size, 2, none⟩ (.bool del))) :=
      ((((((Chg.refl [] w).alloc _).alloc _).drew.drew.new hc1).setCell (Or.inr (by simp)) _).setCell (Or.inr (by simp)) _).setCell (Or.inr (by simp)) _
     refine bodyPost_ret (v := .tuple #[.agg #[.string key, .string val, .bool del], .bool (Rec.err ⟨key, val, del⟩ == 0)]) (by simp [results, Tryz.results146, go_sem, r0, r1, r2]) rfl ⟨hch, ?_⟩
     have hp := Hp.out
     by_cases he : Rec.err ⟨key, val, del⟩ = 0
     · rw [if_pos he] at hp
       exact Or.inl ⟨_, hp, by rw [he]; rfl⟩
     · rw [if_neg he] at hp
       exact Or.inr ⟨hp, ⟨key, val, del⟩, by rw [show (Rec.err ⟨key, val, del⟩ == 0) = false from by simpa using he]; rfl⟩
theorem next_eq (s : ByteArray) (h0 : 0 < s.size) (h1 : 1 < s.size) (h6 : ¬ s.size < 6) : nextL s.data.toList =
 (if s.size < 6 + s[0].toNat * 256 + s[1].toNat then (Rec.zero, 0, 0) else
 if frameL (s.extract 6 (6 + s[0].toNat * 256 + s[1].toNat)).data.toList ≠ (s.extract 0 (6 + s[0].toNat * 256 + s[1].toNat)).data.toList then (Rec.zero, 0, 13) else
 match parseL (s.extract 6 (6 + s[0].toNat * 256 + s[1].toNat)).data.toList with
 | some r => (r, 6 + s[0].toNat * 256 + s[1].toNat, 0)
 | none => (Rec.zero, 0, 3) : Rec × Nat × Int) := by
 have hsl : s.data.toList.length = s.size := Array.length_toList
 have e0 : s.data.toList.getD 0 0 = s[0] := by simp [List.getD_eq_getElem?_getD, List.getElem?_eq_getElem (show 0 < s.data.toList.length by omega)]; rfl
 have e1 : s.data.toList.getD 1 0 = s[1] := by simp [List.getD_eq_getElem?_getD, List.getElem?_eq_getElem (show 1 < s.data.toList.length by omega)]; rfl
 unfold nextL
 rw [if_neg (by omega), e0, e1]
 simp only [hsl]
 have e2 : ∀ z, (s.data.toList.take z).drop 6 = (s.extract 6 z).data.toList := fun z => by rw [Lib.extract_data, List.drop_take]
 have e3 : ∀ z, s.data.toList.take z = (s.extract 0 z).data.toList := fun z => by rw [Lib.extract_data]; simp
 rw [e2, e3]
 rfl
def NextPost (s : ByteArray) (w : World) (e : Ending) (w' : World) : Prop :=
 Chg [] w w' ∧ e = .returned (.tuple #[.agg (nextL s.data.toList).1.vals, .int .i64 (nextL s.data.toList).2.1, .int .i64 (nextL s.data.toList).2.2])
theorem set3 {w : World} {n : Nat} {x0 x1 x2 : Value} {T : TypeId} (h : w.heap[n]? = some (.cells #[x0, x1, x2] T (0, 0))) (a b c : Value) :
 (((w.setCell ⟨n, 0, none⟩ a).setCell ⟨n, 1, none⟩ b).setCell ⟨n, 2, none⟩ c).heap[n]? = some (.cells #[a, b, c] T (0, 0)) := by
 rw [heap_setCell_same (heap_setCell_same (heap_setCell_same h a) b) c]
 rfl
theorem next_ret {s : ByteArray} {w W : World} {n : Nat} {r : Rec} {z e : Int} {tmps : Array Value} (hb : W.heap[n]? = some (.cells r.vals 78 (0, 0))) (h2 : tmps[2]? = some (.pointer (some ⟨n, 0, none⟩))) (h3 : tmps[3]? = some (.int .i64 z)) (h4 : tmps[4]? = some (.int .i64 e))
 (hQ : NextPost s w (.returned (.tuple #[.agg r.vals, .int .i64 z, .int .i64 e])) W) : bodyPost Tryz.prog Tryz.f105 (NextPost s w) Exit.ret { tmps := tmps, defers := [] } W := by
 have c0 := cell_of_heap hb (i := 0) rfl
 have c1 := cell_of_heap hb (i := 1) rfl
 have c2 := cell_of_heap hb (i := 2) rfl
 refine bodyPost_ret (v := .tuple #[.agg r.vals, .int .i64 z, .int .i64 e]) ?_ rfl hQ
 simp [results, Tryz.results105, go_sem, c0, c1, c2, h2, h3, h4, Rec.vals]
set_option maxRecDepth 100000 in
theorem next_short (s : ByteArray) (w : World) (h6 : s.size < 6) : Calls Tryz.prog 105 #[.string s] w (NextPost s w) := by
 have hsl : s.data.toList.length = s.size := Array.length_toList
 have hp : nextL s.data.toList = (Rec.zero, 0, 0) := by unfold nextL; rw [if_pos (by omega)]
 have Hp := Lib.hid hp
 clear hp hsl
 go_enter Tryz.func105, Tryz.ntmps105
 go_wp2
 exact next_ret (r := Rec.zero) (n := w.heap.size) (heap_at _ _ _ rfl) rfl rfl rfl ⟨(Chg.refl [] w).alloc _, by rw [Hp.out]; rfl⟩
set_option maxRecDepth 100000 in
set_option maxHeartbeats 1000000 in
theorem next_torn (s : ByteArray) (w : World) (hs : s.size ≤ 100000) (h0 : 0 < s.size) (h1 : 1 < s.size) (h6' : (6 : Int) ≤ (s.size : Int)) (a n : Nat) (ha : s[0].toNat = a) (hn : s[1].toNat = n) (ha6 : a < 256) (hn6 : n < 256) (h5 : (s.size : Int) < 6 + (a : Int) * 256 + (n : Int)) (Hp : Hid (nextL s.data.toList = (Rec.zero, 0, 0))) :
 Calls Tryz.prog 105 #[.string s] w (NextPost s w) := by
 go_enter Tryz.func105, Tryz.ntmps105
 go_wp2
 go_quiet (fail)
 go_wp2
 exact next_ret (r := Rec.zero) (n := w.heap.size) (set3 (heap_at _ _ _ rfl) _ _ _) rfl rfl rfl ⟨(((((Chg.refl [] w).alloc _).drewN _).setCell (Or.inr (by simp)) _).setCell (Or.inr (by simp)) _).setCell (Or.inr (by simp)) _, by rw [Hp.out]; rfl⟩
set_option maxRecDepth 100000 in
set_option maxHeartbeats 2000000 in
theorem next_bad (s : ByteArray) (w : World) (hs : s.size ≤ 100000) (h0 : 0 < s.size) (h1 : 1 < s.size) (h6' : (6 : Int) ≤ (s.size : Int)) (a n : Nat) (ha : s[0].toNat = a) (hn : s[1].toNat = n) (ha6 : a < 256) (hn6 : n < 256) (h5 : 6 + (a : Int) * 256 + (n : Int) ≤ (s.size : Int)) (z : Nat) (hz : 6 + a * 256 + n = z) (hz' : 6 + (a : Int) * 256 + (n : Int) = (z : Int)) (hzs : z ≤ s.size) (hz6 : 6 ≤ z) (Hex : Hid ((s.extract 6 z).size ≤ 100000)) (F : ByteArray) (HF : Hid (bs (frameL (s.extract 6 z).data.toList) = F)) (hne : (F.toList == (s.extract 0 z).toList) = false) (Hp : Hid (nextL s.data.toList = (Rec.zero, 0, 13))) :
 Calls Tryz.prog 105 #[.string s] w (NextPost s w) := by
 go_enter Tryz.func105, Tryz.ntmps105
 go_wp2
 go_quiet (fail)
 go_wp2
 go_region_held3 (fun _ => True) (trivial)
  ((go_at_call 58; refine (frame_any _ _ Hex.out).mono ?_; rintro e w1 ⟨rfl, hc1⟩; rw [HF.out]; have q1 := (hc1.block w.heap.size (by simp) (by simp)).trans (heap_at _ _ _ rfl); have r0 := cell_of_heap q1 (i := 0) rfl; have r1 := cell_of_heap q1 (i := 1) rfl; have r2 := cell_of_heap q1 (i := 2) rfl; have f0 := frozen_of_heap q1 (i := 0); have f1 := frozen_of_heap q1 (i := 1); have f2 := frozen_of_heap q1 (i := 2)))
 go_wp2
 have hcw := ((Chg.refl [] w).alloc (.cells #[.string ⟨#[]⟩, .string ⟨#[]⟩, .bool false] 78)).drewN nq |>.drew.new hc1
 exact next_ret (r := Rec.zero) (n := w.heap.size) (set3 q1 _ _ _) rfl rfl rfl ⟨by repeat (first | exact hcw | refine Chg.setCell ?_ (Or.inr (by simp)) _), by rw [Hp.out]; rfl⟩
set_option maxRecDepth 100000 in
set_option maxHeartbeats 4000000 in
theorem next_parsed (s : ByteArray) (w : World) (hs : s.size ≤ 100000) (h0 : 0 < s.size) (h1 : 1 < s.size) (h6' : (6 : Int) ≤ (s.size : Int)) (a n : Nat) (ha : s[0].toNat = a) (hn : s[1].toNat = n) (ha6 : a < 256) (hn6 : n < 256) (h5 : 6 + (a : Int) * 256 + (n : Int) ≤ (s.size : Int)) (z : Nat) (hz : 6 + a * 256 + n = z) (hz' : 6 + (a : Int) * 256 + (n : Int) = (z : Int)) (hzs : z ≤ s.size) (hz6 : 6 ≤ z) (Hex : Hid ((s.extract 6 z).size ≤ 100000)) (HF : Hid (bs (frameL (s.extract 6 z).data.toList) = s.extract 0 z)) (Hp : Hid (nextL s.data.toList = match parseL (s.extract 6 z).data.toList with | some r => (r, z, 0) | none => (Rec.zero, 0, 3))) :
 Calls Tryz.prog 105 #[.string s] w (NextPost s w) := by
 go_enter Tryz.func105, Tryz.ntmps105
 go_wp2
 go_quiet (fail)
 go_wp2
 go_region_held3 (fun _ => True) (trivial)
  ((go_at_call 58; refine (frame_any _ _ Hex.out).mono ?_; rintro e w1 ⟨rfl, hc1⟩; rw [HF.out]; have q1 := (hc1.block w.heap.size (by simp) (by simp)).trans (heap_at _ _ _ rfl); have r0 := cell_of_heap q1 (i := 0) rfl; have r1 := cell_of_heap q1 (i := 1) rfl; have r2 := cell_of_heap q1 (i := 2) rfl; have f0 := frozen_of_heap q1 (i := 0); have f1 := frozen_of_heap q1 (i := 1); have f2 := frozen_of_heap q1 (i := 2)))
 go_wp2_with fail
 refine (parse_any _ _ Hex.out).mono ?_
 rintro e w2 ⟨c2, h⟩
 have q2 := (c2.block w.heap.size (Nat.lt_of_lt_of_le (by simp) hc1.size) (by simp)).trans q1
 have s0 := cell_of_heap q2 (i := 0) rfl
 have s1 := cell_of_heap q2 (i := 1) rfl
 have s2 := cell_of_heap q2 (i := 2) rfl
 have g0 := frozen_of_heap q2 (i := 0)
 have g1 := frozen_of_heap q2 (i := 1)
 have g2 := frozen_of_heap q2 (i := 2)
 have hcw := ((Chg.refl [] w).alloc (.cells #[.string ⟨#[]⟩, .string ⟨#[]⟩, .bool false] 78)).drewN nq |>.drew.new hc1 |>.new c2
 have Q2 := Lib.hid q2
 clear q1 q2 r0 r1 r2 f0 f1 f2 hc1 c2
 rcases h with ⟨r, hr, rfl⟩ | ⟨hr, r, rfl⟩
 · have hp := Hp.out
   rw [hr] at hp
   have Hp2 := Lib.hid hp
   clear hp hr
   obtain ⟨key, val, del⟩ := r
   simp only [Rec.vals]
   go_wp2
   exact next_ret (r := ⟨key, val, del⟩) (z := z) (n := w.heap.size) (set3 (set3 Q2.out _ _ _) _ _ _) rfl (by simp) rfl ⟨by repeat (first | exact hcw | refine Chg.setCell ?_ (Or.inr (by simp)) _), by rw [Hp2.out]⟩
 · have hp := Hp.out
   rw [hr] at hp
   have Hp2 := Lib.hid hp
   clear hp hr
   obtain ⟨key, val, del⟩ := r
   simp only [Rec.vals]
   go_wp2
   exact next_ret (r := Rec.zero) (z := 0) (n := w.heap.size) (set3 (set3 Q2.out _ _ _) _ _ _) rfl rfl rfl ⟨by repeat (first | exact hcw | refine Chg.setCell ?_ (Or.inr (by simp)) _), by rw [Hp2.out]; rfl⟩
theorem next_any (s : ByteArray) (w : World) (hs : s.size ≤ 100000) : Calls Tryz.prog 105 #[.string s] w (NextPost s w) := by
 by_cases h6 : s.size < 6
 · exact next_short s w h6
 · have h0 : 0 < s.size := by omega
   have h1 : 1 < s.size := by omega
   have hpe := next_eq s h0 h1 h6
   have ha6 : s[0].toNat < 256 := s[0].toNat_lt
   have hn6 : s[1].toNat < 256 := s[1].toNat_lt
   obtain ⟨a, ha⟩ : ∃ a, s[0].toNat = a := ⟨_, rfl⟩
   obtain ⟨n, hn⟩ : ∃ n, s[1].toNat = n := ⟨_, rfl⟩
   rw [ha, hn] at hpe
   rw [ha] at ha6
   rw [hn] at hn6
   by_cases h3 : s.size < 6 + a * 256 + n
   · rw [if_pos h3] at hpe
     exact next_torn s w hs h0 h1 (by omega) a n ha hn ha6 hn6 (by omega) hpe
   · rw [if_neg h3] at hpe
     obtain ⟨z, hz⟩ : ∃ z, 6 + a * 256 + n = z := ⟨_, rfl⟩
     rw [hz] at hpe
     have hex : (s.extract 6 z).size ≤ 100000 := by simp; omega
     by_cases hF : frameL (s.extract 6 z).data.toList = (s.extract 0 z).data.toList
     · rw [if_neg (by simpa using hF)] at hpe
       exact next_parsed s w hs h0 h1 (by omega) a n ha hn ha6 hn6 (by omega) z hz (by omega) (by omega) (by omega) hex (by rw [hF]; rfl) hpe
     · rw [if_pos (by simpa using hF)] at hpe
       exact next_bad s w hs h0 h1 (by omega) a n ha hn ha6 hn6 (by omega) z hz (by omega) (by omega) (by omega) hex _ rfl (by rw [beq_eq_false_iff_ne, ByteArray.toList_eq, ByteArray.toList_eq]; exact hF) hpe
theorem Tryz.infoRec : (Tryz.prog.info? 78 ).map (fun i => (i.zero, i.size, i.bytes)) = some (some (.agg #[.string ⟨#[]⟩, .string ⟨#[]⟩, .bool false]), 3, 40) := by kernel_rfl
def recVals (rs : List Rec) : List Value := rs.flatMap fun r => [.string r.key, .string r.val, .bool r.del]
theorem recVals_snoc (rs : List Rec) (r : Rec) : recVals (rs ++ [r]) = recVals rs ++ [.string r.key, .string r.val, .bool r.del] := by simp [recVals]
def OwnRecs (w : World) (base : Nat) (v : Value) (rs : List Rec) : Prop := w.ownsRow base 78 3 v rs.length (recVals rs)
theorem OwnRecs.nil (w : World) (base : Nat) : OwnRecs w base (.slice none 0 0) [] := World.ownsRow_nil _ _ _ _
theorem ownsRow_kept {w w' : World} {base : Nat} {e : TypeId} {size : Nat} {v : Value} {n : Nat} {xs : List Value} {T : List Nat} (h : w.ownsRow base e size v n xs) (hc : Chg T w w') (hT : ∀ g, base ≤ g → g ∉ T) : w'.ownsRow base e size v n xs := by
 refine ⟨h.1, ?_⟩
 rcases h.2 with hn | ⟨g, cap, cur, rfl, hb, hgg, rest⟩
 · exact .inl hn
 · exact .inr ⟨g, cap, cur, rfl, hb, (hc.block g (lt_of_obj hgg) (hT g hb)).trans hgg, rest⟩
theorem OwnRecs.same {w w' : World} {base : Nat} {v : Value} {rs : List Rec} (h : OwnRecs w base v rs) (hc : Chg [] w w') : OwnRecs w' base v rs := ownsRow_kept h hc (by simp)
theorem own_chg {w w1 : World} {v : Value} {base k size : Nat} {e : TypeId} {cs : List Value} (hv : w.ownsRow base e size v k cs) (hg : w.grownBy w1 v.ownBlock) : Chg v.ownBlock.toList w w1 ∧ ∀ g ∈ v.ownBlock.toList, base ≤ g := by
 refine ⟨(Chg.refl _ w).grown hg (fun j hj => Or.inl (by simp [hj])), fun g hg' => ?_⟩
 rcases hv.2 with ⟨rfl, _⟩ | ⟨g', cap, cur, rfl, hb, hgg, _⟩
 · simp [Value.ownBlock] at hg'
 · simp [Value.ownBlock] at hg'
   subst hg'
   exact hb
theorem news_of {w : World} {g : Nat} {c : Array Value} {E : TypeId} {fr : Nat × Nat} (h : w.heap[g]? = some (.cells c E fr)) : ∀ j u, c.toList[j]? = some u → w.cell? ((⟨g, 0, none⟩ : Addr).add j) = some u := fun j u hu => by
 rw [Addr.add_lit, Nat.zero_add]
 exact cell_of_heap h (by simpa using hu)
def ScanRel (s : ByteArray) (w : World) (v k : Value) (wr : World) : Prop := ∃ (rs : List Rec) (n : Nat), n ≤ s.size ∧ rs.length ≤ n ∧ k = .int .i64 (n : Nat) ∧ OwnRecs wr w.heap.size v rs ∧ Chg [] w wr ∧
 scanL s.data.toList = (rs ++ (scanL (s.data.toList.drop n)).1, n + (scanL (s.data.toList.drop n)).2.1, (scanL (s.data.toList.drop n)).2.2)
def ScanPost (s : ByteArray) (w : World) (e : Ending) (w' : World) : Prop :=
 Chg [] w w' ∧ ∃ v, e = .returned (.tuple #[v, .int .i64 (scanL s.data.toList).2.1, .int .i64 (scanL s.data.toList).2.2]) ∧ OwnRecs w' w.heap.size v (scanL s.data.toList).1
set_option maxRecDepth 100000 in
set_option maxHeartbeats 2000000 in
theorem scan_any (s : ByteArray) (w : World) (hs : s.size ≤ 100000) : Calls Tryz.prog 65 #[.string s] w (ScanPost s w) := by
 obtain ⟨i0, hi, hz0, hz1, hz2⟩ := info_parts Tryz.infoRec
 have Hi0 := Lib.hid hi
 have Hz0 := Lib.hid hz0
 have Hz1 := Lib.hid hz1
 have Hz2 := Lib.hid hz2
 clear hi hz0 hz1 hz2
 have hsl : s.data.toList.length = s.size := Array.length_toList
 have Hsl := Lib.hid hsl
 clear hsl
 go_enter Tryz.func65, Tryz.ntmps65
 go_wp2
 go_loopw [2, 3] (fun v k wr => ScanRel s w v k wr) (fun _ k _ => s.size - (intOf k).toNat)
 case atStart => exact ⟨[], 0, by omega, by simp, rfl, OwnRecs.nil _ _, Chg.refl _ _, by simp⟩
 case round =>
  obtain ⟨rs, n, hn, hrn, rfl, hown, hcw, hsc⟩ := hrel
  have Hown := Lib.hid hown
  have Hsc := Lib.hid hsc
  clear hown hsc
  go_wp2_with fail
  refine (next_any _ _ (by simp; omega)).mono ?_
  rintro e w1 ⟨c1, rfl⟩
  have hdr : (s.extract n s.size).data.toList = s.data.toList.drop n := by
   rw [Lib.extract_data, List.take_of_length_le]
   rw [List.length_drop, Hsl.out]
   omega
  rw [hdr]
  clear hdr
  have hst := scanL_step (s.data.toList.drop n)
  have hms : (nextL (s.data.toList.drop n)).2.1 ≤ s.size - n := by
   have := nextL_size (s.data.toList.drop n)
   rw [List.length_drop, Hsl.out] at this
   exact this
  generalize nextL (s.data.toList.drop n) = q at hst hms ⊢
  obtain ⟨⟨key, val, del⟩, m, er⟩ := q
  simp only at hst hms
  simp only [Rec.vals]
  have hown1 := Hown.out.same c1
  have hcw1 := hcw.new c1
  by_cases hm : m = 0
  · subst hm
    rw [if_pos rfl] at hst
    have hsc := Hsc.out
    rw [hst] at hsc
    have Hsc2 := Lib.hid hsc
    have Hown1 := Lib.hid hown1
    clear hsc hst hown1
    go_wp2
    go_ret3
    refine ⟨hcw1.alloc _, u2, ?_, ?_⟩
    · rw [Hsc2.out]; rfl
    · rw [Hsc2.out, List.append_nil]
      exact Hown1.out.same ((Chg.refl [] _).alloc _)
  · rw [if_neg hm] at hst
    have hsc := Hsc.out
    rw [hst, List.drop_drop] at hsc
    have hm0 : ((m : Int) == 0) = false := by simpa using hm
    have hsc2 : scanL s.data.toList = ((rs ++ [⟨key, val, del⟩]) ++ (scanL (s.data.toList.drop (n + m))).1, (n + m : Nat) + (scanL (s.data.toList.drop (n + m))).2.1, (scanL (s.data.toList.drop (n + m))).2.2) := by
     rw [hsc]; simp; omega
    have Hsc2 := Lib.hid hsc2
    have Hown1 := Lib.hid hown1
    have hm1 : 1 ≤ m := by omega
    clear hsc hst hown1 hsc2 hm
    have hzw : w.heap.size ≤ w1.heap.size := hcw1.size
    go_wp2_with (at_builtin; refine wpList_append_own _ rfl _ _ 83 rfl w.heap.size 78 i0 (.agg #[.string ⟨#[]⟩, .string ⟨#[]⟩, .bool false]) 3 40 Tryz.underlying83 Hi0.out Hz0.out Hz1.out Hz2.out rfl (by decide) u2 rs.length (recVals rs) rfl ((World.ownsRow.alloc Hown1.out _).alloc _) ⟨w1.heap.size + 1, 0, none⟩ 1 1 [.string key, .string val, .bool del] rfl rfl (news_of (heap_at _ _ _ (by simp))) (by simp [Value.oneCell']) (by unfold maxLen; omega) (by omega) (by simp; omega) ?_; intro v8 w8 hown8 hgr8 _)
    have hap := own_chg ((World.ownsRow.alloc Hown1.out (.cells #[.string key, .string val, .bool del] 78)).alloc (.cells #[.string key, .string val, .bool del] 78)) hgr8
    have hcw8 : Chg [] w w8 := ((hcw1.alloc _).alloc _).comp hap.1 (fun g hg => Or.inr (hap.2 g hg))
    have hO : OwnRecs w8 w.heap.size v8 (rs ++ [⟨key, val, del⟩]) := by
     unfold OwnRecs
     rw [recVals_snoc, List.length_append]
     exact hown8
    have HO := Lib.hid hO
    clear hown8 hgr8 hap hO
    go_wp2
    exact ⟨⟨rs ++ [⟨key, val, del⟩], n + m, by omega, by simp; omega, by go_num, HO.out, hcw8, Hsc2.out⟩, by simp [intOf]; omega⟩
def RecoverPost (s : ByteArray) (w : World) (e : Ending) (w' : World) : Prop :=
 Chg [] w w' ∧ ∃ v, e = .returned (.tuple #[.string (bs (s.data.toList.take (scanL s.data.toList).2.1)), v]) ∧ OwnRecs w' w.heap.size v (scanL s.data.toList).1
theorem scanF_size (n : Nat) : ∀ l : List UInt8, (scanF n l).2.1 ≤ l.length := by
 induction n with
 | zero => intro l; simp [scanF]
 | succ n ih =>
   intro l
   have hs := nextL_size l
   unfold scanF
   split
   · simp
   · have := ih (l.drop (nextL l).2.1)
     simp only [List.length_drop] at this ⊢
     omega
theorem scanL_size (l : List UInt8) : (scanL l).2.1 ≤ l.length := scanF_size _ _
set_option maxRecDepth 100000 in
set_option maxHeartbeats 2000000 in
theorem recover_any (s : ByteArray) (w : World) (hs : s.size ≤ 40000) : Calls Tryz.prog 33 #[.string s] w (RecoverPost s w) := by
 have hs1 : s.size ≤ 100000 := by omega
 have hsz := scanL_size s.data.toList
 rw [Array.length_toList] at hsz
 obtain ⟨⟨rs, m, er⟩, hq⟩ : ∃ q, scanL s.data.toList = q := ⟨_, rfl⟩
 rw [hq] at hsz
 have hmz : m ≤ s.size := hsz
 have Hq := Lib.hid hq
 clear hq hsz
 go_enter Tryz.func33, Tryz.ntmps33
 go_wp2_with fail
 refine (scan_any s _ hs1).mono ?_
 rintro e w1 ⟨c1, v, rfl, ho⟩
 rw [Hq.out] at ho ⊢
 simp only at ho ⊢
 have Ho := Lib.hid ho
 clear ho
 go_wp2
 go_ret2
 refine ⟨c1, v, ?_, by rw [Hq.out]; exact Ho.out⟩
 rw [Hq.out, show s.extract 0 m = bs (s.data.toList.take m) from eq_bs (by rw [Lib.extract_data]; simp)]
 rfl
def Recs (w : World) (v : Value) (rs : List Rec) : Prop :=
 (∃ a cap, v = .slice a 0 cap ∧ rs = []) ∨ ∃ g off cap, v = .slice (some ⟨g, off, none⟩) rs.length cap ∧ rs.length ≤ cap ∧ rs.length ≤ maxLen ∧
  ∀ i, i < rs.length → w.cell? ⟨g, off + i * 3, none⟩ = some (.string (rs.getD i Rec.zero).key) ∧ w.cell? ⟨g, off + i * 3 + 1, none⟩ = some (.string (rs.getD i Rec.zero).val) ∧ w.cell? ⟨g, off + i * 3 + 2, none⟩ = some (.bool (rs.getD i Rec.zero).del)
theorem recVals_get (rs : List Rec) : ∀ i, i < rs.length → (recVals rs)[i * 3]? = some (.string (rs.getD i Rec.zero).key) ∧ (recVals rs)[i * 3 + 1]? = some (.string (rs.getD i Rec.zero).val) ∧ (recVals rs)[i * 3 + 2]? = some (.bool (rs.getD i Rec.zero).del) := by
 induction rs with
 | nil => intro i hi; simp at hi
 | cons r rs ih =>
   intro i hi
   cases i with
   | zero => exact ⟨rfl, rfl, rfl⟩
   | succ i =>
     have := ih i (by simpa using hi)
     have e : (i + 1) * 3 = i * 3 + 3 := by omega
     simp only [recVals, List.flatMap_cons, e, List.getD_cons_succ] at this ⊢
     exact this
theorem OwnRecs.recs {w : World} {base : Nat} {v : Value} {rs : List Rec} (h : OwnRecs w base v rs) : Recs w v rs := by
 rcases h.2 with ⟨rfl, h0⟩ | ⟨g, cap, cur, rfl, _, hh, hnc, hcm, _, _⟩
 · exact Or.inl ⟨none, 0, rfl, List.eq_nil_of_length_eq_zero h0⟩
 · refine Or.inr ⟨g, 0, cap, rfl, hnc, by omega, fun i hi => ?_⟩
   have hc := fun {g : Nat} hg => World.ownsRow.cells h (g := g) hg
   obtain ⟨e0, e1, e2⟩ := recVals_get rs i hi
   have k0 := hc (g := g) rfl _ _ e0
   have k1 := hc (g := g) rfl _ _ e1
   have k2 := hc (g := g) rfl _ _ e2
   rw [Addr.add_lit] at k0 k1 k2
   simp only [Nat.zero_add, ← Nat.add_assoc] at k0 k1 k2 ⊢
   exact ⟨k0, k1, k2⟩
theorem Recs.same {w w' : World} {v : Value} {rs : List Rec} (h : Recs w v rs) (hc : Chg [] w w') : Recs w' v rs := by
 rcases h with h | ⟨g, off, cap, h1, h2, h3, h4⟩
 · exact Or.inl h
 · refine Or.inr ⟨g, off, cap, h1, h2, h3, fun i hi => ?_⟩
   obtain ⟨q0, q1, q2⟩ := h4 i hi
   have lg := lt_of_cell q0
   exact ⟨(hc.cell lg (by simp)).trans q0, (hc.cell (p := ⟨g, off + i * 3 + 1, none⟩) lg (by simp)).trans q1, (hc.cell (p := ⟨g, off + i * 3 + 2, none⟩) lg (by simp)).trans q2⟩
end Go.Proofs.YtjlknaahpjiibaaGreatDoor.J
namespace Go.Proofs.YtjlknaahpjiibaaGreatDoor.J
open Go.RowKit
set_option linter.unusedVariables false
theorem logOf_snoc (rs : List Rec) (r : Rec) : logOf (rs ++ [r]) = logOf rs ++ r.frame := by simp [logOf]
theorem torn_next {r : Rec} (h : r.ok) (c : Nat) (hc : c < r.frame.length) : nextL (r.frame.take c) = (Rec.zero, 0, 0) := by
 obtain ⟨hk, hv⟩ := Rec.ok_key h
 have hp := r.pay_length
 have hl : r.frame.length = r.pay.length + 6 := frameL_length _
 have ht : (r.frame.take c).length = c := by rw [List.length_take]; omega
 unfold nextL
 rw [ht]
 by_cases h6 : c < 6
 · rw [if_pos h6]
 · rw [if_neg h6]
   have e : 6 + ((r.frame.take c).getD 0 0).toNat * 256 + ((r.frame.take c).getD 1 0).toNat = r.pay.length + 6 := by
    have := frame_head r.pay [] (by omega)
    rw [List.append_nil] at this
    rw [← this]
    have k : ∀ i, i < c → (r.frame.take c).getD i 0 = (frameL r.pay).getD i 0 := fun i hi => by
     simp [List.getD_eq_getElem?_getD, hi, Rec.frame]
    rw [k 0 (by omega), k 1 (by omega)]
   simp only [e]
   rw [if_pos (by omega)]
theorem torn (rs : List Rec) : ∀ (c : Nat), (∀ r ∈ rs, r.ok) → c ≤ (logOf rs).length →
 ∃ m, m ≤ rs.length ∧ scanL ((logOf rs).take c) = (rs.take m, (logOf (rs.take m)).length, 0) ∧ (logOf (rs.take m)).length ≤ c ∧ (m = rs.length → c = (logOf rs).length) ∧ (m < rs.length → c < (logOf (rs.take (m + 1))).length) := by
 induction rs with
 | nil => intro c _ hc; simp [logOf] at hc; subst hc; exact ⟨0, by simp, rfl, by simp [logOf], fun _ => rfl, fun h => absurd h (by simp)⟩
 | cons r rs ih =>
   intro c h hc
   have hr := h r (by simp)
   have hl : r.frame.length = r.pay.length + 6 := frameL_length _
   have e : logOf (r :: rs) = r.frame ++ logOf rs := by simp [logOf]
   rw [e, List.length_append] at hc
   by_cases hlt : c < r.frame.length
   · refine ⟨0, by simp, ?_, by simp [logOf], by simp, fun _ => by simpa [logOf] using hlt⟩
     rw [e, List.take_append_of_le_length (by omega), scanL_step, torn_next hr c hlt]
     simp [logOf]
   · obtain ⟨d, rfl⟩ : ∃ d, c = r.frame.length + d := ⟨c - r.frame.length, by omega⟩
     obtain ⟨m, h1, h2, h3, h4, h5⟩ := ih d (fun x hx => h x (by simp [hx])) (by omega)
     have em : ∀ j, logOf ((r :: rs).take (j + 1)) = r.frame ++ logOf (rs.take j) := fun j => by simp [logOf]
     refine ⟨m + 1, by simpa using h1, ?_, ?_, ?_, ?_⟩
     · rw [em, e, List.take_length_add_append, scanL_step, frame_next hr]
       simp only
       rw [if_neg (by omega), List.drop_left, h2]
       simp
     · rw [em, List.length_append]; omega
     · intro he
       rw [e, List.length_append, h4 (by simpa using he)]
     · intro he
       rw [em, List.length_append]
       have := h5 (by simpa using he)
       omega
theorem logOf_take (rs : List Rec) (j : Nat) : logOf rs = logOf (rs.take j) ++ logOf (rs.drop j) := by
 unfold logOf
 rw [← List.flatten_append, ← List.map_append, List.take_append_drop]
theorem append_next {rs : List Rec} {m : Nat} (hok : ∀ r ∈ rs, r.ok) (hm : m < rs.length) (hl : (logOf rs).length ≤ 40000) : appendL (logOf (rs.take m)) (rs.getD m Rec.zero) = (logOf (rs.take (m + 1)), 0) := by
 have e0 : rs.getD m Rec.zero = rs[m] := by simp [hm]
 have hr : (rs[m]).ok := hok _ (List.getElem_mem hm)
 have e1 : logOf (rs.take (m + 1)) = logOf (rs.take m) ++ rs[m].frame := by rw [List.take_succ_eq_append_getElem hm, logOf_snoc]
 have e2 : (logOf (rs.take (m + 1))).length ≤ 40000 := by
  have := congrArg List.length (logOf_take rs (m + 1))
  rw [List.length_append] at this
  omega
 rw [e0]
 unfold appendL
 rw [if_neg (by simpa [Rec.ok] using hr), e1, if_neg (by rw [e1, List.length_append] at e2; omega)]
end Go.Proofs.YtjlknaahpjiibaaGreatDoor.J
