/- A server: Respond, Fail, Receive. -/
import Derived.Test.YtiklgipcgdgkoaaDoorJsL
namespace Go.Proofs.YtiklgipcgdgkoaaDoor.Jv
open Go.RowKit Go.ChangeMaps Go.MapKept
set_option linter.unusedVariables false
set_option linter.unusedSimpArgs false
/-- an answer to a job, or none -/
def AnN (js : List Jb) (qs : List Qm) (i : Int) (js' : List Jb) (qs' : List Qm) : Prop :=
  (ckE js i ≠ 0 ∧ js' = js ∧ qs' = qs) ∨ ∃ (n : Nat) (m : Qm), i = n ∧ n < js.length ∧ (js.getD n jd).2.1 = true ∧ js' = ansJ js n ∧ qs' = qs ++ [m] ∧ m.i = (js.getD n jd).1 ∧ Qk m
def RsPost (base : Bs) (sb : Nat) (js : List Jb) (qs : List Qm) (i : Int) (w : World) (e : Ending) (w' : World) : Prop := e = .returned (.int .i64 (ckE js i)) ∧ ∃ js' qs', AnN js qs i js' qs' ∧ SvPost base sb js' qs' w w'
theorem ck_ok {js : List Jb} {i : Int} (h : ckE js i = 0) : ∃ n : Nat, i = n ∧ n < js.length ∧ (js.getD n jd).2.1 = true := by
  unfold ckE at h
  split at h
  · cases h
  · split at h
    · cases h
    · rename_i h1 h2
      exact ⟨i.toNat, by omega, by omega, by simpa [jd] using h2⟩
def IdOk (js : List Jb) : Prop := ∀ j ∈ js, 0 ≤ j.1 ∧ j.1 ≤ 2147483647
theorem IdOk.get {js : List Jb} (h : IdOk js) {n : Nat} (hn : n < js.length) : 0 ≤ (js.getD n jd).1 ∧ (js.getD n jd).1 ≤ 2147483647 := by
  rw [getD_ge hn]; exact h _ (List.getElem_mem hn)
theorem qk_res {i : Int} (h : 0 ≤ i ∧ i ≤ 2147483647) : Qk ⟨3, i, 0, ⟨#[]⟩⟩ := ⟨⟨h, Or.inr (Or.inr ⟨Or.inl rfl, rfl, rfl⟩)⟩, Or.inl rfl⟩
set_option maxRecDepth 100000 in
set_option maxHeartbeats 8000000 in
theorem respond_any (w : World) (base : Bs) (sb jl jn ql qn : Nat) (ja qa : Option Addr) (js : List Jb) (qs : List Qm) (i : Int) (h : Srv w base sb ja jl jn qa ql qn js qs) (hl : js.length ≤ 1000) (hq : qs.length ≤ 1000) (hI : IdOk js) (hT : Tb w) :
    Calls Tryd.prog 20 #[.pointer (some ⟨sb, 0, none⟩), .int .i64 i, .agg #[.int .i64 0, .int .i64 0, .string ⟨#[]⟩, .slice none 0 0, .slice none 0 0]] w (RsPost base sb js qs i w) := by
  obtain ⟨w1, hw1⟩ : ∃ x, x = w.alloc (.cells #[.int .i64 0, .int .i64 0, .string ⟨#[]⟩, .slice none 0 0, .slice none 0 0] 25) := ⟨_, rfl⟩
  obtain ⟨rb, hrb⟩ : ∃ x, x = w.heap.size := ⟨_, rfl⟩
  have hc1 : Chg [] w w1 := by rw [hw1]; exact (Chg.refl _ _).alloc _
  have hr1 : w1.heap[rb]? = some (.cells #[.int .i64 0, .int .i64 0, .string ⟨#[]⟩, .slice none 0 0, .slice none 0 0] 25 (0, 0)) := by rw [hw1, hrb]; exact heap_at _ _ _ rfl
  have H := Lib.hid (fun W (hc : Chg [] w W) => h.new hc)
  have HT := Lib.hid hT
  have HI := Lib.hid hI
  have Hc1 := Lib.hid hc1
  have Hck := Lib.hid (check_any w1 base sb jl jn ql qn ja qa js qs i (h.new hc1) hl)
  have HL := Lib.hid (And.intro h.jl h.ql)
  obtain ⟨b0, b1, b2, b3, b4⟩ := box_kept rb hr1 (Chg.refl [] w1)
  have Hz := Lib.hid (clone_zero w1)
  clear h hc1 hT hr1 hI
  by_cases hz : ckE js i = 0
  · obtain ⟨n, rfl, hn, hp⟩ := ck_ok hz
    have HA := Lib.hid (fun W (hc : Chg [] w W) => answer_any W base sb jl jn ql qn ja qa js qs n 3 0 ⟨#[]⟩ (H.out W hc) hl hq hn (qk_res (HI.out.get hn)).1 (HT.out.new hc))
    have HF := Lib.hid (And.intro hn hp)
    have HZ := Lib.hid hz
    clear hn hp
    unfold mV at HA
    rw [hz] at Hck
    clear hz
    go_enter Tryd.func20, Tryd.ntmps20
    go_upto_region 1 with fail
    rw [← hw1, ← hrb]
    clear hw1 hrb
    go_wp2_with fail
    refine Hck.out.mono ?_
    rintro e w2 ⟨rfl, hw2⟩
    rw [hw2]
    clear hw2
    go_wp2_with fail
    refine Hz.out.mono ?_
    rintro e w3 ⟨rfl, hc3⟩
    have Hc3 := Lib.hid (Hc1.out.trans hc3)
    clear hc3 b0 b1 b2 b3 b4
    go_wp2_with fail
    refine (HA.out w3 Hc3.out).mono ?_
    rintro e w4 ⟨rfl, hS⟩
    have HS := Lib.hid hS
    clear hS
    go_wp2_with fail
    go_ret
    exact ⟨by rw [HZ.out]; rfl, _, _, Or.inr ⟨n, _, rfl, HF.out.1, HF.out.2, rfl, rfl, rfl, qk_res (HI.out.get HF.out.1)⟩, HS.out.after Hc3.out⟩
  · have Hz := Lib.hid hz
    have hz2 : (ckE js i != 0) = true := by simpa using hz
    have HS := Lib.hid (SvPost.after (w := w) ⟨⟨ja, jn, qa, qn, (by rw [← HL.out.1, ← HL.out.2]; exact H.out w1 Hc1.out)⟩, sf_new (base := base) (sb := sb) (Chg.refl [] w1)⟩ Hc1.out)
    have HE : Hid (ckE js i = ckE js i) := Lib.hid rfl
    generalize hze : ckE js i = z at Hck hz hz2
    have HZ := Lib.hid hze
    have HN := Lib.hid (show AnN js qs i js qs from Or.inl ⟨by rw [hze]; exact hz, rfl, rfl⟩)
    clear hze HE hz Hz
    go_enter Tryd.func20, Tryd.ntmps20
    go_upto_region 1 with fail
    rw [← hw1, ← hrb]
    clear hw1 hrb
    go_wp2_with fail
    refine Hck.out.mono ?_
    rintro e w2 ⟨rfl, hw2⟩
    rw [hw2]
    clear hw2
    go_wp2_with fail
    go_ret
    exact ⟨by rw [HZ.out]; rfl, js, qs, HN.out, HS.out⟩
set_option maxRecDepth 100000 in
set_option maxHeartbeats 8000000 in
theorem fail_any (w : World) (base : Bs) (sb jl jn ql qn : Nat) (ja qa : Option Addr) (js : List Jb) (qs : List Qm) (i c : Int) (t : ByteArray) (h : Srv w base sb ja jl jn qa ql qn js qs) (hl : js.length ≤ 1000) (hq : qs.length ≤ 1000) (hI : IdOk js) (hT : Tb w) (hc0 : 1 ≤ c ∧ c ≤ 99) (ht : t.size ≤ 60) (hu : u8 t = true) :
    Calls Tryd.prog 21 #[.pointer (some ⟨sb, 0, none⟩), .int .i64 i, .int .i64 c, .string t] w (RsPost base sb js qs i w) := by
  have H := Lib.hid (fun W (hc : Chg [] w W) => h.new hc)
  have HT := Lib.hid hT
  have HI := Lib.hid hI
  have Hck := Lib.hid (check_any w base sb jl jn ql qn ja qa js qs i h hl)
  have HL := Lib.hid (And.intro h.jl h.ql)
  have Hv := Lib.hid (validText_any t 0 w hT (by omega) ht hu)
  have hc1 : decide (c < 1) = false := decide_eq_false (by omega)
  have hc2 : decide (c > 99) = false := decide_eq_false (by omega)
  have Hcu := Lib.hid (And.intro hc0 (And.intro ht hu))
  have HS0 := Lib.hid (show SvPost base sb js qs w w from ⟨⟨ja, jn, qa, qn, (by rw [← h.jl, ← h.ql]; exact h)⟩, sf_new (Chg.refl [] w)⟩)
  clear h hT hI hc0 ht hu
  by_cases hz : ckE js i = 0
  · obtain ⟨n, rfl, hn, hp⟩ := ck_ok hz
    have HA := Lib.hid (fun W (hc : Chg [] w W) => answer_any W base sb jl jn ql qn ja qa js qs n 4 c t (H.out W hc) hl hq hn (gd4 (HI.out.get hn) Hcu.out.1 Hcu.out.2.1 Hcu.out.2.2).1 (HT.out.new hc))
    have HF := Lib.hid (And.intro hn hp)
    have HZ := Lib.hid hz
    clear hn hp
    unfold mV at HA
    rw [hz] at Hck
    clear hz
    go_enter Tryd.func21, Tryd.ntmps21
    go_wp2_with fail
    refine Hck.out.mono ?_
    rintro e w2 ⟨rfl, hw2⟩
    rw [hw2]
    clear hw2
    go_wp2_with fail
    refine Hv.out.mono ?_
    rintro e w3 ⟨rfl, hc3⟩
    have Hc3 := Lib.hid hc3
    clear hc3
    go_wp2_with fail
    refine (HA.out w3 Hc3.out).mono ?_
    rintro e w4 ⟨rfl, hS⟩
    have HS := Lib.hid hS
    clear hS
    go_wp2_with fail
    go_ret
    exact ⟨by rw [HZ.out]; rfl, _, _, Or.inr ⟨n, _, rfl, HF.out.1, HF.out.2, rfl, rfl, rfl, gd4 (HI.out.get HF.out.1) Hcu.out.1 Hcu.out.2.1 Hcu.out.2.2⟩, HS.out.after Hc3.out⟩
  · have hz2 : (ckE js i != 0) = true := by simpa using hz
    generalize hze : ckE js i = z at Hck hz hz2
    have HZ := Lib.hid hze
    have HN := Lib.hid (show AnN js qs i js qs from Or.inl ⟨by rw [hze]; exact hz, rfl, rfl⟩)
    clear hze hz Hv
    go_enter Tryd.func21, Tryd.ntmps21
    go_wp2_with fail
    refine Hck.out.mono ?_
    rintro e w2 ⟨rfl, hw2⟩
    rw [hw2]
    clear hw2
    go_wp2_with fail
    go_ret
    exact ⟨by rw [HZ.out]; rfl, js, qs, HN.out, HS0.out⟩
/-- what Receive does at a request or a cancel -/
def RcN (k : Int) (js : List Jb) (qs : List Qm) (i : Int) (js' : List Jb) (qs' : List Qm) : Prop := (k = 1 ∧ StN js qs i js' qs') ∨ (k = 5 ∧ prJ js' = prJ js ∧ qs' = qs)
def RcPost (base : Bs) (sb : Nat) (k : Int) (js : List Jb) (qs : List Qm) (i : Int) (w : World) (e : Ending) (w' : World) : Prop := (∃ x y : Int, e = .returned (.tuple #[.agg #[.int .i64 x, .int .i64 y], .int .i64 0])) ∧ ∃ js' qs', RcN k js qs i js' qs' ∧ SvPost base sb js' qs' w w'
set_option maxRecDepth 100000 in
set_option maxHeartbeats 8000000 in
theorem receive_any (w : World) (base : Bs) (sb jl jn ql qn : Nat) (ja qa : Option Addr) (js : List Jb) (qs : List Qm) (k i : Int) (t : ByteArray) (h : Srv w base sb ja jl jn qa ql qn js qs) (hl : js.length ≤ 1000) (hq : qs.length ≤ 1000) (hT : Tb w) (hG : Gd k i 0 t) (hk : k = 1 ∨ k = 5) :
    Calls Tryd.prog 19 #[.pointer (some ⟨sb, 0, none⟩), mV k i 0 t] w (RcPost base sb k js qs i w) := by
  obtain ⟨w1, hw1⟩ : ∃ x, x = (w.alloc (.cells #[.int .i64 k, .int .i64 i, .int .i64 0, .string t, .int .i64 0, .int .i64 0, .string ⟨#[]⟩, .slice none 0 0, .slice none 0 0] 27)).alloc (.cells #[.int .i64 0, .int .i64 0] 50) := ⟨_, rfl⟩
  obtain ⟨mb, hmb⟩ : ∃ x, x = w.heap.size := ⟨_, rfl⟩
  have hc1 : Chg [] w w1 := by rw [hw1]; exact ((Chg.refl _ _).alloc _).alloc _
  have hm1 : w1.heap[mb]? = some (.cells #[.int .i64 k, .int .i64 i, .int .i64 0, .string t, .int .i64 0, .int .i64 0, .string ⟨#[]⟩, .slice none 0 0, .slice none 0 0] 27 (0, 0)) := by
    rw [hw1, hmb, heap_past _ _ _ (by simp)]
    exact heap_at _ _ _ rfl
  have hr1 : AB w1 (mb + 1) := ⟨0, 0, by rw [hw1, hmb]; exact heap_at _ _ _ (by simp)⟩
  have Hc1 := Lib.hid hc1
  have Hm1 := Lib.hid hm1
  have Hr1 := Lib.hid hr1
  have Hgi := hG.1
  have HST := Lib.hid (fun W (hc : Chg [] w W) => start_any W base sb jl jn ql qn ja qa js qs i (h.new hc) hl hq Hgi)
  have HCN := Lib.hid (fun W (hc : Chg [] w W) => cancel_any W base sb jl jn ql qn ja qa js qs i (h.new hc) hl)
  have HE := Lib.hid (enc_msg k i 0 t w1 hG (hT.new hc1))
  have Hne : Hid (mb + 1 ≠ sb ∧ w.heap.size ≤ mb + 1) := Lib.hid ⟨by have h1 := h.sb; have h2 := h.base; omega, by omega⟩
  clear h hc1 hm1 hr1 hG hT Hgi
  unfold mV at *
  go_enter Tryd.func19, Tryd.ntmps19
  go_upto_region 1 with fail
  rw [← hw1, ← hmb]
  clear hw1 hmb
  obtain ⟨m0, m1, m2, m3, m4, m5, m6, m7, m8⟩ := msg_cells mb Hm1.out (Chg.refl [] w1)
  go_wp2_with fail
  refine HE.out.mono ?_
  rintro e w2 ⟨v, rfl, hv, hc2⟩
  obtain ⟨ev, rfl⟩ := hv.ev'
  unfold Ev.val
  clear hv m0 m1 m2 m3 m4 m5 m6 m7 m8
  obtain ⟨w3, hw3⟩ : ∃ x, x = w2.alloc (.cells #[.int .i64 ev.k, .int .i64 ev.n, .string ev.t, .slice ev.na ev.nl ev.nc, .slice ev.ia ev.il ev.ic] 25) := ⟨_, rfl⟩
  have hc3 : Chg [] w1 w3 := by rw [hw3]; exact hc2.alloc _
  have Hc3 := Lib.hid (Hc1.out.trans hc3)
  have Hr3 := Lib.hid (Hr1.out.new hc3)
  obtain ⟨m0, m1, m2, m3, m4, m5, m6, m7, m8⟩ := msg_cells mb Hm1.out hc3
  have lm := lt_of_cell m0
  clear hc2 hc3
  go_upto_region 2 with fail
  rw [← hw3]
  clear hw3
  rcases hk with rfl | rfl
  · go_wp2_with fail
    refine (HST.out w3 Hc3.out).mono ?_
    rintro e w4 ⟨⟨x, y, rfl⟩, js', qs', hN, hS⟩
    have hA4 := AB.sf Hr3.out hS.2 Hne.out.1
    obtain ⟨⟨x4, y4, r0, r1⟩, f0, f1, lr⟩ := hA4.facts
    have HS := Lib.hid (And.intro hS (And.intro hA4 hN))
    clear hS hA4 hN m0 m1 m2 m3 m4 m5 m6 m7 m8 lm
    go_wp2_with fail
    refine bodyPost_ret (v := .tuple #[.agg #[.int .i64 x, .int .i64 y], .int .i64 0]) (by simp [results, Tryd.results19, go_sem, r0, r1]) rfl ?_
    exact ⟨⟨x, y, rfl⟩, js', qs', Or.inl ⟨rfl, HS.out.2.2⟩, act_end (HS.out.1.after Hc3.out) HS.out.2.1 Hne.out.2 Hne.out.1 _ _⟩
  · go_wp2_with fail
    refine (HCN.out w3 Hc3.out).mono ?_
    rintro e w4 ⟨⟨x, y, rfl⟩, js', hN, hS⟩
    have hA4 := AB.sf Hr3.out hS.2 Hne.out.1
    obtain ⟨⟨x4, y4, r0, r1⟩, f0, f1, lr⟩ := hA4.facts
    have HS := Lib.hid (And.intro hS (And.intro hA4 hN))
    clear hS hA4 hN m0 m1 m2 m3 m4 m5 m6 m7 m8 lm
    go_wp2_with fail
    refine bodyPost_ret (v := .tuple #[.agg #[.int .i64 x, .int .i64 y], .int .i64 0]) (by simp [results, Tryd.results19, go_sem, r0, r1]) rfl ?_
    exact ⟨⟨x, y, rfl⟩, js', qs, Or.inr ⟨rfl, HS.out.2.2, rfl⟩, act_end (HS.out.1.after Hc3.out) HS.out.2.1 Hne.out.2 Hne.out.1 _ _⟩
end Go.Proofs.YtiklgipcgdgkoaaDoor.Jv
