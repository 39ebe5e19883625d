/- Frames: Encode, Split. -/
import Derived.Test.YtjcalbjblbbinaaDoorFrC
import Derived.StillTailTactics
namespace Go.Proofs.YtjcalbjblbbinaaDoor
open Go.RowKit Go.ChangeMaps Go.MapKept
set_option linter.unusedVariables false
set_option linter.unusedSimpArgs false
def P10 (w : World) : Prop := Lib.TabIs Tryd.prog w "internal/strconv.uint64pow10" .u64 Lib.pow10Tab
theorem p10_named : Tryd.prog.globalNamed "internal/strconv.uint64pow10" = some 4 := by kernel_rfl
theorem P10.lt {w : World} (h : P10 w) : 4 < w.heap.size := by
  unfold P10 Lib.TabIs World.var? at h
  rw [p10_named, Option.bind_some] at h
  split at h
  · rename_i hb; exact lt_of_obj hb
  · cases h
theorem P10.kept {w w' : World} {S : Nat → Prop} (h : P10 w) (hc : ChgP S w w') (hS : ¬ S 4) : P10 w' := by
  have hl := h.lt
  unfold P10 Lib.TabIs World.var? at h ⊢
  rw [p10_named, Option.bind_some] at h ⊢
  rw [hc.block 4 hl hS]
  exact h
theorem P10.new {w w' : World} (h : P10 w) (hc : Chg [] w w') : P10 w' := h.kept (S := fun _ => False) hc.p (fun h => h)
theorem chg_grow {w w' : World} (h : ∃ k os, w' = Go.Sort.grow (w.drewN k) os) : Chg [] w w' := by
  obtain ⟨k, os, rfl⟩ := h
  refine ⟨rfl, rfl, rfl, by simp [Go.Sort.grow, World.drewN], fun i hi _ => ?_⟩
  show (w.heap ++ os)[i]? = w.heap[i]?
  rw [Array.getElem?_append_left hi]
theorem itoa_any (n : Nat) (w : World) (h1 : n ≤ 4000) (hP : P10 w) : Calls Tryd.prog 15 #[.int .i64 (n : Nat)] w fun e w' => e = .returned (.string (dgs n)) ∧ Chg [] w w' :=
  (Tryd.strconv_Itoa (n : Nat) (by omega) (by omega) w hP).mono fun e w' ⟨h1, h2⟩ => ⟨by rw [h1, itoa_dig]; rfl, chg_grow h2⟩
def frB (b : ByteArray) : ByteArray := ⟨(frame b).toArray⟩
theorem frB_list (b : ByteArray) : (frB b).data.toList = frame b := rfl
theorem frB_size (b : ByteArray) : (frB b).size = (frame b).length := by
  show (frB b).data.toList.length = _
  rw [frB_list]
def EnPost (b : ByteArray) (w : World) (e : Ending) (w' : World) : Prop := (if b.size ≤ 4000 then e = .returned (.tuple #[.string (frB b), .int .i64 0]) else e = .returned (.tuple #[.string ⟨#[]⟩, .int .i64 2])) ∧ Chg [] w w'
set_option maxRecDepth 100000 in
set_option maxHeartbeats 4000000 in
theorem encode_any (b : ByteArray) (w : World) (hP : P10 w) :
    Calls Tryd.prog 9 #[.string b] w (EnPost b w) := by
  by_cases hs : b.size ≤ 4000
  · have hd : decide ((4000 : Int) < b.size) = false := decide_eq_false (by omega)
    have hi := itoa_any b.size w hs hP
    obtain ⟨d, hdd⟩ : ∃ d, d = dgs b.size := ⟨_, rfl⟩
    rw [← hdd] at hi
    have Hi := Lib.hid hi
    have Hd := Lib.hid hdd
    have hds : d.size ≤ 4 := by rw [hdd]; exact (dgs_size hs).2
    have Hs := Lib.hid hs
    clear hi hP hdd
    go_enter Tryd.func9, Tryd.ntmps9
    go_wp2_with fail
    refine Hi.out.mono ?_
    rintro e w1 ⟨rfl, hc1⟩
    have Hc := Lib.hid hc1
    clear hc1
    go_wp2_with fail
    go_ret2
    refine ⟨?_, Hc.out⟩
    rw [if_pos Hs.out]
    have e1 : (⟨#[67, 111, 110, 116, 101, 110, 116, 45, 76, 101, 110, 103, 116, 104, 58, 32]⟩ ++ d ++ ⟨#[13, 10]⟩ ++ ⟨#[13, 10]⟩ ++ b : ByteArray) = frB b := ba_ext (by
      rw [frB_list, Hd.out]
      unfold frame hdl cl dgs
      simp [ByteArray.data_append])
    show Ending.returned (.tuple #[.string (⟨#[67, 111, 110, 116, 101, 110, 116, 45, 76, 101, 110, 103, 116, 104, 58, 32]⟩ ++ d ++ ⟨#[13, 10]⟩ ++ ⟨#[13, 10]⟩ ++ b), .int .i64 0]) = _
    rw [e1]
  · have hd : decide ((4000 : Int) < b.size) = true := decide_eq_true (by omega)
    have Hs := Lib.hid hs
    clear hs
    go_enter Tryd.func9, Tryd.ntmps9
    go_wp2_with fail
    go_ret2
    exact ⟨by rw [if_neg Hs.out]; rfl, Chg.refl _ _⟩
/-- what Split answers on the beginning of a stream -/
def SpPost (L : List ByteArray) (x : ByteArray) (w : World) (e : Ending) (w' : World) : Prop :=
  ∃ (k q : Nat) (a : Option Addr) (cap : Nat), e = .returned (.tuple #[.slice a k cap, .int .i64 (q : Nat), .int .i64 0]) ∧ k ≤ L.length ∧ q = (flat (L.take k)).length ∧ q ≤ x.size ∧ (∀ hk : k < L.length, x.size < q + (frame L[k]).length) ∧ OwnS w' w.heap.size (.slice a k cap) (L.take k) ∧ Chg [] w w'
set_option maxRecDepth 100000 in
set_option maxHeartbeats 8000000 in
theorem split_any (L : List ByteArray) (x : ByteArray) (u : List UInt8) (w : World) (hL : L.length ≤ 100) (hb : ∀ b ∈ L, b.size ≤ 4000) (hx : x.data.toList ++ u = flat L) (hs : x.size ≤ 1000000) (hM : ML w) :
    Calls Tryd.prog 7 #[.string x] w (SpPost L x w) := by
  have HM := Lib.hid (fun W (hc : Chg [] w W) => hM.new hc)
  have HX := Lib.hid hx
  have HB := Lib.hid hb
  have hsl : x.data.toList.length = x.size := rfl
  have Hsl := Lib.hid hsl
  clear hx hb hM hsl
  go_enter Tryd.func7, Tryd.ntmps7
  go_wp2_with fail
  go_loopw [5, 6] (fun vb vo wr => ∃ (k q : Nat) (a : Option Addr) (cap : Nat), vb = .slice a k cap ∧ vo = .int .i64 (q : Nat) ∧ k ≤ L.length ∧ q ≤ x.size ∧ Hid (q = (flat (L.take k)).length ∧ x.data.toList.drop q ++ u = flat (L.drop k)) ∧ Hid (OwnS wr w.heap.size (.slice a k cap) (L.take k) ∧ Chg [] w wr)) (fun _ vo _ => x.size - (intOf vo).toNat)
  case atStart => exact ⟨0, 0, none, 0, rfl, rfl, by omega, by omega, Lib.hid ⟨rfl, by rw [List.drop_zero]; exact HX.out⟩, Lib.hid ⟨OwnS.nil _ _, Chg.refl _ _⟩⟩
  case round =>
    obtain ⟨k, q, a, cap, rfl, rfl, hk, hq, HQ, HR⟩ := hrel
    have hqi : (q : Int) ≤ x.size := by omega
    have hq0 : (0 : Int) ≤ q := by omega
    have hes : (x.extract q x.size).size ≤ 1000000 := by rw [ByteArray.size_extract]; omega
    by_cases hkL : k < L.length
    · have hfl := flat_take hkL
      have hbk := HB.out L[k] (List.getElem_mem hkL)
      rcases flat_head (b := L[k]) (L := L.drop (k + 1)) (x := x.data.toList.drop q) (u := u) (by rw [HQ.out.2, hfl, flat_cons]) with ⟨y, hy, hy2⟩ | ⟨hlt, hpt⟩
      · have Hn := Lib.hid (next_full (x.extract q x.size) L[k] y wr hbk hes (HM.out wr HR.out.2) (by rw [ext_drop]; exact hy))
        have hfp : 21 ≤ (frame L[k]).length := by rw [frame_len]; have := hdl_len hbk; omega
        have htk : L.take (k + 1) = L.take k ++ [L[k]] := by rw [List.take_add_one, List.getElem?_eq_getElem hkL]; rfl
        have hfn := flat_len hkL
        generalize L[k] = b at Hn hy hfp htk hfn
        obtain ⟨f, hf⟩ : ∃ f, f = (frame b).length := ⟨_, rfl⟩
        unfold NxPost at Hn
        rw [← hf] at Hn hfp hfn
        have hqf : q + f ≤ x.size := by
          have h1 := congrArg List.length hy
          have h2 : x.data.toList.length = x.size := rfl
          rw [List.length_drop, List.length_append] at h1
          omega
        have HN : Hid (q + f = (flat (L.take (k + 1))).length ∧ x.data.toList.drop (q + f) ++ u = flat (L.drop (k + 1))) := Lib.hid ⟨by rw [hfn, ← HQ.out.1], by rw [← List.drop_drop, hy, hf, List.drop_left]; exact hy2⟩
        have Htk := Lib.hid htk
        have hf0 : ((f : Int) == 0) = false := by simp; omega
        have hf1 : (f == 0) = false := by simp; omega
        have Hf := Lib.hid hfp
        clear hfl hbk hy hy2 htk hfn hf hfp
        go_wp2_with fail
        refine Hn.out.mono ?_
        rintro e w2 ⟨rfl, hc2⟩
        have H2 : Hid (OwnS w2 w.heap.size (.slice a k cap) (L.take k) ∧ Chg [] w w2) := Lib.hid ⟨HR.out.1.same hc2, HR.out.2.trans hc2⟩
        clear hc2
        obtain ⟨w3, hw3⟩ : ∃ y, y = w2.alloc (.cells #[.string b] 9) := ⟨_, rfl⟩
        obtain ⟨g3, hg3⟩ : ∃ y, y = w2.heap.size := ⟨_, rfl⟩
        have hc3 : Chg [] w2 w3 := by rw [hw3]; exact (Chg.refl _ _).alloc _
        have hb3 : w3.heap[g3]? = some (.cells #[.string b] 9 (0, 0)) := by rw [hw3, hg3]; exact heap_at _ _ _ rfl
        obtain ⟨v4, w4, hr4, ho4, hc4⟩ := run_append_strs w3 22 w.heap.size (fun g => g = g3) (.slice a k cap) (.slice (some ⟨g3, 0, none⟩) 1 1) (L.take k) [b] (H2.out.1.same hc3) (str1_at hb3) (by rw [List.length_take, List.length_singleton]; omega) (Nat.le_trans H2.out.2.size hc3.size)
        have hsh := ownsRow_shape ho4
        rw [← Htk.out, List.length_take, Nat.min_eq_left (by omega)] at hsh
        obtain ⟨a4, c4, rfl⟩ := hsh
        rw [← Htk.out] at ho4
        have H4 : Hid (OwnS w4 w.heap.size (.slice a4 (k + 1) c4) (L.take (k + 1)) ∧ Chg [] w w4) := Lib.hid ⟨ho4, (H2.out.2.trans hc3).comp hc4 fun g hg => Or.inr (by
          have hg' : (Value.slice a k cap).ownBlock = some g := by simpa using hg
          exact (ownsRow_ge H2.out.1 hg').1)⟩
        have HW3 := Lib.hid (And.intro hw3 hg3)
        have Hr4 := Lib.hid hr4
        clear hc3 hb3 ho4 hc4 hw3 hg3 hr4
        go_wp2_with (at_builtin; rw [← HW3.out.1, ← HW3.out.2]; refine wpList_append_run rfl _ _ _ rfl _ _ _ _ rfl rfl Hr4.out ?_)
        refine ⟨⟨k + 1, q + f, a4, c4, rfl, by go_num, by omega, hqf, HN, H4⟩, ?_⟩
        have := Hf.out
        simp [intOf]
        omega
      · have hpp : Pt L[k].size (x.extract q x.size).data.toList := by
          rw [ext_drop, hpt]
          exact part_pt hbk hlt
        have Hn := Lib.hid (next_part (x.extract q x.size) L[k].size wr hbk hes (HM.out wr HR.out.2) hpp)
        have Hlt : Hid (∀ hk : k < L.length, x.size < q + (frame L[k]).length) := Lib.hid (fun _ => by
          have h2 : x.data.toList.length = x.size := rfl
          rw [List.length_drop] at hlt
          omega)
        clear hfl hbk hlt hpt hpp
        unfold NxPost at Hn
        go_wp2_with fail
        refine Hn.out.mono ?_
        rintro e w2 ⟨rfl, hc2⟩
        have H2 : Hid (OwnS w2 w.heap.size (.slice a k cap) (L.take k) ∧ Chg [] w w2) := Lib.hid ⟨HR.out.1.same hc2, HR.out.2.trans hc2⟩
        clear hc2
        go_wp2_with fail
        go_ret3
        exact ⟨k, q, a, cap, rfl, hk, HQ.out.1, hq, Hlt.out, H2.out⟩
    · have hnil : x.data.toList.drop q = [] := by
        have h1 := HQ.out.2
        rw [List.drop_of_length_le (show L.length ≤ k by omega)] at h1
        exact (List.append_eq_nil_iff.1 h1).1
      have Hn := Lib.hid (next_part (x.extract q x.size) 0 wr (by omega) hes (HM.out wr HR.out.2) (by rw [ext_drop, hnil]; exact pt_nil 0))
      unfold NxPost at Hn
      have Hk := Lib.hid hkL
      clear hnil
      go_wp2_with fail
      refine Hn.out.mono ?_
      rintro e w2 ⟨rfl, hc2⟩
      have H2 : Hid (OwnS w2 w.heap.size (.slice a k cap) (L.take k) ∧ Chg [] w w2) := Lib.hid ⟨HR.out.1.same hc2, HR.out.2.trans hc2⟩
      clear hc2
      go_wp2_with fail
      go_ret3
      exact ⟨k, q, a, cap, rfl, hk, HQ.out.1, hq, fun h => absurd h Hk.out, H2.out⟩
end Go.Proofs.YtjcalbjblbbinaaDoor
