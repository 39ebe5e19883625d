/- Part of the proof of topCrashedLaw_holds. -/
import Derived.Test.YtjlknaahpjiibaaGreatDoorQad
import Derived.Test.YtjlknaahpjiibaaGreatDoorQay
namespace Go.Proofs.YtjlknaahpjiibaaGreatDoor.Jv
open Go.RowKit Go.ChangeMaps Go.MapKept
set_option linter.unusedVariables false
set_option linter.unusedSimpArgs false
def u8 (s : ByteArray) : Bool := Lib.validD s.data.toList
def Tb (w : World) : Prop := Lib.Utf8Tabs (Tryz.laysValid_ren.g 3) (Tryz.laysValid_ren.g 4) w
theorem Tb.kept {S : Nat → Prop} {w w' : World} (h : Tb w) (hc : ChgP S w w') (h3 : ¬ S (Tryz.laysValid_ren.g 3)) (h4 : ¬ S (Tryz.laysValid_ren.g 4)) : Tb w' :=
 ⟨fun c hlt => (hc.cell (lt_of_cell (h.1 c hlt)) h3).trans (h.1 c hlt), fun i hi => ⟨(hc.cell (lt_of_cell (h.2 i hi).1) h4).trans (h.2 i hi).1, (hc.cell (lt_of_cell (h.2 i hi).2) h4).trans (h.2 i hi).2⟩⟩
theorem Tb.new {w w' : World} (h : Tb w) (hc : Chg [] w w') : Tb w' := h.kept (S := fun _ => False) hc.p (fun h => h) (fun h => h)
theorem valid_str (s : ByteArray) (w : World) (hs : s.size ≤ maxLen) (hT : Tb w) : Calls Tryz.prog 172 #[.string s] w fun e w' => e = .returned (.bool (u8 s)) ∧ Chg [] w w' :=
 (Any.utf8_ValidString Tryz.laysValid s w (by unfold maxLen at hs; omega) hT).mono fun e w' ⟨h1, h2⟩ => ⟨h1, Chg.of_below h2⟩
set_option maxHeartbeats 1000000 in
theorem bad_str (s : ByteArray) (w : World) (hs : s.size ≤ maxLen) (hT : Tb w) : Calls Tryz.prog 190 #[.string s] w fun e w' => e = .returned (.bool (!u8 s)) ∧ Chg [] w w' := by
 have H := Lib.hid (valid_str s w hs hT)
 go_enter Tryz.func190, Tryz.ntmps190
 go_wp2_with fail
 refine H.out.mono ?_
 rintro e w1 ⟨rfl, hc1⟩
 go_wp2_with fail
 go_ret
 exact ⟨rfl, hc1⟩
set_option maxRecDepth 100000 in
set_option maxHeartbeats 2000000 in
theorem idx_bad (p : Nat → Prop) (w : World) (nv : Value) (l : List ByteArray) (h : SlR p 1 rdS w nv l) (hT : Tb w) :
 Calls Tryz.prog 213 #[nv, .func (.func 190) #[] #[]] w fun e w' => ∃ i : Int, e = .returned (.int .i64 i) ∧ (0 ≤ i ↔ l.all u8 = false) ∧ Chg [] w w' := by
 obtain ⟨a, cap, rfl, hl1, hl2, _⟩ := (show SlR p 1 rdS w nv l from h)
 have H := Lib.hid h
 have HT := Lib.hid hT
 unfold maxLen at hl2
 clear h hT
 go_enter Tryz.func213, Tryz.ntmps213
 go_wp2_with fail
 go_loopw [8] (fun i wr => ∃ n : Nat, n ≤ l.length ∧ i = .int .i64 (n : Nat) ∧ Hid (Chg [] w wr) ∧ Hid ((l.take n).all u8 = true)) (fun i _ => l.length - (intOf i).toNat)
 case atStart => exact ⟨0, by omega, rfl, Lib.hid (Chg.refl _ _), Lib.hid (by simp)⟩
 case round =>
  obtain ⟨n, hn, rfl, Hc, Hal⟩ := hrel
  by_cases hlt : n < l.length
  · have hk1 : (n : Int) < l.length := by omega
    obtain ⟨g, off, rfl, hp, c0, hsz⟩ := SlR.at (strs_kept (S := fun _ => False) H.out Hc.out.p (fun _ _ h => h)) n hlt ⟨#[]⟩
    have htk : l.take (n + 1) = l.take n ++ [l.getD n ⟨#[]⟩] := by rw [List.take_add_one, List.getElem?_eq_getElem hlt, List.getD_eq_getElem?_getD, List.getElem?_eq_getElem hlt]; rfl
    have hmem : l.getD n ⟨#[]⟩ ∈ l := by rw [List.getD_eq_getElem?_getD, List.getElem?_eq_getElem hlt]; exact List.getElem_mem _
    obtain ⟨x, hx⟩ : ∃ x, l.getD n ⟨#[]⟩ = x := ⟨_, rfl⟩
    rw [hx] at c0 hsz htk hmem
    rw [Nat.mul_one] at c0
    have Hb := Lib.hid (bad_str x wr hsz (HT.out.new Hc.out))
    have Htk := Lib.hid (And.intro htk hmem)
    clear htk hmem hx hsz hp
    go_wp2_with fail
    refine Hb.out.mono ?_
    rintro e w1 ⟨rfl, hc1⟩
    have Hc1 := Lib.hid (Hc.out.trans hc1)
    clear hc1
    cases hu : u8 x
    · have Hall := Lib.hid (show l.all u8 = false by rw [List.all_eq_false]; exact ⟨x, Htk.out.2, by simp [hu]⟩)
      clear hu
      simp only [Bool.not_false]
      go_wp2_with fail
      go_ret
      exact ⟨(n : Int), rfl, ⟨fun _ => Hall.out, fun _ => by omega⟩, Hc1.out⟩
    · have Hall := Lib.hid (show (l.take (n + 1)).all u8 = true by rw [Htk.out.1, List.all_append, Hal.out]; simp [hu])
      clear hu
      simp only [Bool.not_true]
      go_wp2_with fail
      exact ⟨⟨n + 1, by omega, by go_num, Hc1, Hall⟩, by simp [intOf]; omega⟩
  · obtain rfl : n = l.length := by omega
    go_wp2_with fail
    go_ret
    have hal := Hal.out
    rw [List.take_length] at hal
    exact ⟨-1, rfl, ⟨fun h => by omega, fun h => by rw [hal] at h; cases h⟩, Hc.out⟩
set_option maxHeartbeats 1000000 in
theorem cont_bad (p : Nat → Prop) (w : World) (nv : Value) (l : List ByteArray) (h : SlR p 1 rdS w nv l) (hT : Tb w) :
 Calls Tryz.prog 189 #[nv, .func (.func 190) #[] #[]] w fun e w' => e = .returned (.bool (!l.all u8)) ∧ Chg [] w w' := by
 obtain ⟨a, cap, rfl, hl1, hl2, _⟩ := (show SlR p 1 rdS w nv l from h)
 have H := Lib.hid (idx_bad p w _ l h hT)
 clear h hT
 go_enter Tryz.func189, Tryz.ntmps189
 go_wp2_with fail
 refine H.out.mono ?_
 rintro e w1 ⟨i, rfl, hi, hc1⟩
 have Hi := Lib.hid hi
 clear hi
 by_cases h0 : 0 ≤ i
 · go_wp2_with fail
   go_ret
   exact ⟨by rw [Hi.out.1 h0]; rfl, hc1⟩
 · go_wp2_with fail
   go_ret
   have : l.all u8 = true := by
    cases hl : l.all u8
    · exact absurd (Hi.out.2 hl) (by omega)
    · rfl
   exact ⟨by rw [this]; simp; omega, hc1⟩
set_option maxHeartbeats 4000000 in
theorem number_any (n : Int) (w : World) : Calls Tryz.prog 123 #[.int .i64 n] w fun e w' => e = .returned (.agg #[.int .i64 2, .int .i64 n, .string ⟨#[]⟩, .slice none 0 0, .slice none 0 0]) ∧ Chg [] w w' := by
 go_enter Tryz.func123, Tryz.ntmps123
 go_wp2_with fail
 refine bodyPost_ret (v := .agg #[.int .i64 2, .int .i64 n, .string ⟨#[]⟩, .slice none 0 0, .slice none 0 0]) (by simp [results, Tryz.results123, go_sem]) rfl ?_
 exact ⟨rfl, (Chg.refl _ _).alloc _⟩
set_option maxHeartbeats 4000000 in
theorem textV_any (s : ByteArray) (w : World) : Calls Tryz.prog 124 #[.string s] w fun e w' => e = .returned (.agg #[.int .i64 3, .int .i64 0, .string s, .slice none 0 0, .slice none 0 0]) ∧ Chg [] w w' := by
 go_enter Tryz.func124, Tryz.ntmps124
 go_wp2_with fail
 refine bodyPost_ret (v := .agg #[.int .i64 3, .int .i64 0, .string s, .slice none 0 0, .slice none 0 0]) (by simp [results, Tryz.results124, go_sem]) rfl ?_
 exact ⟨rfl, (Chg.refl _ _).alloc _⟩
set_option maxHeartbeats 4000000 in
theorem object_any (na ia : Option Addr) (nl nc il ic : Nat) (w : World) : Calls Tryz.prog 87 #[.slice na nl nc, .slice ia il ic] w fun e w' => e = .returned (.agg #[.int .i64 5, .int .i64 0, .string ⟨#[]⟩, .slice na nl nc, .slice ia il ic]) ∧ Chg [] w w' := by
 go_enter Tryz.func87, Tryz.ntmps87
 go_wp2_with fail
 refine bodyPost_ret (v := .agg #[.int .i64 5, .int .i64 0, .string ⟨#[]⟩, .slice na nl nc, .slice ia il ic]) (by simp [results, Tryz.results87, go_sem]) rfl ?_
 exact ⟨rfl, (Chg.refl _ _).alloc _⟩
section
variable {u : ByteArray → Bool} {k n : Int} {t : ByteArray} {ns : List ByteArray} {len : Nat}
theorem wf_n (h : ¬ ((if k = 2 then -9007199254740991 else 0) ≤ n ∧ n ≤ (if k = 1 then 1 else if k = 2 then 9007199254740991 else 0))) : wf u k n t ns len = false := by unfold wf; rw [decide_eq_false h]; rfl
theorem wf_t (h : t ≠ ⟨#[]⟩) (h3 : k ≠ 3) : wf u k n t ns len = false := by unfold wf; rw [decide_eq_false (fun h' : t ≠ ⟨#[]⟩ → k = 3 => h3 (h' h))]; simp
theorem wf_l (h : 0 < len) (h4 : k ≠ 4) (h5 : k ≠ 5) : wf u k n t ns len = false := by unfold wf; rw [decide_eq_false (fun h' : 0 < len → k = 4 ∨ k = 5 => (h' h).elim h4 h5)]; simp
theorem wf_o (h : k = 5) (h' : ¬ (ns.length = len ∧ ns.Nodup)) : wf u k n t ns len = false := by unfold wf; rw [decide_eq_false (fun x : k = 5 → ns.length = len ∧ ns.Nodup => h' (x h))]; simp
theorem wf_m (h : k ≠ 5) (h' : ns ≠ []) : wf u k n t ns len = false := by unfold wf; rw [decide_eq_false (fun x : k ≠ 5 → ns = [] => h' (x h))]; simp
theorem wf_yes (h1 : (if k = 2 then -9007199254740991 else 0) ≤ n ∧ n ≤ (if k = 1 then 1 else if k = 2 then 9007199254740991 else 0)) (h2 : t ≠ ⟨#[]⟩ → k = 3) (h3 : 0 < len → k = 4 ∨ k = 5) (h4 : k = 5 → ns.length = len ∧ ns.Nodup) (h5 : k ≠ 5 → ns = []) : wf u k n t ns len = (u t && ns.all u) := by
 unfold wf
 rw [decide_eq_true h1, decide_eq_true h2, decide_eq_true h3, decide_eq_true h4, decide_eq_true h5]
 simp
end
theorem str_ne {t : ByteArray} (h : t ≠ ⟨#[]⟩) : ¬ t.toList = [] := fun e => h (by
 rw [ByteArray.toList_eq] at e
 obtain ⟨d⟩ := t
 have : d = #[] := Array.ext' (by simpa using e)
 rw [this])
theorem box_kept (b : Nat) {w w' : World} {k n : Int} {t : ByteArray} {nv iv : Value} (h : w.heap[b]? = some (.cells #[.int .i64 k, .int .i64 n, .string t, nv, iv] 59 (0, 0))) (hc : Chg [] w w') :
 w'.cell? ⟨b, 0, none⟩ = some (.int .i64 k) ∧ w'.cell? ⟨b, 1, none⟩ = some (.int .i64 n) ∧ w'.cell? ⟨b, 2, none⟩ = some (.string t) ∧ w'.cell? ⟨b, 3, none⟩ = some nv ∧ w'.cell? ⟨b, 4, none⟩ = some iv := by
 have h' := (hc.block _ (lt_of_obj h) (by simp)).trans h
 exact ⟨cell_of_heap h' rfl, cell_of_heap h' rfl, cell_of_heap h' rfl, cell_of_heap h' rfl, cell_of_heap h' rfl⟩
def WfPost (j : J) (w : World) (e : Ending) (w' : World) : Prop := e = .returned (.bool (wf u8 j.kind j.num j.text j.names j.elems.length)) ∧ Chg [] w w'
set_option maxRecDepth 100000 in
set_option maxHeartbeats 8000000 in
theorem wellFormed_any (p : Nat → Prop) (f : Nat) (w : World) (v : Value) (j : J) (hj : JV p f w v j) (hT : Tb w) (hk : 0 ≤ j.kind ∧ j.kind < 6) :
 Calls Tryz.prog 164 #[v] w (WfPost j w) := by
 obtain ⟨k, n, t, ns, es⟩ := j
 obtain ⟨na, nc, a, cap, rfl, hns, hes, ⟨hn1, hn2⟩, ⟨hl1, hl2⟩, hts⟩ := hj.shape
 simp only [J.kind, J.num, J.text, J.names, J.elems] at hns hes hl1 hl2 hn1 hn2 hts hk ⊢
 obtain ⟨wb, hwb⟩ : ∃ x, x = w.alloc (.cells #[.int .i64 k, .int .i64 n, .string t, .slice na ns.length nc, .slice a es.length cap] 59) := ⟨_, rfl⟩
 have hcb : Chg [] w wb := by rw [hwb]; exact (Chg.refl _ _).alloc _
 have hb : wb.heap[w.heap.size]? = some (.cells #[.int .i64 k, .int .i64 n, .string t, .slice na ns.length nc, .slice a es.length cap] 59 (0, 0)) := by rw [hwb]; exact heap_at _ _ _ rfl
 have Hd := Lib.hid (fun W (hW : Chg [] w W) => dups_any p W _ ns (strs_kept (S := fun _ => False) hns hW.p (fun _ _ h => h)))
 have Hv := Lib.hid (fun W (hW : Chg [] w W) => valid_str t W hts (hT.new hW))
 have Hf := Lib.hid (fun W (hW : Chg [] w W) => cont_bad p W _ ns (strs_kept (S := fun _ => False) hns hW.p (fun _ _ h => h)) (hT.new hW))
 have Hb := Lib.hid hb
 have Hcb := Lib.hid hcb
 unfold maxLen at hn2 hl2
 obtain ⟨R, hR⟩ : ∃ R, R = wf u8 k n t ns es.length := ⟨_, rfl⟩
 have HR := Lib.hid hR
 have b0 : wb.cell? ⟨w.heap.size, 0, none⟩ = some (.int .i64 k) := cell_of_heap hb rfl
 have b1 : wb.cell? ⟨w.heap.size, 1, none⟩ = some (.int .i64 n) := cell_of_heap hb rfl
 have b2 : wb.cell? ⟨w.heap.size, 2, none⟩ = some (.string t) := cell_of_heap hb rfl
 have b3 : wb.cell? ⟨w.heap.size, 3, none⟩ = some (.slice na ns.length nc) := cell_of_heap hb rfl
 have b4 : wb.cell? ⟨w.heap.size, 4, none⟩ = some (.slice a es.length cap) := cell_of_heap hb rfl
 clear hns hes hts hT hb hcb hR hj
 unfold WfPost
 simp only [J.kind, J.num, J.text, J.names, J.elems]
 go_enter Tryz.func164, Tryz.ntmps164
 go_upto_region 1 with fail
 rw [← hwb]
 clear hwb
 rcases (by omega : k = 0 ∨ k = 1 ∨ k = 2 ∨ k = 3 ∨ k = 4 ∨ k = 5) with rfl | rfl | rfl | rfl | rfl | rfl
 · -- kind 0
   by_cases hn : 0 ≤ n ∧ n ≤ 0
   · by_cases ht : t = ⟨#[]⟩
     · subst ht
       · by_cases hl : es.length = 0
         · have hli : ¬ ((0 : Int) < es.length) := by omega
           · by_cases hm : ns.length = 0
             · have hmi : ¬ ((0 : Int) < ns.length) := by omega
               have Hyes := Lib.hid (show wf u8 0 n ⟨#[]⟩ ns es.length = (u8 ⟨#[]⟩ && ns.all u8) from wf_yes (by simpa using hn) (fun h => absurd rfl h) (fun h => by omega) (fun h => absurd h (by decide)) (fun _ => List.length_eq_zero_iff.1 hm))
               obtain ⟨hn1, hn2⟩ := hn
               clear hl hm
               go_wp2_with fail
               all_goals try contradiction
               refine (Hv.out _ Hcb.out).mono ?_
               rintro e w3 ⟨rfl, hc3⟩
               have Hc3 := Lib.hid ((Hcb.out).trans hc3)
               have Hw3 := Lib.hid (hc3)
               clear hc3
               cases hu : u8 ⟨#[]⟩
               · rw [hu] at Hyes
                 have Hy := Lib.hid (Hyes.out.trans (Bool.false_and _))
                 clear hu Hyes
                 go_wp2_with fail
                 go_ret
                 exact ⟨by rw [Hy.out]; rfl, Hc3.out⟩
               · rw [hu] at Hyes
                 have Hy := Lib.hid (Hyes.out.trans (Bool.true_and _))
                 clear hu Hyes
                 obtain ⟨B, hB⟩ : ∃ B, B = ns.all u8 := ⟨_, rfl⟩
                 rw [← hB] at Hf Hy
                 have c0 := box_kept w.heap.size Hb.out Hw3.out
                 obtain ⟨b0, b1, b2, b3, b4⟩ := c0
                 clear hB
                 go_wp2_with fail
                 refine (Hf.out _ Hc3.out).mono ?_
                 rintro e w4 ⟨rfl, hc4⟩
                 have Hc4 := Lib.hid (Hc3.out.trans hc4)
                 clear hc4
                 cases B
                 all_goals
                  go_wp2_with fail
                  go_ret
                  exact ⟨by rw [Hy.out]; rfl, Hc4.out⟩
             · have hmi : (0 : Int) < ns.length := by omega
               have Hno := Lib.hid (show wf u8 0 n ⟨#[]⟩ ns es.length = false from wf_m (by decide) (fun e => hm (by rw [e]; rfl)))
               clear hl hm
               go_wp2_with fail
               all_goals first | contradiction | (exfalso; omega) | (go_ret; exact ⟨by rw [Hno.out]; rfl, Hcb.out⟩)
         · have hli : (0 : Int) < es.length := by omega
           have Hno := Lib.hid (show wf u8 0 n ⟨#[]⟩ ns es.length = false from wf_l (by omega) (by decide) (by decide))
           clear hl
           go_wp2_with fail
           all_goals first | contradiction | (exfalso; omega) | (go_ret; exact ⟨by rw [Hno.out]; rfl, Hcb.out⟩)
     · have htl : ¬ t.toList = [] := str_ne ht
       have hze : (t.toList == []) = false := by rw [beq_eq_false_iff_ne]; exact htl
       have Hno := Lib.hid (show wf u8 0 n t ns es.length = false from wf_t ht (by decide))
       go_wp2_with fail
       all_goals first | contradiction | (exfalso; omega) | (go_ret; exact ⟨by rw [Hno.out]; rfl, Hcb.out⟩)
   · by_cases hnl : n < 0
     · skip
       have Hno := Lib.hid (show wf u8 0 n t ns es.length = false from wf_n (by simpa using hn))
       go_wp2_with fail
       all_goals first | contradiction | (exfalso; omega) | (go_ret; exact ⟨by rw [Hno.out]; rfl, Hcb.out⟩)
     · have hnh : 0 < n := by omega
       have Hno := Lib.hid (show wf u8 0 n t ns es.length = false from wf_n (by simpa using hn))
       go_wp2_with fail
       all_goals first | contradiction | (exfalso; omega) | (go_ret; exact ⟨by rw [Hno.out]; rfl, Hcb.out⟩)
 · -- kind 1
   by_cases hn : 0 ≤ n ∧ n ≤ 1
   · by_cases ht : t = ⟨#[]⟩
     · subst ht
       · by_cases hl : es.length = 0
         · have hli : ¬ ((0 : Int) < es.length) := by omega
           · by_cases hm : ns.length = 0
             · have hmi : ¬ ((0 : Int) < ns.length) := by omega
               have Hyes := Lib.hid (show wf u8 1 n ⟨#[]⟩ ns es.length = (u8 ⟨#[]⟩ && ns.all u8) from wf_yes (by simpa using hn) (fun h => absurd rfl h) (fun h => by omega) (fun h => absurd h (by decide)) (fun _ => List.length_eq_zero_iff.1 hm))
               obtain ⟨hn1, hn2⟩ := hn
               clear hl hm
               go_wp2_with fail
               all_goals try contradiction
               refine (Hv.out _ Hcb.out).mono ?_
               rintro e w3 ⟨rfl, hc3⟩
               have Hc3 := Lib.hid ((Hcb.out).trans hc3)
               have Hw3 := Lib.hid (hc3)
               clear hc3
               cases hu : u8 ⟨#[]⟩
               · rw [hu] at Hyes
                 have Hy := Lib.hid (Hyes.out.trans (Bool.false_and _))
                 clear hu Hyes
                 go_wp2_with fail
                 go_ret
                 exact ⟨by rw [Hy.out]; rfl, Hc3.out⟩
               · rw [hu] at Hyes
                 have Hy := Lib.hid (Hyes.out.trans (Bool.true_and _))
                 clear hu Hyes
                 obtain ⟨B, hB⟩ : ∃ B, B = ns.all u8 := ⟨_, rfl⟩
                 rw [← hB] at Hf Hy
                 have c0 := box_kept w.heap.size Hb.out Hw3.out
                 obtain ⟨b0, b1, b2, b3, b4⟩ := c0
                 clear hB
                 go_wp2_with fail
                 refine (Hf.out _ Hc3.out).mono ?_
                 rintro e w4 ⟨rfl, hc4⟩
                 have Hc4 := Lib.hid (Hc3.out.trans hc4)
                 clear hc4
                 cases B
                 all_goals
                  go_wp2_with fail
                  go_ret
                  exact ⟨by rw [Hy.out]; rfl, Hc4.out⟩
             · have hmi : (0 : Int) < ns.length := by omega
               have Hno := Lib.hid (show wf u8 1 n ⟨#[]⟩ ns es.length = false from wf_m (by decide) (fun e => hm (by rw [e]; rfl)))
               clear hl hm
               go_wp2_with fail
               all_goals first | contradiction | (exfalso; omega) | (go_ret; exact ⟨by rw [Hno.out]; rfl, Hcb.out⟩)
         · have hli : (0 : Int) < es.length := by omega
           have Hno := Lib.hid (show wf u8 1 n ⟨#[]⟩ ns es.length = false from wf_l (by omega) (by decide) (by decide))
           clear hl
           go_wp2_with fail
           all_goals first | contradiction | (exfalso; omega) | (go_ret; exact ⟨by rw [Hno.out]; rfl, Hcb.out⟩)
     · have htl : ¬ t.toList = [] := str_ne ht
       have hze : (t.toList == []) = false := by rw [beq_eq_false_iff_ne]; exact htl
       have Hno := Lib.hid (show wf u8 1 n t ns es.length = false from wf_t ht (by decide))
       go_wp2_with fail
       all_goals first | contradiction | (exfalso; omega) | (go_ret; exact ⟨by rw [Hno.out]; rfl, Hcb.out⟩)
   · by_cases hnl : n < 0
     · skip
       have Hno := Lib.hid (show wf u8 1 n t ns es.length = false from wf_n (by simpa using hn))
       go_wp2_with fail
       all_goals first | contradiction | (exfalso; omega) | (go_ret; exact ⟨by rw [Hno.out]; rfl, Hcb.out⟩)
     · have hnh : 1 < n := by omega
       have Hno := Lib.hid (show wf u8 1 n t ns es.length = false from wf_n (by simpa using hn))
       go_wp2_with fail
       all_goals first | contradiction | (exfalso; omega) | (go_ret; exact ⟨by rw [Hno.out]; rfl, Hcb.out⟩)
 · -- kind 2
   by_cases hn : -9007199254740991 ≤ n ∧ n ≤ 9007199254740991
   · by_cases ht : t = ⟨#[]⟩
     · subst ht
       · by_cases hl : es.length = 0
         · have hli : ¬ ((0 : Int) < es.length) := by omega
           · by_cases hm : ns.length = 0
             · have hmi : ¬ ((0 : Int) < ns.length) := by omega
               have Hyes := Lib.hid (show wf u8 2 n ⟨#[]⟩ ns es.length = (u8 ⟨#[]⟩ && ns.all u8) from wf_yes (by simpa using hn) (fun h => absurd rfl h) (fun h => by omega) (fun h => absurd h (by decide)) (fun _ => List.length_eq_zero_iff.1 hm))
               obtain ⟨hn1, hn2⟩ := hn
               clear hl hm
               go_wp2_with fail
               all_goals try contradiction
               refine (Hv.out _ Hcb.out).mono ?_
               rintro e w3 ⟨rfl, hc3⟩
               have Hc3 := Lib.hid ((Hcb.out).trans hc3)
               have Hw3 := Lib.hid (hc3)
               clear hc3
               cases hu : u8 ⟨#[]⟩
               · rw [hu] at Hyes
                 have Hy := Lib.hid (Hyes.out.trans (Bool.false_and _))
                 clear hu Hyes
                 go_wp2_with fail
                 go_ret
                 exact ⟨by rw [Hy.out]; rfl, Hc3.out⟩
               · rw [hu] at Hyes
                 have Hy := Lib.hid (Hyes.out.trans (Bool.true_and _))
                 clear hu Hyes
                 obtain ⟨B, hB⟩ : ∃ B, B = ns.all u8 := ⟨_, rfl⟩
                 rw [← hB] at Hf Hy
                 have c0 := box_kept w.heap.size Hb.out Hw3.out
                 obtain ⟨b0, b1, b2, b3, b4⟩ := c0
                 clear hB
                 go_wp2_with fail
                 refine (Hf.out _ Hc3.out).mono ?_
                 rintro e w4 ⟨rfl, hc4⟩
                 have Hc4 := Lib.hid (Hc3.out.trans hc4)
                 clear hc4
                 cases B
                 all_goals
                  go_wp2_with fail
                  go_ret
                  exact ⟨by rw [Hy.out]; rfl, Hc4.out⟩
             · have hmi : (0 : Int) < ns.length := by omega
               have Hno := Lib.hid (show wf u8 2 n ⟨#[]⟩ ns es.length = false from wf_m (by decide) (fun e => hm (by rw [e]; rfl)))
               clear hl hm
               go_wp2_with fail
               all_goals first | contradiction | (exfalso; omega) | (go_ret; exact ⟨by rw [Hno.out]; rfl, Hcb.out⟩)
         · have hli : (0 : Int) < es.length := by omega
           have Hno := Lib.hid (show wf u8 2 n ⟨#[]⟩ ns es.length = false from wf_l (by omega) (by decide) (by decide))
           clear hl
           go_wp2_with fail
           all_goals first | contradiction | (exfalso; omega) | (go_ret; exact ⟨by rw [Hno.out]; rfl, Hcb.out⟩)
     · have htl : ¬ t.toList = [] := str_ne ht
       have hze : (t.toList == []) = false := by rw [beq_eq_false_iff_ne]; exact htl
       have Hno := Lib.hid (show wf u8 2 n t ns es.length = false from wf_t ht (by decide))
       go_wp2_with fail
       all_goals first | contradiction | (exfalso; omega) | (go_ret; exact ⟨by rw [Hno.out]; rfl, Hcb.out⟩)
   · by_cases hnl : n < -9007199254740991
     · skip
       have Hno := Lib.hid (show wf u8 2 n t ns es.length = false from wf_n (by simpa using hn))
       go_wp2_with fail
       all_goals first | contradiction | (exfalso; omega) | (go_ret; exact ⟨by rw [Hno.out]; rfl, Hcb.out⟩)
     · have hnh : 9007199254740991 < n := by omega
       have Hno := Lib.hid (show wf u8 2 n t ns es.length = false from wf_n (by simpa using hn))
       go_wp2_with fail
       all_goals first | contradiction | (exfalso; omega) | (go_ret; exact ⟨by rw [Hno.out]; rfl, Hcb.out⟩)
 · -- kind 3
   by_cases hn : 0 ≤ n ∧ n ≤ 0
   · by_cases htl : t.toList = []
     · by_cases hl : es.length = 0
       · have hli : ¬ ((0 : Int) < es.length) := by omega
         · by_cases hm : ns.length = 0
           · have hmi : ¬ ((0 : Int) < ns.length) := by omega
             have Hyes := Lib.hid (show wf u8 3 n t ns es.length = (u8 t && ns.all u8) from wf_yes (by simpa using hn) (fun _ => rfl) (fun h => by omega) (fun h => absurd h (by decide)) (fun _ => List.length_eq_zero_iff.1 hm))
             obtain ⟨hn1, hn2⟩ := hn
             clear hl hm
             go_wp2_with fail
             all_goals try contradiction
             refine (Hv.out _ Hcb.out).mono ?_
             rintro e w3 ⟨rfl, hc3⟩
             have Hc3 := Lib.hid ((Hcb.out).trans hc3)
             have Hw3 := Lib.hid (hc3)
             clear hc3
             cases hu : u8 t
             · rw [hu] at Hyes
               have Hy := Lib.hid (Hyes.out.trans (Bool.false_and _))
               clear hu Hyes
               go_wp2_with fail
               go_ret
               exact ⟨by rw [Hy.out]; rfl, Hc3.out⟩
             · rw [hu] at Hyes
               have Hy := Lib.hid (Hyes.out.trans (Bool.true_and _))
               clear hu Hyes
               obtain ⟨B, hB⟩ : ∃ B, B = ns.all u8 := ⟨_, rfl⟩
               rw [← hB] at Hf Hy
               have c0 := box_kept w.heap.size Hb.out Hw3.out
               obtain ⟨b0, b1, b2, b3, b4⟩ := c0
               clear hB
               go_wp2_with fail
               refine (Hf.out _ Hc3.out).mono ?_
               rintro e w4 ⟨rfl, hc4⟩
               have Hc4 := Lib.hid (Hc3.out.trans hc4)
               clear hc4
               cases B
               all_goals
                go_wp2_with fail
                go_ret
                exact ⟨by rw [Hy.out]; rfl, Hc4.out⟩
           · have hmi : (0 : Int) < ns.length := by omega
             have Hno := Lib.hid (show wf u8 3 n t ns es.length = false from wf_m (by decide) (fun e => hm (by rw [e]; rfl)))
             clear hl hm
             go_wp2_with fail
             all_goals first | contradiction | (exfalso; omega) | (go_ret; exact ⟨by rw [Hno.out]; rfl, Hcb.out⟩)
       · have hli : (0 : Int) < es.length := by omega
         have Hno := Lib.hid (show wf u8 3 n t ns es.length = false from wf_l (by omega) (by decide) (by decide))
         clear hl
         go_wp2_with fail
         all_goals first | contradiction | (exfalso; omega) | (go_ret; exact ⟨by rw [Hno.out]; rfl, Hcb.out⟩)
     · by_cases hl : es.length = 0
       · have hli : ¬ ((0 : Int) < es.length) := by omega
         · by_cases hm : ns.length = 0
           · have hmi : ¬ ((0 : Int) < ns.length) := by omega
             have Hyes := Lib.hid (show wf u8 3 n t ns es.length = (u8 t && ns.all u8) from wf_yes (by simpa using hn) (fun _ => rfl) (fun h => by omega) (fun h => absurd h (by decide)) (fun _ => List.length_eq_zero_iff.1 hm))
             obtain ⟨hn1, hn2⟩ := hn
             clear hl hm
             go_wp2_with fail
             all_goals try contradiction
             refine (Hv.out _ Hcb.out).mono ?_
             rintro e w3 ⟨rfl, hc3⟩
             have Hc3 := Lib.hid ((Hcb.out).trans hc3)
             have Hw3 := Lib.hid (hc3)
             clear hc3
             cases hu : u8 t
             · rw [hu] at Hyes
               have Hy := Lib.hid (Hyes.out.trans (Bool.false_and _))
               clear hu Hyes
               go_wp2_with fail
               go_ret
               exact ⟨by rw [Hy.out]; rfl, Hc3.out⟩
             · rw [hu] at Hyes
               have Hy := Lib.hid (Hyes.out.trans (Bool.true_and _))
               clear hu Hyes
               obtain ⟨B, hB⟩ : ∃ B, B = ns.all u8 := ⟨_, rfl⟩
               rw [← hB] at Hf Hy
               have c0 := box_kept w.heap.size Hb.out Hw3.out
               obtain ⟨b0, b1, b2, b3, b4⟩ := c0
               clear hB
               go_wp2_with fail
               refine (Hf.out _ Hc3.out).mono ?_
               rintro e w4 ⟨rfl, hc4⟩
               have Hc4 := Lib.hid (Hc3.out.trans hc4)
               clear hc4
               cases B
               all_goals
                go_wp2_with fail
                go_ret
                exact ⟨by rw [Hy.out]; rfl, Hc4.out⟩
           · have hmi : (0 : Int) < ns.length := by omega
             have Hno := Lib.hid (show wf u8 3 n t ns es.length = false from wf_m (by decide) (fun e => hm (by rw [e]; rfl)))
             clear hl hm
             go_wp2_with fail
             all_goals first | contradiction | (exfalso; omega) | (go_ret; exact ⟨by rw [Hno.out]; rfl, Hcb.out⟩)
       · have hli : (0 : Int) < es.length := by omega
         have Hno := Lib.hid (show wf u8 3 n t ns es.length = false from wf_l (by omega) (by decide) (by decide))
         clear hl
         go_wp2_with fail
         all_goals first | contradiction | (exfalso; omega) | (go_ret; exact ⟨by rw [Hno.out]; rfl, Hcb.out⟩)
   · by_cases hnl : n < 0
     · skip
       have Hno := Lib.hid (show wf u8 3 n t ns es.length = false from wf_n (by simpa using hn))
       go_wp2_with fail
       all_goals first | contradiction | (exfalso; omega) | (go_ret; exact ⟨by rw [Hno.out]; rfl, Hcb.out⟩)
     · have hnh : 0 < n := by omega
       have Hno := Lib.hid (show wf u8 3 n t ns es.length = false from wf_n (by simpa using hn))
       go_wp2_with fail
       all_goals first | contradiction | (exfalso; omega) | (go_ret; exact ⟨by rw [Hno.out]; rfl, Hcb.out⟩)
 · -- kind 4
   by_cases hn : 0 ≤ n ∧ n ≤ 0
   · by_cases ht : t = ⟨#[]⟩
     · subst ht
       · by_cases hl0 : (0 : Int) < es.length
         · by_cases hm : ns.length = 0
           · have hmi : ¬ ((0 : Int) < ns.length) := by omega
             have Hyes := Lib.hid (show wf u8 4 n ⟨#[]⟩ ns es.length = (u8 ⟨#[]⟩ && ns.all u8) from wf_yes (by simpa using hn) (fun h => absurd rfl h) (fun _ => by decide) (fun h => absurd h (by decide)) (fun _ => List.length_eq_zero_iff.1 hm))
             obtain ⟨hn1, hn2⟩ := hn
             clear hm
             go_wp2_with fail
             all_goals try contradiction
             refine (Hv.out _ Hcb.out).mono ?_
             rintro e w3 ⟨rfl, hc3⟩
             have Hc3 := Lib.hid ((Hcb.out).trans hc3)
             have Hw3 := Lib.hid (hc3)
             clear hc3
             cases hu : u8 ⟨#[]⟩
             · rw [hu] at Hyes
               have Hy := Lib.hid (Hyes.out.trans (Bool.false_and _))
               clear hu Hyes
               go_wp2_with fail
               go_ret
               exact ⟨by rw [Hy.out]; rfl, Hc3.out⟩
             · rw [hu] at Hyes
               have Hy := Lib.hid (Hyes.out.trans (Bool.true_and _))
               clear hu Hyes
               obtain ⟨B, hB⟩ : ∃ B, B = ns.all u8 := ⟨_, rfl⟩
               rw [← hB] at Hf Hy
               have c0 := box_kept w.heap.size Hb.out Hw3.out
               obtain ⟨b0, b1, b2, b3, b4⟩ := c0
               clear hB
               go_wp2_with fail
               refine (Hf.out _ Hc3.out).mono ?_
               rintro e w4 ⟨rfl, hc4⟩
               have Hc4 := Lib.hid (Hc3.out.trans hc4)
               clear hc4
               cases B
               all_goals
                go_wp2_with fail
                go_ret
                exact ⟨by rw [Hy.out]; rfl, Hc4.out⟩
           · have hmi : (0 : Int) < ns.length := by omega
             have Hno := Lib.hid (show wf u8 4 n ⟨#[]⟩ ns es.length = false from wf_m (by decide) (fun e => hm (by rw [e]; rfl)))
             clear hm
             go_wp2_with fail
             all_goals first | contradiction | (exfalso; omega) | (go_ret; exact ⟨by rw [Hno.out]; rfl, Hcb.out⟩)
         · by_cases hm : ns.length = 0
           · have hmi : ¬ ((0 : Int) < ns.length) := by omega
             have Hyes := Lib.hid (show wf u8 4 n ⟨#[]⟩ ns es.length = (u8 ⟨#[]⟩ && ns.all u8) from wf_yes (by simpa using hn) (fun h => absurd rfl h) (fun _ => by decide) (fun h => absurd h (by decide)) (fun _ => List.length_eq_zero_iff.1 hm))
             obtain ⟨hn1, hn2⟩ := hn
             clear hm
             go_wp2_with fail
             all_goals try contradiction
             refine (Hv.out _ Hcb.out).mono ?_
             rintro e w3 ⟨rfl, hc3⟩
             have Hc3 := Lib.hid ((Hcb.out).trans hc3)
             have Hw3 := Lib.hid (hc3)
             clear hc3
             cases hu : u8 ⟨#[]⟩
             · rw [hu] at Hyes
               have Hy := Lib.hid (Hyes.out.trans (Bool.false_and _))
               clear hu Hyes
               go_wp2_with fail
               go_ret
               exact ⟨by rw [Hy.out]; rfl, Hc3.out⟩
             · rw [hu] at Hyes
               have Hy := Lib.hid (Hyes.out.trans (Bool.true_and _))
               clear hu Hyes
               obtain ⟨B, hB⟩ : ∃ B, B = ns.all u8 := ⟨_, rfl⟩
               rw [← hB] at Hf Hy
               have c0 := box_kept w.heap.size Hb.out Hw3.out
               obtain ⟨b0, b1, b2, b3, b4⟩ := c0
               clear hB
               go_wp2_with fail
               refine (Hf.out _ Hc3.out).mono ?_
               rintro e w4 ⟨rfl, hc4⟩
               have Hc4 := Lib.hid (Hc3.out.trans hc4)
               clear hc4
               cases B
               all_goals
                go_wp2_with fail
                go_ret
                exact ⟨by rw [Hy.out]; rfl, Hc4.out⟩
           · have hmi : (0 : Int) < ns.length := by omega
             have Hno := Lib.hid (show wf u8 4 n ⟨#[]⟩ ns es.length = false from wf_m (by decide) (fun e => hm (by rw [e]; rfl)))
             clear hm
             go_wp2_with fail
             all_goals first | contradiction | (exfalso; omega) | (go_ret; exact ⟨by rw [Hno.out]; rfl, Hcb.out⟩)
     · have htl : ¬ t.toList = [] := str_ne ht
       have hze : (t.toList == []) = false := by rw [beq_eq_false_iff_ne]; exact htl
       have Hno := Lib.hid (show wf u8 4 n t ns es.length = false from wf_t ht (by decide))
       go_wp2_with fail
       all_goals first | contradiction | (exfalso; omega) | (go_ret; exact ⟨by rw [Hno.out]; rfl, Hcb.out⟩)
   · by_cases hnl : n < 0
     · skip
       have Hno := Lib.hid (show wf u8 4 n t ns es.length = false from wf_n (by simpa using hn))
       go_wp2_with fail
       all_goals first | contradiction | (exfalso; omega) | (go_ret; exact ⟨by rw [Hno.out]; rfl, Hcb.out⟩)
     · have hnh : 0 < n := by omega
       have Hno := Lib.hid (show wf u8 4 n t ns es.length = false from wf_n (by simpa using hn))
       go_wp2_with fail
       all_goals first | contradiction | (exfalso; omega) | (go_ret; exact ⟨by rw [Hno.out]; rfl, Hcb.out⟩)
 · -- kind 5
   by_cases hn : 0 ≤ n ∧ n ≤ 0
   · by_cases ht : t = ⟨#[]⟩
     · subst ht
       · by_cases hl0 : (0 : Int) < es.length
         · by_cases ho : ns.length = es.length
           · have hoi : decide ((ns.length : Int) = es.length) = true := decide_eq_true (by omega)
             have Ho := Lib.hid ho
             rw [ho] at Hd Hf Hb b3
             clear ho hoi
             go_wp2_with fail
             refine (Hd.out _ Hcb.out).mono ?_
             rintro e w2 ⟨rfl, hc2⟩
             have Hw2 := Lib.hid hc2
             obtain ⟨b0, b1, b2, b3, b4⟩ := box_kept w.heap.size Hb.out hc2
             clear hc2
             by_cases hnd : ns.Nodup
             · rw [decide_eq_false (by simp [hnd])]
               have Hyes := Lib.hid (show wf u8 5 n ⟨#[]⟩ ns es.length = (u8 ⟨#[]⟩ && ns.all u8) from wf_yes (by simpa using hn) (fun h => absurd rfl h) (fun _ => by decide) (fun _ => ⟨Ho.out, hnd⟩) (fun h => absurd rfl h))
               obtain ⟨hn1, hn2⟩ := hn
               go_wp2_with fail
               all_goals try contradiction
               refine (Hv.out _ (Hcb.out.trans Hw2.out)).mono ?_
               rintro e w3 ⟨rfl, hc3⟩
               have Hc3 := Lib.hid (((Hcb.out.trans Hw2.out)).trans hc3)
               have Hw3 := Lib.hid (Hw2.out.trans hc3)
               clear hc3
               cases hu : u8 ⟨#[]⟩
               · rw [hu] at Hyes
                 have Hy := Lib.hid (Hyes.out.trans (Bool.false_and _))
                 clear hu Hyes
                 go_wp2_with fail
                 go_ret
                 exact ⟨by rw [Hy.out]; rfl, Hc3.out⟩
               · rw [hu] at Hyes
                 have Hy := Lib.hid (Hyes.out.trans (Bool.true_and _))
                 clear hu Hyes
                 obtain ⟨B, hB⟩ : ∃ B, B = ns.all u8 := ⟨_, rfl⟩
                 rw [← hB] at Hf Hy
                 have c0 := box_kept w.heap.size Hb.out Hw3.out
                 obtain ⟨b0, b1, b2, b3, b4⟩ := c0
                 clear hB
                 go_wp2_with fail
                 refine (Hf.out _ Hc3.out).mono ?_
                 rintro e w4 ⟨rfl, hc4⟩
                 have Hc4 := Lib.hid (Hc3.out.trans hc4)
                 clear hc4
                 cases B
                 all_goals
                  go_wp2_with fail
                  go_ret
                  exact ⟨by rw [Hy.out]; rfl, Hc4.out⟩
             · rw [decide_eq_true hnd]
               have Hno := Lib.hid (show wf u8 5 n ⟨#[]⟩ ns es.length = false from wf_o rfl (fun h => hnd h.2))
               go_wp2_with fail
               all_goals first | contradiction | (exfalso; omega) | (go_ret; exact ⟨by rw [Hno.out]; rfl, Hcb.out.trans Hw2.out⟩)
           · have hoi : decide ((ns.length : Int) = es.length) = false := decide_eq_false (by omega)
             have hoj : ((ns.length : Int) == (es.length : Int)) = false := by simp; omega
             have Hno := Lib.hid (show wf u8 5 n ⟨#[]⟩ ns es.length = false from wf_o rfl (fun h => ho h.1))
             go_wp2_with fail
             all_goals first | contradiction | (exfalso; omega) | (go_ret; exact ⟨by rw [Hno.out]; rfl, Hcb.out⟩)
         · by_cases ho : ns.length = es.length
           · have hoi : decide ((ns.length : Int) = es.length) = true := decide_eq_true (by omega)
             have Ho := Lib.hid ho
             rw [ho] at Hd Hf Hb b3
             clear ho hoi
             go_wp2_with fail
             refine (Hd.out _ Hcb.out).mono ?_
             rintro e w2 ⟨rfl, hc2⟩
             have Hw2 := Lib.hid hc2
             obtain ⟨b0, b1, b2, b3, b4⟩ := box_kept w.heap.size Hb.out hc2
             clear hc2
             by_cases hnd : ns.Nodup
             · rw [decide_eq_false (by simp [hnd])]
               have Hyes := Lib.hid (show wf u8 5 n ⟨#[]⟩ ns es.length = (u8 ⟨#[]⟩ && ns.all u8) from wf_yes (by simpa using hn) (fun h => absurd rfl h) (fun _ => by decide) (fun _ => ⟨Ho.out, hnd⟩) (fun h => absurd rfl h))
               obtain ⟨hn1, hn2⟩ := hn
               go_wp2_with fail
               all_goals try contradiction
               refine (Hv.out _ (Hcb.out.trans Hw2.out)).mono ?_
               rintro e w3 ⟨rfl, hc3⟩
               have Hc3 := Lib.hid (((Hcb.out.trans Hw2.out)).trans hc3)
               have Hw3 := Lib.hid (Hw2.out.trans hc3)
               clear hc3
               cases hu : u8 ⟨#[]⟩
               · rw [hu] at Hyes
                 have Hy := Lib.hid (Hyes.out.trans (Bool.false_and _))
                 clear hu Hyes
                 go_wp2_with fail
                 go_ret
                 exact ⟨by rw [Hy.out]; rfl, Hc3.out⟩
               · rw [hu] at Hyes
                 have Hy := Lib.hid (Hyes.out.trans (Bool.true_and _))
                 clear hu Hyes
                 obtain ⟨B, hB⟩ : ∃ B, B = ns.all u8 := ⟨_, rfl⟩
                 rw [← hB] at Hf Hy
                 have c0 := box_kept w.heap.size Hb.out Hw3.out
                 obtain ⟨b0, b1, b2, b3, b4⟩ := c0
                 clear hB
                 go_wp2_with fail
                 refine (Hf.out _ Hc3.out).mono ?_
                 rintro e w4 ⟨rfl, hc4⟩
                 have Hc4 := Lib.hid (Hc3.out.trans hc4)
                 clear hc4
                 cases B
                 all_goals
                  go_wp2_with fail
                  go_ret
                  exact ⟨by rw [Hy.out]; rfl, Hc4.out⟩
             · rw [decide_eq_true hnd]
               have Hno := Lib.hid (show wf u8 5 n ⟨#[]⟩ ns es.length = false from wf_o rfl (fun h => hnd h.2))
               go_wp2_with fail
               all_goals first | contradiction | (exfalso; omega) | (go_ret; exact ⟨by rw [Hno.out]; rfl, Hcb.out.trans Hw2.out⟩)
           · have hoi : decide ((ns.length : Int) = es.length) = false := decide_eq_false (by omega)
             have hoj : ((ns.length : Int) == (es.length : Int)) = false := by simp; omega
             have Hno := Lib.hid (show wf u8 5 n ⟨#[]⟩ ns es.length = false from wf_o rfl (fun h => ho h.1))
             go_wp2_with fail
             all_goals first | contradiction | (exfalso; omega) | (go_ret; exact ⟨by rw [Hno.out]; rfl, Hcb.out⟩)
     · have htl : ¬ t.toList = [] := str_ne ht
       have hze : (t.toList == []) = false := by rw [beq_eq_false_iff_ne]; exact htl
       have Hno := Lib.hid (show wf u8 5 n t ns es.length = false from wf_t ht (by decide))
       go_wp2_with fail
       all_goals first | contradiction | (exfalso; omega) | (go_ret; exact ⟨by rw [Hno.out]; rfl, Hcb.out⟩)
   · by_cases hnl : n < 0
     · skip
       have Hno := Lib.hid (show wf u8 5 n t ns es.length = false from wf_n (by simpa using hn))
       go_wp2_with fail
       all_goals first | contradiction | (exfalso; omega) | (go_ret; exact ⟨by rw [Hno.out]; rfl, Hcb.out⟩)
     · have hnh : 0 < n := by omega
       have Hno := Lib.hid (show wf u8 5 n t ns es.length = false from wf_n (by simpa using hn))
       go_wp2_with fail
       all_goals first | contradiction | (exfalso; omega) | (go_ret; exact ⟨by rw [Hno.out]; rfl, Hcb.out⟩)
def VaPost (j : J) (w : World) (e : Ending) (w' : World) : Prop := e = .returned (.int .i64 (j.vd u8)) ∧ Chg [] w w'
theorem Tb.lt {w : World} (h : Tb w) : Tryz.laysValid_ren.g 3 < w.heap.size ∧ Tryz.laysValid_ren.g 4 < w.heap.size := ⟨lt_of_cell (h.1 0 (by decide)), lt_of_cell (h.2 0 (by decide)).1⟩
theorem kind_lo {k : Int} (h : 0 ≤ k ∧ k < 6) : decide (k < 0) = false := decide_eq_false (by omega)
set_option maxRecDepth 100000 in
set_option maxHeartbeats 4000000 in
theorem validate_step (p : Nat → Prop) (f : Nat)
 (ih : ∀ f', f' < f → ∀ (w : World) (j : J) (v : Value), JV p f' w v j → Tb w → Calls Tryz.prog 121 #[v] w (VaPost j w))
 (w : World) (j : J) (v : Value) (hj : JV p f w v j) (hT : Tb w) :
 Calls Tryz.prog 121 #[v] w (VaPost j w) := by
 obtain ⟨k, n, t, ns, es⟩ := j
 obtain ⟨na, nc, a, cap, rfl, hns, hes, _, ⟨hl1, hl2⟩, _⟩ := hj.shape
 simp only [J.kind, J.num, J.text, J.names, J.elems] at hns hes hl1 hl2 hj ⊢
 unfold maxLen at hl2
 obtain ⟨w2, hw2⟩ : ∃ x, x = w.alloc (.cells #[.int .i64 k, .int .i64 n, .string t, .slice na ns.length nc, .slice a es.length cap] 59) := ⟨_, rfl⟩
 have hc2 : Chg [] w w2 := by rw [hw2]; exact (Chg.refl [] w).alloc _
 have hb2 : w2.heap[w.heap.size]? = some (.cells #[.int .i64 k, .int .i64 n, .string t, .slice na ns.length nc, .slice a es.length cap] 59 (0, 0)) := by rw [hw2]; exact heap_at _ _ _ rfl
 have hwf := fun hk => wellFormed_any p f w2 _ (.mk k n t ns es) (hj.kept (S := fun _ => False) hc2.p (fun _ _ h => h)) (hT.new hc2) hk
 have Hwf := Lib.hid hwf
 have Hes := Lib.hid hes
 have HT := Lib.hid hT
 have Hc2 := Lib.hid hc2
 have Hb2 := Lib.hid hb2
 have b0 : w2.cell? ⟨w.heap.size, 0, none⟩ = some (.int .i64 k) := cell_of_heap hb2 rfl
 have b1 : w2.cell? ⟨w.heap.size, 1, none⟩ = some (.int .i64 n) := cell_of_heap hb2 rfl
 have b2 : w2.cell? ⟨w.heap.size, 2, none⟩ = some (.string t) := cell_of_heap hb2 rfl
 have b3 : w2.cell? ⟨w.heap.size, 3, none⟩ = some (.slice na ns.length nc) := cell_of_heap hb2 rfl
 have b4 : w2.cell? ⟨w.heap.size, 4, none⟩ = some (.slice a es.length cap) := cell_of_heap hb2 rfl
 clear hwf hns hes hT hc2 hb2 hj
 have Hvd := Lib.hid (show (J.mk k n t ns es).vd u8 = if k < 0 ∨ 6 ≤ k then 7 else if wf u8 k n t ns es.length = false then 3 else vdL u8 es by rw [J.vd])
 go_enter Tryz.func121, Tryz.ntmps121
 go_upto_region 1 with fail
 rw [← hw2]
 clear hw2
 by_cases hk : 0 ≤ k ∧ k < 6
 · have hk1 := kind_lo hk
   have Hk := Lib.hid hk
   obtain ⟨hk2, hk3⟩ := hk
   go_wp2_with fail
   refine (Hwf.out Hk.out).mono ?_
   rintro e w3 ⟨rfl, hc3⟩
   have Hc3 := Lib.hid hc3
   obtain ⟨b0, b1, b2, b3, b4⟩ := box_kept w.heap.size Hb2.out hc3
   have Hc03 := Lib.hid (Hc2.out.trans hc3)
   clear hc3
   simp only [J.kind, J.num, J.text, J.names, J.elems]
   cases hu : wf u8 k n t ns es.length
   · have Hv := Lib.hid (Hvd.out.trans (by rw [if_neg (by have := Hk.out; omega), if_pos hu]))
     clear hu
     go_wp2_with fail
     go_ret
     exact ⟨by rw [Hv.out]; rfl, Hc03.out⟩
   · have Hv := Lib.hid (Hvd.out.trans (by rw [if_neg (by have := Hk.out; omega), if_neg (by rw [hu]; simp)]))
     clear hu
     go_wp2_with fail
     go_loopw [22] (fun ii wr => ∃ i : Nat, i ≤ es.length ∧ ii = .int .i64 (i : Nat) ∧ Hid (Chg [] w wr) ∧ Hid (vdL u8 es = vdL u8 (es.drop i))) (fun ii _ => es.length - (intOf ii).toNat)
     case atStart => exact ⟨0, by omega, rfl, Hc03, Lib.hid (by simp)⟩
     case round =>
      obtain ⟨i, hi, rfl, Hcr, Hvl⟩ := hrel
      by_cases hlt : i < es.length
      · have hij : (i : Int) < es.length := by omega
        have hesr : SlR p 5 (rdJ p f) wr (.slice a es.length cap) es := SlR.imp Hes.out (fun _ h => h) fun ad x hp hx => rdJ.kept (S := fun _ => False) Hcr.out.p (fun g hg e => e) hp hx
        obtain ⟨g, off, na', nc', ia', ic', rfl, hpg, e0, e1, e2, e3, e4, f', rfl, hjv⟩ := elem_at hesr hlt
        obtain ⟨el, hel⟩ : ∃ el, el = es[i] := ⟨_, rfl⟩
        have hdr : vdL u8 (es.drop i) = if el.vd u8 ≠ 0 then el.vd u8 else vdL u8 (es.drop (i + 1)) := by rw [List.drop_eq_getElem_cons hlt, vdL, hel]
        rw [← hel] at e0 e1 e2 e3 e4 hjv
        obtain ⟨ek, hek⟩ : ∃ x, x = el.kind := ⟨_, rfl⟩
        obtain ⟨en, hen⟩ : ∃ x, x = el.num := ⟨_, rfl⟩
        obtain ⟨et, het⟩ : ∃ x, x = el.text := ⟨_, rfl⟩
        rw [← hek] at e0 hjv
        rw [← hen] at e1 hjv
        rw [← het] at e2 hjv
        obtain ⟨nl, hnl⟩ : ∃ x, x = el.names.length := ⟨_, rfl⟩
        obtain ⟨il, hil⟩ : ∃ x, x = el.elems.length := ⟨_, rfl⟩
        rw [← hnl] at e3 hjv
        rw [← hil] at e4 hjv
        obtain ⟨w4, hw4⟩ : ∃ x, x = wr.alloc (.cells #[.int .i64 ek, .int .i64 en, .string et, .slice na' nl nc', .slice ia' il ic'] 59) := ⟨_, rfl⟩
        have hc4 : Chg [] wr w4 := by rw [hw4]; exact (Chg.refl _ _).alloc _
        have hb4 : w4.heap[wr.heap.size]? = some (.cells #[.int .i64 ek, .int .i64 en, .string et, .slice na' nl nc', .slice ia' il ic'] 59 (0, 0)) := by rw [hw4]; exact heap_at _ _ _ rfl
        obtain ⟨b0, b1, b2, b3, b4⟩ := box_kept wr.heap.size hb4 (Chg.refl [] w4)
        have Hcall := Lib.hid (ih f' (by omega) w4 el _ (hjv.kept (S := fun _ => False) hc4.p (fun _ _ h => h)) (HT.out.new (Hcr.out.trans hc4)))
        have Hc4 := Lib.hid (Hcr.out.trans hc4)
        have Hdr := Lib.hid hdr
        clear hesr hel hek hen het hnl hil hjv hb4 hpg hdr hc4
        go_upto_region 8 with fail
        rw [← hw4]
        clear hw4 e0 e1 e2 e3 e4
        go_wp2_with fail
        refine Hcall.out.mono ?_
        rintro e w5 ⟨rfl, hc5⟩
        have Hc5 := Lib.hid (Hc4.out.trans hc5)
        clear hc5 b0 b1 b2 b3 b4
        obtain ⟨E, hE⟩ : ∃ E, E = el.vd u8 := ⟨_, rfl⟩
        rw [← hE] at Hdr ⊢
        clear hE
        by_cases hz : E = 0
        · subst hz
          have Hvl' := Lib.hid (Hvl.out.trans (Hdr.out.trans (if_neg (by simp))))
          go_wp2_with fail
          exact ⟨⟨i + 1, by omega, by go_num, Hc5, Hvl'⟩, by simp [intOf]; omega⟩
        · have Hvl' := Lib.hid (Hv.out.trans (Hvl.out.trans (Hdr.out.trans (if_pos hz))))
          go_wp2_with fail
          go_ret
          exact ⟨by rw [Hvl'.out]; rfl, Hc5.out⟩
      · obtain rfl : i = es.length := by omega
        have Hvl' := Lib.hid (Hv.out.trans (Hvl.out.trans (by rw [List.drop_length, vdL])))
        go_wp2_with fail
        go_ret
        exact ⟨by rw [Hvl'.out]; rfl, Hcr.out⟩
 · have Hv := Lib.hid (Hvd.out.trans (by rw [if_pos (by omega)]))
   by_cases hkn : k < 0
   · clear hk
     go_wp2_with fail
     go_ret
     exact ⟨by rw [Hv.out]; rfl, Hc2.out⟩
   · have hk6 : 6 ≤ k := by omega
     clear hk
     go_wp2_with fail
     go_ret
     exact ⟨by rw [Hv.out]; rfl, Hc2.out⟩
theorem validate_any (p : Nat → Prop) : ∀ (f : Nat) (w : World) (j : J) (v : Value), JV p f w v j → Tb w → Calls Tryz.prog 121 #[v] w (VaPost j w) := by
 intro f
 induction f using Nat.strongRecOn with
 | ind f ih => exact fun w j v h1 h2 => validate_step p f ih w j v h1 h2
set_option maxHeartbeats 4000000 in
theorem Validate_any (p : Nat → Prop) (f : Nat) (w : World) (j : J) (v : Value) (hj : JV p f w v j) (hT : Tb w) (hp : ∀ g, p g → g < w.heap.size) :
 Calls Tryz.prog 74 #[v] w fun e w' => e = .returned (.int .i64 (j.valid u8)) ∧ Chg [] w w' := by
 obtain ⟨k, n, t, ns, es⟩ := j
 obtain ⟨na, nc, a, cap, rfl, hns, hes, _, ⟨hl1, hl2⟩, _⟩ := hj.shape
 simp only [J.kind, J.num, J.text, J.names, J.elems] at hns hes hl1 hl2 hj ⊢
 obtain ⟨w2, hw2⟩ : ∃ x, x = (w.alloc (.cells #[.int .i64 k, .int .i64 n, .string t, .slice na ns.length nc, .slice a es.length cap] 59)).alloc (.cells #[.int .i64 0] 3) := ⟨_, rfl⟩
 have hc2 : Chg [] w w2 := by rw [hw2]; exact ((Chg.refl [] w).alloc _).alloc _
 have hs1 : (w.alloc (.cells #[.int .i64 k, .int .i64 n, .string t, .slice na ns.length nc, .slice a es.length cap] 59)).heap.size = w.heap.size + 1 := by simp
 have hb2 : w2.heap[w.heap.size]? = some (.cells #[.int .i64 k, .int .i64 n, .string t, .slice na ns.length nc, .slice a es.length cap] 59 (0, 0)) := by
  rw [hw2, heap_past _ _ _ (by rw [hs1]; omega)]
  exact heap_at _ _ _ rfl
 have hbc : w2.heap[w.heap.size + 1]? = some (.cells #[.int .i64 0] 3 (0, 0)) := by rw [hw2]; exact heap_at _ _ _ hs1.symm
 have hj2 := hj.kept (S := fun _ => False) hc2.p (fun _ _ h => h)
 have Hlim := Lib.hid (limits_any p (w.heap.size + 1) (fun h => by have := hp _ h; omega) f w2 _ _ 1 0 hj2 (cell_of_heap hbc rfl) (frozen_of_heap hbc) (by omega) (by omega))
 have Hj2 := Lib.hid hj2
 have Htl := Lib.hid hT.lt
 have HT := Lib.hid (hT.new hc2)
 have Hc2 := Lib.hid hc2
 have Hb2 := Lib.hid hb2
 have Hp := Lib.hid hp
 obtain ⟨b0, b1, b2, b3, b4⟩ := box_kept w.heap.size hb2 (Chg.refl [] w2)
 clear hns hes hj hj2 hT hc2 hb2 hbc hs1 hp
 have Hvd : Hid ((J.mk k n t ns es).valid u8 = if (J.mk k n t ns es).nodes ≤ 400 ∧ (J.mk k n t ns es).depth ≤ 20 then (J.mk k n t ns es).vd u8 else 2) := Lib.hid rfl
 go_enter Tryz.func74, Tryz.ntmps74
 go_upto_region 2 with fail
 rw [← hw2]
 clear hw2
 go_wp2_with fail
 refine Hlim.out.mono ?_
 rintro e w3 ⟨b, c', rfl, hc3, _, _, hb, _⟩
 have Hb := Lib.hid hb
 have Hc3 := Lib.hid hc3
 have Hc03 : Hid (Chg [] w w3) := Lib.hid (Hc2.out.comp hc3 (by simp))
 have hblk := (hc3.block w.heap.size (lt_of_obj Hb2.out) (by simp)).trans Hb2.out
 obtain ⟨b0, b1, b2, b3, b4⟩ := box_kept w.heap.size hblk (Chg.refl [] w3)
 have Hva := Lib.hid (validate_any p f w3 _ _ (Hj2.out.kept hc3.toP (fun g hg h => by have := Hp.out g hg; simp at h; omega)) (HT.out.kept hc3.toP (fun h => by have := Htl.out.1; have h' := List.mem_singleton.1 h; omega) (fun h => by have := Htl.out.2; have h' := List.mem_singleton.1 h; omega)))
 clear hb hc3 hblk
 cases b with
 | true =>
   have Hv := Lib.hid (Hvd.out.trans (if_pos (by have := Hb.out.1 rfl; omega)))
   go_wp2_with fail
   refine Hva.out.mono ?_
   rintro e w4 ⟨rfl, hc4⟩
   have Hc4 := Lib.hid (Hc03.out.trans hc4)
   clear hc4
   go_wp2_with fail
   go_ret
   exact ⟨by rw [Hv.out]; rfl, Hc4.out⟩
 | false =>
   have Hv := Lib.hid (Hvd.out.trans (if_neg (fun h => by have := Hb.out.2 (by omega); cases this)))
   go_wp2_with fail
   go_ret
   exact ⟨by rw [Hv.out]; rfl, Hc03.out⟩
end Go.Proofs.YtjlknaahpjiibaaGreatDoor.Jv
