/- JSON values: wellFormed. -/
import Derived.Test.YtiklgipcgdgkoaaDoorJvC
namespace Go.Proofs.YtiklgipcgdgkoaaDoor.Jv
open Go.RowKit Go.ChangeMaps Go.MapKept
set_option linter.unusedVariables false
set_option linter.unusedSimpArgs false
section
variable {u : ByteArray → Bool} {k n : Int} {t : ByteArray} {ns : List ByteArray} {len : Nat}
theorem wf_n (h : ¬ ((if k = 2 then -9007199254740991 else 0) ≤ n ∧ n ≤ (if k = 1 then 1 else if k = 2 then 9007199254740991 else 0))) : wf u k n t ns len = false := by unfold wf; rw [decide_eq_false h]; rfl
theorem wf_t (h : t ≠ ⟨#[]⟩) (h3 : k ≠ 3) : wf u k n t ns len = false := by unfold wf; rw [decide_eq_false (fun h' : t ≠ ⟨#[]⟩ → k = 3 => h3 (h' h))]; simp
theorem wf_l (h : 0 < len) (h4 : k ≠ 4) (h5 : k ≠ 5) : wf u k n t ns len = false := by unfold wf; rw [decide_eq_false (fun h' : 0 < len → k = 4 ∨ k = 5 => (h' h).elim h4 h5)]; simp
theorem wf_o (h : k = 5) (h' : ¬ (ns.length = len ∧ ns.Nodup)) : wf u k n t ns len = false := by unfold wf; rw [decide_eq_false (fun x : k = 5 → ns.length = len ∧ ns.Nodup => h' (x h))]; simp
theorem wf_m (h : k ≠ 5) (h' : ns ≠ []) : wf u k n t ns len = false := by unfold wf; rw [decide_eq_false (fun x : k ≠ 5 → ns = [] => h' (x h))]; simp
theorem wf_yes (h1 : (if k = 2 then -9007199254740991 else 0) ≤ n ∧ n ≤ (if k = 1 then 1 else if k = 2 then 9007199254740991 else 0)) (h2 : t ≠ ⟨#[]⟩ → k = 3) (h3 : 0 < len → k = 4 ∨ k = 5) (h4 : k = 5 → ns.length = len ∧ ns.Nodup) (h5 : k ≠ 5 → ns = []) : wf u k n t ns len = (u t && ns.all u) := by
  unfold wf
  rw [decide_eq_true h1, decide_eq_true h2, decide_eq_true h3, decide_eq_true h4, decide_eq_true h5]
  simp
end
theorem str_ne {t : ByteArray} (h : t ≠ ⟨#[]⟩) : ¬ t.toList = [] := fun e => h (by
  rw [ByteArray.toList_eq] at e
  obtain ⟨d⟩ := t
  have : d = #[] := Array.ext' (by simpa using e)
  rw [this])
theorem box_kept (b : Nat) {w w' : World} {k n : Int} {t : ByteArray} {nv iv : Value} (h : w.heap[b]? = some (.cells #[.int .i64 k, .int .i64 n, .string t, nv, iv] 25 (0, 0))) (hc : Chg [] w w') :
    w'.cell? ⟨b, 0, none⟩ = some (.int .i64 k) ∧ w'.cell? ⟨b, 1, none⟩ = some (.int .i64 n) ∧ w'.cell? ⟨b, 2, none⟩ = some (.string t) ∧ w'.cell? ⟨b, 3, none⟩ = some nv ∧ w'.cell? ⟨b, 4, none⟩ = some iv := by
  have h' := (hc.block _ (lt_of_obj h) (by simp)).trans h
  exact ⟨cell_of_heap h' rfl, cell_of_heap h' rfl, cell_of_heap h' rfl, cell_of_heap h' rfl, cell_of_heap h' rfl⟩
def WfPost (j : J) (w : World) (e : Ending) (w' : World) : Prop := e = .returned (.bool (wf u8 j.kind j.num j.text j.names j.elems.length)) ∧ Chg [] w w'
set_option maxRecDepth 100000 in
set_option maxHeartbeats 8000000 in
theorem wellFormed_any (p : Nat → Prop) (f : Nat) (w : World) (v : Value) (j : J) (hj : JV p f w v j) (hT : Tb w) (hk : 0 ≤ j.kind ∧ j.kind < 6) :
    Calls Tryd.prog 70 #[v] w (WfPost j w) := by
  obtain ⟨k, n, t, ns, es⟩ := j
  obtain ⟨na, nc, a, cap, rfl, hns, hes, ⟨hn1, hn2⟩, ⟨hl1, hl2⟩, hts⟩ := hj.shape
  simp only [J.kind, J.num, J.text, J.names, J.elems] at hns hes hl1 hl2 hn1 hn2 hts hk ⊢
  obtain ⟨wb, hwb⟩ : ∃ x, x = w.alloc (.cells #[.int .i64 k, .int .i64 n, .string t, .slice na ns.length nc, .slice a es.length cap] 25) := ⟨_, rfl⟩
  have hcb : Chg [] w wb := by rw [hwb]; exact (Chg.refl _ _).alloc _
  have hb : wb.heap[w.heap.size]? = some (.cells #[.int .i64 k, .int .i64 n, .string t, .slice na ns.length nc, .slice a es.length cap] 25 (0, 0)) := by rw [hwb]; exact heap_at _ _ _ rfl
  have Hd := Lib.hid (fun W (hW : Chg [] w W) => dups_any p W _ ns (strs_kept (S := fun _ => False) hns hW.p (fun _ _ h => h)))
  have Hv := Lib.hid (fun W (hW : Chg [] w W) => valid_str t W hts (hT.new hW))
  have Hf := Lib.hid (fun W (hW : Chg [] w W) => cont_bad p W _ ns (strs_kept (S := fun _ => False) hns hW.p (fun _ _ h => h)) (hT.new hW))
  have Hb := Lib.hid hb
  have Hcb := Lib.hid hcb
  unfold maxLen at hn2 hl2
  obtain ⟨R, hR⟩ : ∃ R, R = wf u8 k n t ns es.length := ⟨_, rfl⟩
  have HR := Lib.hid hR
  have b0 : wb.cell? ⟨w.heap.size, 0, none⟩ = some (.int .i64 k) := cell_of_heap hb rfl
  have b1 : wb.cell? ⟨w.heap.size, 1, none⟩ = some (.int .i64 n) := cell_of_heap hb rfl
  have b2 : wb.cell? ⟨w.heap.size, 2, none⟩ = some (.string t) := cell_of_heap hb rfl
  have b3 : wb.cell? ⟨w.heap.size, 3, none⟩ = some (.slice na ns.length nc) := cell_of_heap hb rfl
  have b4 : wb.cell? ⟨w.heap.size, 4, none⟩ = some (.slice a es.length cap) := cell_of_heap hb rfl
  clear hns hes hts hT hb hcb hR hj
  unfold WfPost
  simp only [J.kind, J.num, J.text, J.names, J.elems]
  go_enter Tryd.func70, Tryd.ntmps70
  go_upto_region 1 with fail
  rw [← hwb]
  clear hwb
  rcases (by omega : k = 0 ∨ k = 1 ∨ k = 2 ∨ k = 3 ∨ k = 4 ∨ k = 5) with rfl | rfl | rfl | rfl | rfl | rfl
  · -- kind 0
    by_cases hn : 0 ≤ n ∧ n ≤ 0
    · by_cases ht : t = ⟨#[]⟩
      · subst ht
        · by_cases hl : es.length = 0
          · have hli : ¬ ((0 : Int) < es.length) := by omega
            · by_cases hm : ns.length = 0
              · have hmi : ¬ ((0 : Int) < ns.length) := by omega
                have Hyes := Lib.hid (show wf u8 0 n ⟨#[]⟩ ns es.length = (u8 ⟨#[]⟩ && ns.all u8) from wf_yes (by simpa using hn) (fun h => absurd rfl h) (fun h => by omega) (fun h => absurd h (by decide)) (fun _ => List.length_eq_zero_iff.1 hm))
                obtain ⟨hn1, hn2⟩ := hn
                clear hl hm
                go_wp2_with fail
                all_goals try contradiction
                refine (Hv.out _ Hcb.out).mono ?_
                rintro e w3 ⟨rfl, hc3⟩
                have Hc3 := Lib.hid ((Hcb.out).trans hc3)
                have Hw3 := Lib.hid (hc3)
                clear hc3
                cases hu : u8 ⟨#[]⟩
                · rw [hu] at Hyes
                  have Hy := Lib.hid (Hyes.out.trans (Bool.false_and _))
                  clear hu Hyes
                  go_wp2_with fail
                  go_ret
                  exact ⟨by rw [Hy.out]; rfl, Hc3.out⟩
                · rw [hu] at Hyes
                  have Hy := Lib.hid (Hyes.out.trans (Bool.true_and _))
                  clear hu Hyes
                  obtain ⟨B, hB⟩ : ∃ B, B = ns.all u8 := ⟨_, rfl⟩
                  rw [← hB] at Hf Hy
                  have c0 := box_kept w.heap.size Hb.out Hw3.out
                  obtain ⟨b0, b1, b2, b3, b4⟩ := c0
                  clear hB
                  go_wp2_with fail
                  refine (Hf.out _ Hc3.out).mono ?_
                  rintro e w4 ⟨rfl, hc4⟩
                  have Hc4 := Lib.hid (Hc3.out.trans hc4)
                  clear hc4
                  cases B
                  all_goals
                    go_wp2_with fail
                    go_ret
                    exact ⟨by rw [Hy.out]; rfl, Hc4.out⟩
              · have hmi : (0 : Int) < ns.length := by omega
                have Hno := Lib.hid (show wf u8 0 n ⟨#[]⟩ ns es.length = false from wf_m (by decide) (fun e => hm (by rw [e]; rfl)))
                clear hl hm
                go_wp2_with fail
                all_goals first | contradiction | (exfalso; omega) | (go_ret; exact ⟨by rw [Hno.out]; rfl, Hcb.out⟩)
          · have hli : (0 : Int) < es.length := by omega
            have Hno := Lib.hid (show wf u8 0 n ⟨#[]⟩ ns es.length = false from wf_l (by omega) (by decide) (by decide))
            clear hl
            go_wp2_with fail
            all_goals first | contradiction | (exfalso; omega) | (go_ret; exact ⟨by rw [Hno.out]; rfl, Hcb.out⟩)
      · have htl : ¬ t.toList = [] := str_ne ht
        have hze : (t.toList == []) = false := by rw [beq_eq_false_iff_ne]; exact htl
        have Hno := Lib.hid (show wf u8 0 n t ns es.length = false from wf_t ht (by decide))
        go_wp2_with fail
        all_goals first | contradiction | (exfalso; omega) | (go_ret; exact ⟨by rw [Hno.out]; rfl, Hcb.out⟩)
    · by_cases hnl : n < 0
      · skip
        have Hno := Lib.hid (show wf u8 0 n t ns es.length = false from wf_n (by simpa using hn))
        go_wp2_with fail
        all_goals first | contradiction | (exfalso; omega) | (go_ret; exact ⟨by rw [Hno.out]; rfl, Hcb.out⟩)
      · have hnh : 0 < n := by omega
        have Hno := Lib.hid (show wf u8 0 n t ns es.length = false from wf_n (by simpa using hn))
        go_wp2_with fail
        all_goals first | contradiction | (exfalso; omega) | (go_ret; exact ⟨by rw [Hno.out]; rfl, Hcb.out⟩)
  · -- kind 1
    by_cases hn : 0 ≤ n ∧ n ≤ 1
    · by_cases ht : t = ⟨#[]⟩
      · subst ht
        · by_cases hl : es.length = 0
          · have hli : ¬ ((0 : Int) < es.length) := by omega
            · by_cases hm : ns.length = 0
              · have hmi : ¬ ((0 : Int) < ns.length) := by omega
                have Hyes := Lib.hid (show wf u8 1 n ⟨#[]⟩ ns es.length = (u8 ⟨#[]⟩ && ns.all u8) from wf_yes (by simpa using hn) (fun h => absurd rfl h) (fun h => by omega) (fun h => absurd h (by decide)) (fun _ => List.length_eq_zero_iff.1 hm))
                obtain ⟨hn1, hn2⟩ := hn
                clear hl hm
                go_wp2_with fail
                all_goals try contradiction
                refine (Hv.out _ Hcb.out).mono ?_
                rintro e w3 ⟨rfl, hc3⟩
                have Hc3 := Lib.hid ((Hcb.out).trans hc3)
                have Hw3 := Lib.hid (hc3)
                clear hc3
                cases hu : u8 ⟨#[]⟩
                · rw [hu] at Hyes
                  have Hy := Lib.hid (Hyes.out.trans (Bool.false_and _))
                  clear hu Hyes
                  go_wp2_with fail
                  go_ret
                  exact ⟨by rw [Hy.out]; rfl, Hc3.out⟩
                · rw [hu] at Hyes
                  have Hy := Lib.hid (Hyes.out.trans (Bool.true_and _))
                  clear hu Hyes
                  obtain ⟨B, hB⟩ : ∃ B, B = ns.all u8 := ⟨_, rfl⟩
                  rw [← hB] at Hf Hy
                  have c0 := box_kept w.heap.size Hb.out Hw3.out
                  obtain ⟨b0, b1, b2, b3, b4⟩ := c0
                  clear hB
                  go_wp2_with fail
                  refine (Hf.out _ Hc3.out).mono ?_
                  rintro e w4 ⟨rfl, hc4⟩
                  have Hc4 := Lib.hid (Hc3.out.trans hc4)
                  clear hc4
                  cases B
                  all_goals
                    go_wp2_with fail
                    go_ret
                    exact ⟨by rw [Hy.out]; rfl, Hc4.out⟩
              · have hmi : (0 : Int) < ns.length := by omega
                have Hno := Lib.hid (show wf u8 1 n ⟨#[]⟩ ns es.length = false from wf_m (by decide) (fun e => hm (by rw [e]; rfl)))
                clear hl hm
                go_wp2_with fail
                all_goals first | contradiction | (exfalso; omega) | (go_ret; exact ⟨by rw [Hno.out]; rfl, Hcb.out⟩)
          · have hli : (0 : Int) < es.length := by omega
            have Hno := Lib.hid (show wf u8 1 n ⟨#[]⟩ ns es.length = false from wf_l (by omega) (by decide) (by decide))
            clear hl
            go_wp2_with fail
            all_goals first | contradiction | (exfalso; omega) | (go_ret; exact ⟨by rw [Hno.out]; rfl, Hcb.out⟩)
      · have htl : ¬ t.toList = [] := str_ne ht
        have hze : (t.toList == []) = false := by rw [beq_eq_false_iff_ne]; exact htl
        have Hno := Lib.hid (show wf u8 1 n t ns es.length = false from wf_t ht (by decide))
        go_wp2_with fail
        all_goals first | contradiction | (exfalso; omega) | (go_ret; exact ⟨by rw [Hno.out]; rfl, Hcb.out⟩)
    · by_cases hnl : n < 0
      · skip
        have Hno := Lib.hid (show wf u8 1 n t ns es.length = false from wf_n (by simpa using hn))
        go_wp2_with fail
        all_goals first | contradiction | (exfalso; omega) | (go_ret; exact ⟨by rw [Hno.out]; rfl, Hcb.out⟩)
      · have hnh : 1 < n := by omega
        have Hno := Lib.hid (show wf u8 1 n t ns es.length = false from wf_n (by simpa using hn))
        go_wp2_with fail
        all_goals first | contradiction | (exfalso; omega) | (go_ret; exact ⟨by rw [Hno.out]; rfl, Hcb.out⟩)
  · -- kind 2
    by_cases hn : -9007199254740991 ≤ n ∧ n ≤ 9007199254740991
    · by_cases ht : t = ⟨#[]⟩
      · subst ht
        · by_cases hl : es.length = 0
          · have hli : ¬ ((0 : Int) < es.length) := by omega
            · by_cases hm : ns.length = 0
              · have hmi : ¬ ((0 : Int) < ns.length) := by omega
                have Hyes := Lib.hid (show wf u8 2 n ⟨#[]⟩ ns es.length = (u8 ⟨#[]⟩ && ns.all u8) from wf_yes (by simpa using hn) (fun h => absurd rfl h) (fun h => by omega) (fun h => absurd h (by decide)) (fun _ => List.length_eq_zero_iff.1 hm))
                obtain ⟨hn1, hn2⟩ := hn
                clear hl hm
                go_wp2_with fail
                all_goals try contradiction
                refine (Hv.out _ Hcb.out).mono ?_
                rintro e w3 ⟨rfl, hc3⟩
                have Hc3 := Lib.hid ((Hcb.out).trans hc3)
                have Hw3 := Lib.hid (hc3)
                clear hc3
                cases hu : u8 ⟨#[]⟩
                · rw [hu] at Hyes
                  have Hy := Lib.hid (Hyes.out.trans (Bool.false_and _))
                  clear hu Hyes
                  go_wp2_with fail
                  go_ret
                  exact ⟨by rw [Hy.out]; rfl, Hc3.out⟩
                · rw [hu] at Hyes
                  have Hy := Lib.hid (Hyes.out.trans (Bool.true_and _))
                  clear hu Hyes
                  obtain ⟨B, hB⟩ : ∃ B, B = ns.all u8 := ⟨_, rfl⟩
                  rw [← hB] at Hf Hy
                  have c0 := box_kept w.heap.size Hb.out Hw3.out
                  obtain ⟨b0, b1, b2, b3, b4⟩ := c0
                  clear hB
                  go_wp2_with fail
                  refine (Hf.out _ Hc3.out).mono ?_
                  rintro e w4 ⟨rfl, hc4⟩
                  have Hc4 := Lib.hid (Hc3.out.trans hc4)
                  clear hc4
                  cases B
                  all_goals
                    go_wp2_with fail
                    go_ret
                    exact ⟨by rw [Hy.out]; rfl, Hc4.out⟩
              · have hmi : (0 : Int) < ns.length := by omega
                have Hno := Lib.hid (show wf u8 2 n ⟨#[]⟩ ns es.length = false from wf_m (by decide) (fun e => hm (by rw [e]; rfl)))
                clear hl hm
                go_wp2_with fail
                all_goals first | contradiction | (exfalso; omega) | (go_ret; exact ⟨by rw [Hno.out]; rfl, Hcb.out⟩)
          · have hli : (0 : Int) < es.length := by omega
            have Hno := Lib.hid (show wf u8 2 n ⟨#[]⟩ ns es.length = false from wf_l (by omega) (by decide) (by decide))
            clear hl
            go_wp2_with fail
            all_goals first | contradiction | (exfalso; omega) | (go_ret; exact ⟨by rw [Hno.out]; rfl, Hcb.out⟩)
      · have htl : ¬ t.toList = [] := str_ne ht
        have hze : (t.toList == []) = false := by rw [beq_eq_false_iff_ne]; exact htl
        have Hno := Lib.hid (show wf u8 2 n t ns es.length = false from wf_t ht (by decide))
        go_wp2_with fail
        all_goals first | contradiction | (exfalso; omega) | (go_ret; exact ⟨by rw [Hno.out]; rfl, Hcb.out⟩)
    · by_cases hnl : n < -9007199254740991
      · skip
        have Hno := Lib.hid (show wf u8 2 n t ns es.length = false from wf_n (by simpa using hn))
        go_wp2_with fail
        all_goals first | contradiction | (exfalso; omega) | (go_ret; exact ⟨by rw [Hno.out]; rfl, Hcb.out⟩)
      · have hnh : 9007199254740991 < n := by omega
        have Hno := Lib.hid (show wf u8 2 n t ns es.length = false from wf_n (by simpa using hn))
        go_wp2_with fail
        all_goals first | contradiction | (exfalso; omega) | (go_ret; exact ⟨by rw [Hno.out]; rfl, Hcb.out⟩)
  · -- kind 3
    by_cases hn : 0 ≤ n ∧ n ≤ 0
    · by_cases htl : t.toList = []
      · by_cases hl : es.length = 0
        · have hli : ¬ ((0 : Int) < es.length) := by omega
          · by_cases hm : ns.length = 0
            · have hmi : ¬ ((0 : Int) < ns.length) := by omega
              have Hyes := Lib.hid (show wf u8 3 n t ns es.length = (u8 t && ns.all u8) from wf_yes (by simpa using hn) (fun _ => rfl) (fun h => by omega) (fun h => absurd h (by decide)) (fun _ => List.length_eq_zero_iff.1 hm))
              obtain ⟨hn1, hn2⟩ := hn
              clear hl hm
              go_wp2_with fail
              all_goals try contradiction
              refine (Hv.out _ Hcb.out).mono ?_
              rintro e w3 ⟨rfl, hc3⟩
              have Hc3 := Lib.hid ((Hcb.out).trans hc3)
              have Hw3 := Lib.hid (hc3)
              clear hc3
              cases hu : u8 t
              · rw [hu] at Hyes
                have Hy := Lib.hid (Hyes.out.trans (Bool.false_and _))
                clear hu Hyes
                go_wp2_with fail
                go_ret
                exact ⟨by rw [Hy.out]; rfl, Hc3.out⟩
              · rw [hu] at Hyes
                have Hy := Lib.hid (Hyes.out.trans (Bool.true_and _))
                clear hu Hyes
                obtain ⟨B, hB⟩ : ∃ B, B = ns.all u8 := ⟨_, rfl⟩
                rw [← hB] at Hf Hy
                have c0 := box_kept w.heap.size Hb.out Hw3.out
                obtain ⟨b0, b1, b2, b3, b4⟩ := c0
                clear hB
                go_wp2_with fail
                refine (Hf.out _ Hc3.out).mono ?_
                rintro e w4 ⟨rfl, hc4⟩
                have Hc4 := Lib.hid (Hc3.out.trans hc4)
                clear hc4
                cases B
                all_goals
                  go_wp2_with fail
                  go_ret
                  exact ⟨by rw [Hy.out]; rfl, Hc4.out⟩
            · have hmi : (0 : Int) < ns.length := by omega
              have Hno := Lib.hid (show wf u8 3 n t ns es.length = false from wf_m (by decide) (fun e => hm (by rw [e]; rfl)))
              clear hl hm
              go_wp2_with fail
              all_goals first | contradiction | (exfalso; omega) | (go_ret; exact ⟨by rw [Hno.out]; rfl, Hcb.out⟩)
        · have hli : (0 : Int) < es.length := by omega
          have Hno := Lib.hid (show wf u8 3 n t ns es.length = false from wf_l (by omega) (by decide) (by decide))
          clear hl
          go_wp2_with fail
          all_goals first | contradiction | (exfalso; omega) | (go_ret; exact ⟨by rw [Hno.out]; rfl, Hcb.out⟩)
      · by_cases hl : es.length = 0
        · have hli : ¬ ((0 : Int) < es.length) := by omega
          · by_cases hm : ns.length = 0
            · have hmi : ¬ ((0 : Int) < ns.length) := by omega
              have Hyes := Lib.hid (show wf u8 3 n t ns es.length = (u8 t && ns.all u8) from wf_yes (by simpa using hn) (fun _ => rfl) (fun h => by omega) (fun h => absurd h (by decide)) (fun _ => List.length_eq_zero_iff.1 hm))
              obtain ⟨hn1, hn2⟩ := hn
              clear hl hm
              go_wp2_with fail
              all_goals try contradiction
              refine (Hv.out _ Hcb.out).mono ?_
              rintro e w3 ⟨rfl, hc3⟩
              have Hc3 := Lib.hid ((Hcb.out).trans hc3)
              have Hw3 := Lib.hid (hc3)
              clear hc3
              cases hu : u8 t
              · rw [hu] at Hyes
                have Hy := Lib.hid (Hyes.out.trans (Bool.false_and _))
                clear hu Hyes
                go_wp2_with fail
                go_ret
                exact ⟨by rw [Hy.out]; rfl, Hc3.out⟩
              · rw [hu] at Hyes
                have Hy := Lib.hid (Hyes.out.trans (Bool.true_and _))
                clear hu Hyes
                obtain ⟨B, hB⟩ : ∃ B, B = ns.all u8 := ⟨_, rfl⟩
                rw [← hB] at Hf Hy
                have c0 := box_kept w.heap.size Hb.out Hw3.out
                obtain ⟨b0, b1, b2, b3, b4⟩ := c0
                clear hB
                go_wp2_with fail
                refine (Hf.out _ Hc3.out).mono ?_
                rintro e w4 ⟨rfl, hc4⟩
                have Hc4 := Lib.hid (Hc3.out.trans hc4)
                clear hc4
                cases B
                all_goals
                  go_wp2_with fail
                  go_ret
                  exact ⟨by rw [Hy.out]; rfl, Hc4.out⟩
            · have hmi : (0 : Int) < ns.length := by omega
              have Hno := Lib.hid (show wf u8 3 n t ns es.length = false from wf_m (by decide) (fun e => hm (by rw [e]; rfl)))
              clear hl hm
              go_wp2_with fail
              all_goals first | contradiction | (exfalso; omega) | (go_ret; exact ⟨by rw [Hno.out]; rfl, Hcb.out⟩)
        · have hli : (0 : Int) < es.length := by omega
          have Hno := Lib.hid (show wf u8 3 n t ns es.length = false from wf_l (by omega) (by decide) (by decide))
          clear hl
          go_wp2_with fail
          all_goals first | contradiction | (exfalso; omega) | (go_ret; exact ⟨by rw [Hno.out]; rfl, Hcb.out⟩)
    · by_cases hnl : n < 0
      · skip
        have Hno := Lib.hid (show wf u8 3 n t ns es.length = false from wf_n (by simpa using hn))
        go_wp2_with fail
        all_goals first | contradiction | (exfalso; omega) | (go_ret; exact ⟨by rw [Hno.out]; rfl, Hcb.out⟩)
      · have hnh : 0 < n := by omega
        have Hno := Lib.hid (show wf u8 3 n t ns es.length = false from wf_n (by simpa using hn))
        go_wp2_with fail
        all_goals first | contradiction | (exfalso; omega) | (go_ret; exact ⟨by rw [Hno.out]; rfl, Hcb.out⟩)
  · -- kind 4
    by_cases hn : 0 ≤ n ∧ n ≤ 0
    · by_cases ht : t = ⟨#[]⟩
      · subst ht
        · by_cases hl0 : (0 : Int) < es.length
          · by_cases hm : ns.length = 0
            · have hmi : ¬ ((0 : Int) < ns.length) := by omega
              have Hyes := Lib.hid (show wf u8 4 n ⟨#[]⟩ ns es.length = (u8 ⟨#[]⟩ && ns.all u8) from wf_yes (by simpa using hn) (fun h => absurd rfl h) (fun _ => by decide) (fun h => absurd h (by decide)) (fun _ => List.length_eq_zero_iff.1 hm))
              obtain ⟨hn1, hn2⟩ := hn
              clear hm
              go_wp2_with fail
              all_goals try contradiction
              refine (Hv.out _ Hcb.out).mono ?_
              rintro e w3 ⟨rfl, hc3⟩
              have Hc3 := Lib.hid ((Hcb.out).trans hc3)
              have Hw3 := Lib.hid (hc3)
              clear hc3
              cases hu : u8 ⟨#[]⟩
              · rw [hu] at Hyes
                have Hy := Lib.hid (Hyes.out.trans (Bool.false_and _))
                clear hu Hyes
                go_wp2_with fail
                go_ret
                exact ⟨by rw [Hy.out]; rfl, Hc3.out⟩
              · rw [hu] at Hyes
                have Hy := Lib.hid (Hyes.out.trans (Bool.true_and _))
                clear hu Hyes
                obtain ⟨B, hB⟩ : ∃ B, B = ns.all u8 := ⟨_, rfl⟩
                rw [← hB] at Hf Hy
                have c0 := box_kept w.heap.size Hb.out Hw3.out
                obtain ⟨b0, b1, b2, b3, b4⟩ := c0
                clear hB
                go_wp2_with fail
                refine (Hf.out _ Hc3.out).mono ?_
                rintro e w4 ⟨rfl, hc4⟩
                have Hc4 := Lib.hid (Hc3.out.trans hc4)
                clear hc4
                cases B
                all_goals
                  go_wp2_with fail
                  go_ret
                  exact ⟨by rw [Hy.out]; rfl, Hc4.out⟩
            · have hmi : (0 : Int) < ns.length := by omega
              have Hno := Lib.hid (show wf u8 4 n ⟨#[]⟩ ns es.length = false from wf_m (by decide) (fun e => hm (by rw [e]; rfl)))
              clear hm
              go_wp2_with fail
              all_goals first | contradiction | (exfalso; omega) | (go_ret; exact ⟨by rw [Hno.out]; rfl, Hcb.out⟩)
          · by_cases hm : ns.length = 0
            · have hmi : ¬ ((0 : Int) < ns.length) := by omega
              have Hyes := Lib.hid (show wf u8 4 n ⟨#[]⟩ ns es.length = (u8 ⟨#[]⟩ && ns.all u8) from wf_yes (by simpa using hn) (fun h => absurd rfl h) (fun _ => by decide) (fun h => absurd h (by decide)) (fun _ => List.length_eq_zero_iff.1 hm))
              obtain ⟨hn1, hn2⟩ := hn
              clear hm
              go_wp2_with fail
              all_goals try contradiction
              refine (Hv.out _ Hcb.out).mono ?_
              rintro e w3 ⟨rfl, hc3⟩
              have Hc3 := Lib.hid ((Hcb.out).trans hc3)
              have Hw3 := Lib.hid (hc3)
              clear hc3
              cases hu : u8 ⟨#[]⟩
              · rw [hu] at Hyes
                have Hy := Lib.hid (Hyes.out.trans (Bool.false_and _))
                clear hu Hyes
                go_wp2_with fail
                go_ret
                exact ⟨by rw [Hy.out]; rfl, Hc3.out⟩
              · rw [hu] at Hyes
                have Hy := Lib.hid (Hyes.out.trans (Bool.true_and _))
                clear hu Hyes
                obtain ⟨B, hB⟩ : ∃ B, B = ns.all u8 := ⟨_, rfl⟩
                rw [← hB] at Hf Hy
                have c0 := box_kept w.heap.size Hb.out Hw3.out
                obtain ⟨b0, b1, b2, b3, b4⟩ := c0
                clear hB
                go_wp2_with fail
                refine (Hf.out _ Hc3.out).mono ?_
                rintro e w4 ⟨rfl, hc4⟩
                have Hc4 := Lib.hid (Hc3.out.trans hc4)
                clear hc4
                cases B
                all_goals
                  go_wp2_with fail
                  go_ret
                  exact ⟨by rw [Hy.out]; rfl, Hc4.out⟩
            · have hmi : (0 : Int) < ns.length := by omega
              have Hno := Lib.hid (show wf u8 4 n ⟨#[]⟩ ns es.length = false from wf_m (by decide) (fun e => hm (by rw [e]; rfl)))
              clear hm
              go_wp2_with fail
              all_goals first | contradiction | (exfalso; omega) | (go_ret; exact ⟨by rw [Hno.out]; rfl, Hcb.out⟩)
      · have htl : ¬ t.toList = [] := str_ne ht
        have hze : (t.toList == []) = false := by rw [beq_eq_false_iff_ne]; exact htl
        have Hno := Lib.hid (show wf u8 4 n t ns es.length = false from wf_t ht (by decide))
        go_wp2_with fail
        all_goals first | contradiction | (exfalso; omega) | (go_ret; exact ⟨by rw [Hno.out]; rfl, Hcb.out⟩)
    · by_cases hnl : n < 0
      · skip
        have Hno := Lib.hid (show wf u8 4 n t ns es.length = false from wf_n (by simpa using hn))
        go_wp2_with fail
        all_goals first | contradiction | (exfalso; omega) | (go_ret; exact ⟨by rw [Hno.out]; rfl, Hcb.out⟩)
      · have hnh : 0 < n := by omega
        have Hno := Lib.hid (show wf u8 4 n t ns es.length = false from wf_n (by simpa using hn))
        go_wp2_with fail
        all_goals first | contradiction | (exfalso; omega) | (go_ret; exact ⟨by rw [Hno.out]; rfl, Hcb.out⟩)
  · -- kind 5
    by_cases hn : 0 ≤ n ∧ n ≤ 0
    · by_cases ht : t = ⟨#[]⟩
      · subst ht
        · by_cases hl0 : (0 : Int) < es.length
          · by_cases ho : ns.length = es.length
            · have hoi : decide ((ns.length : Int) = es.length) = true := decide_eq_true (by omega)
              have Ho := Lib.hid ho
              rw [ho] at Hd Hf Hb b3
              clear ho hoi
              go_wp2_with fail
              refine (Hd.out _ Hcb.out).mono ?_
              rintro e w2 ⟨rfl, hc2⟩
              have Hw2 := Lib.hid hc2
              obtain ⟨b0, b1, b2, b3, b4⟩ := box_kept w.heap.size Hb.out hc2
              clear hc2
              by_cases hnd : ns.Nodup
              · rw [decide_eq_false (by simp [hnd])]
                have Hyes := Lib.hid (show wf u8 5 n ⟨#[]⟩ ns es.length = (u8 ⟨#[]⟩ && ns.all u8) from wf_yes (by simpa using hn) (fun h => absurd rfl h) (fun _ => by decide) (fun _ => ⟨Ho.out, hnd⟩) (fun h => absurd rfl h))
                obtain ⟨hn1, hn2⟩ := hn
                go_wp2_with fail
                all_goals try contradiction
                refine (Hv.out _ (Hcb.out.trans Hw2.out)).mono ?_
                rintro e w3 ⟨rfl, hc3⟩
                have Hc3 := Lib.hid (((Hcb.out.trans Hw2.out)).trans hc3)
                have Hw3 := Lib.hid (Hw2.out.trans hc3)
                clear hc3
                cases hu : u8 ⟨#[]⟩
                · rw [hu] at Hyes
                  have Hy := Lib.hid (Hyes.out.trans (Bool.false_and _))
                  clear hu Hyes
                  go_wp2_with fail
                  go_ret
                  exact ⟨by rw [Hy.out]; rfl, Hc3.out⟩
                · rw [hu] at Hyes
                  have Hy := Lib.hid (Hyes.out.trans (Bool.true_and _))
                  clear hu Hyes
                  obtain ⟨B, hB⟩ : ∃ B, B = ns.all u8 := ⟨_, rfl⟩
                  rw [← hB] at Hf Hy
                  have c0 := box_kept w.heap.size Hb.out Hw3.out
                  obtain ⟨b0, b1, b2, b3, b4⟩ := c0
                  clear hB
                  go_wp2_with fail
                  refine (Hf.out _ Hc3.out).mono ?_
                  rintro e w4 ⟨rfl, hc4⟩
                  have Hc4 := Lib.hid (Hc3.out.trans hc4)
                  clear hc4
                  cases B
                  all_goals
                    go_wp2_with fail
                    go_ret
                    exact ⟨by rw [Hy.out]; rfl, Hc4.out⟩
              · rw [decide_eq_true hnd]
                have Hno := Lib.hid (show wf u8 5 n ⟨#[]⟩ ns es.length = false from wf_o rfl (fun h => hnd h.2))
                go_wp2_with fail
                all_goals first | contradiction | (exfalso; omega) | (go_ret; exact ⟨by rw [Hno.out]; rfl, Hcb.out.trans Hw2.out⟩)
            · have hoi : decide ((ns.length : Int) = es.length) = false := decide_eq_false (by omega)
              have hoj : ((ns.length : Int) == (es.length : Int)) = false := by simp; omega
              have Hno := Lib.hid (show wf u8 5 n ⟨#[]⟩ ns es.length = false from wf_o rfl (fun h => ho h.1))
              go_wp2_with fail
              all_goals first | contradiction | (exfalso; omega) | (go_ret; exact ⟨by rw [Hno.out]; rfl, Hcb.out⟩)
          · by_cases ho : ns.length = es.length
            · have hoi : decide ((ns.length : Int) = es.length) = true := decide_eq_true (by omega)
              have Ho := Lib.hid ho
              rw [ho] at Hd Hf Hb b3
              clear ho hoi
              go_wp2_with fail
              refine (Hd.out _ Hcb.out).mono ?_
              rintro e w2 ⟨rfl, hc2⟩
              have Hw2 := Lib.hid hc2
              obtain ⟨b0, b1, b2, b3, b4⟩ := box_kept w.heap.size Hb.out hc2
              clear hc2
              by_cases hnd : ns.Nodup
              · rw [decide_eq_false (by simp [hnd])]
                have Hyes := Lib.hid (show wf u8 5 n ⟨#[]⟩ ns es.length = (u8 ⟨#[]⟩ && ns.all u8) from wf_yes (by simpa using hn) (fun h => absurd rfl h) (fun _ => by decide) (fun _ => ⟨Ho.out, hnd⟩) (fun h => absurd rfl h))
                obtain ⟨hn1, hn2⟩ := hn
                go_wp2_with fail
                all_goals try contradiction
                refine (Hv.out _ (Hcb.out.trans Hw2.out)).mono ?_
                rintro e w3 ⟨rfl, hc3⟩
                have Hc3 := Lib.hid (((Hcb.out.trans Hw2.out)).trans hc3)
                have Hw3 := Lib.hid (Hw2.out.trans hc3)
                clear hc3
                cases hu : u8 ⟨#[]⟩
                · rw [hu] at Hyes
                  have Hy := Lib.hid (Hyes.out.trans (Bool.false_and _))
                  clear hu Hyes
                  go_wp2_with fail
                  go_ret
                  exact ⟨by rw [Hy.out]; rfl, Hc3.out⟩
                · rw [hu] at Hyes
                  have Hy := Lib.hid (Hyes.out.trans (Bool.true_and _))
                  clear hu Hyes
                  obtain ⟨B, hB⟩ : ∃ B, B = ns.all u8 := ⟨_, rfl⟩
                  rw [← hB] at Hf Hy
                  have c0 := box_kept w.heap.size Hb.out Hw3.out
                  obtain ⟨b0, b1, b2, b3, b4⟩ := c0
                  clear hB
                  go_wp2_with fail
                  refine (Hf.out _ Hc3.out).mono ?_
                  rintro e w4 ⟨rfl, hc4⟩
                  have Hc4 := Lib.hid (Hc3.out.trans hc4)
                  clear hc4
                  cases B
                  all_goals
                    go_wp2_with fail
                    go_ret
                    exact ⟨by rw [Hy.out]; rfl, Hc4.out⟩
              · rw [decide_eq_true hnd]
                have Hno := Lib.hid (show wf u8 5 n ⟨#[]⟩ ns es.length = false from wf_o rfl (fun h => hnd h.2))
                go_wp2_with fail
                all_goals first | contradiction | (exfalso; omega) | (go_ret; exact ⟨by rw [Hno.out]; rfl, Hcb.out.trans Hw2.out⟩)
            · have hoi : decide ((ns.length : Int) = es.length) = false := decide_eq_false (by omega)
              have hoj : ((ns.length : Int) == (es.length : Int)) = false := by simp; omega
              have Hno := Lib.hid (show wf u8 5 n ⟨#[]⟩ ns es.length = false from wf_o rfl (fun h => ho h.1))
              go_wp2_with fail
              all_goals first | contradiction | (exfalso; omega) | (go_ret; exact ⟨by rw [Hno.out]; rfl, Hcb.out⟩)
      · have htl : ¬ t.toList = [] := str_ne ht
        have hze : (t.toList == []) = false := by rw [beq_eq_false_iff_ne]; exact htl
        have Hno := Lib.hid (show wf u8 5 n t ns es.length = false from wf_t ht (by decide))
        go_wp2_with fail
        all_goals first | contradiction | (exfalso; omega) | (go_ret; exact ⟨by rw [Hno.out]; rfl, Hcb.out⟩)
    · by_cases hnl : n < 0
      · skip
        have Hno := Lib.hid (show wf u8 5 n t ns es.length = false from wf_n (by simpa using hn))
        go_wp2_with fail
        all_goals first | contradiction | (exfalso; omega) | (go_ret; exact ⟨by rw [Hno.out]; rfl, Hcb.out⟩)
      · have hnh : 0 < n := by omega
        have Hno := Lib.hid (show wf u8 5 n t ns es.length = false from wf_n (by simpa using hn))
        go_wp2_with fail
        all_goals first | contradiction | (exfalso; omega) | (go_ret; exact ⟨by rw [Hno.out]; rfl, Hcb.out⟩)
end Go.Proofs.YtiklgipcgdgkoaaDoor.Jv
