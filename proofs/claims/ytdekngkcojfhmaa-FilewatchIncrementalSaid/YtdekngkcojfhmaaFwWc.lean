/- The law's closure 'poll': it delivers what the watcher has, and keeps the rest. -/
import Derived.Test.YtdekngkcojfhmaaFwWb
import Derived.Test.YtdekngkcojfhmaaFwU
namespace Go.Proofs.Ytdekngkcojfhmaa
open Go.RowKit Go.ChangeMaps Go.MapKept Go.Shelf
set_option linter.unusedVariables false
set_option linter.unusedSimpArgs false
/-- batches of the call's own, their events in blocks of which q holds -/
def BatQ (q : Nat → Prop) (w : World) (B : Nat) (v : Value) (bs : List Bt) : Prop :=
  ∃ us : List (Int × Value), us.length = bs.length ∧ w.ownsRow B 31 2 v us.length (batCells us) ∧ ∀ (i : Nat) (u : Int × Value) (b : Bt), us[i]? = some u → bs[i]? = some b → u.1 = b.1 ∧ EvsP q w u.2 b.2
theorem BatQ.nil (q : Nat → Prop) (w : World) (B : Nat) : BatQ q w B (.slice none 0 0) [] := ⟨[], rfl, ⟨rfl, .inl ⟨rfl, rfl⟩⟩, by simp⟩
theorem BatQ.bats {q : Nat → Prop} {w : World} {B : Nat} {v : Value} {bs : List Bt} (h : BatQ q w B v bs) : BatP (fun _ => True) w v bs := by
  obtain ⟨us, h1, h2, h3⟩ := h
  rcases h2.2 with ⟨hv, hx⟩ | ⟨g, cap, cur, hv, hge, hh, h4, h5, h6, h7⟩
  · have : bs = [] := List.eq_nil_of_length_eq_zero (by omega)
    subst this
    subst hv
    exact SlR.nil _ _ _ _
  · subst hv
    refine ⟨_, cap, by rw [h1], by omega, by omega, fun h0 => ⟨g, 0, rfl, trivial, fun j hj => ?_⟩⟩
    have hiu : j < us.length := by omega
    obtain ⟨e0, e1⟩ := batCells_get us j hiu
    have hc : ∀ k u, (batCells us)[k]? = some u → w.cell? ⟨g, k, none⟩ = some u := by
      intro k u hk
      have := World.ownsRow.cells h2 (g := g) rfl k u hk
      rwa [Addr.add_lit, Nat.zero_add] at this
    obtain ⟨r1, r2⟩ := h3 j us[j] bs[j] (List.getElem?_eq_getElem hiu) (List.getElem?_eq_getElem hj)
    rw [Nat.zero_add]
    exact ⟨by rw [hc _ _ e0, r1], _, hc _ _ e1, r2.imp fun _ _ => trivial⟩
theorem BatQ.shape {q : Nat → Prop} {w : World} {B : Nat} {v : Value} {bs : List Bt} (h : BatQ q w B v bs) : ∃ a cap, v = .slice a bs.length cap := by
  obtain ⟨us, h1, h2, h3⟩ := h
  obtain ⟨a, cap, rfl⟩ := ownsRow_shape h2
  exact ⟨a, cap, by rw [h1]⟩
theorem BatQ.kept {q S : Nat → Prop} {w w' : World} {B : Nat} {v : Value} {bs : List Bt} (h : BatQ q w B v bs) (hc : ChgP S w w') (hq : ∀ k, q k → ¬ S k) (hv : ∀ g, v.ownBlock = some g → ¬ S g) : BatQ q w' B v bs := by
  obtain ⟨us, h1, h2, h3⟩ := h
  exact ⟨us, h1, ownsRow_kept h2 fun g hg hl => hc.block g hl (hv g hg), fun i u b hu hb => ⟨(h3 i u b hu hb).1, (h3 i u b hu hb).2.kept hc hq⟩⟩
theorem BatQ.imp {q q' : Nat → Prop} {w : World} {B : Nat} {v : Value} {bs : List Bt} (h : BatQ q w B v bs) (hq : ∀ k, q k → q' k) : BatQ q' w B v bs := by
  obtain ⟨us, h1, h2, h3⟩ := h
  exact ⟨us, h1, h2, fun i u b hu hb => ⟨(h3 i u b hu hb).1, (h3 i u b hu hb).2.imp hq⟩⟩
/-- a batch has been appended -/
theorem BatQ.snoc {q : Nat → Prop} {w w' : World} {B : Nat} {v v' : Value} {bs : List Bt} {t : Int} {u : Value} {es : List FEv} {us : List (Int × Value)} (h1 : us.length = bs.length) (h2 : w.ownsRow B 31 2 v us.length (batCells us))
    (h3 : ∀ (i : Nat) (u : Int × Value) (b : Bt), us[i]? = some u → bs[i]? = some b → u.1 = b.1 ∧ EvsP q w u.2 b.2) (hu : EvsP q w u es) (hq : ∀ k, q k → v.ownBlock ≠ some k) (hn : w'.ownsRow B 31 2 v' (us.length + 1) (batCells us ++ [.int .i64 t, u])) (hc : Chg v.ownBlock.toList w w') : BatQ q w' B v' (bs ++ [(t, es)]) := by
  refine ⟨us ++ [(t, u)], by simp [h1], by rw [batCells_snoc, List.length_append]; exact hn, fun i x b hx hb => ?_⟩
  have hk : ∀ y l, EvsP q w y l → EvsP q w' y l := fun y l hy => hy.kept hc.toP fun k hk hm => hq k hk (by simpa using hm)
  by_cases hi : i < us.length
  · rw [List.getElem?_append_left hi] at hx
    rw [List.getElem?_append_left (by omega)] at hb
    exact ⟨(h3 i x b hx hb).1, hk _ _ (h3 i x b hx hb).2⟩
  · by_cases he : i = us.length
    · subst he
      rw [List.getElem?_append_right (by omega)] at hx
      rw [h1, List.getElem?_append_right (by omega)] at hb
      simp at hx hb
      subst hx hb
      exact ⟨rfl, hk _ _ hu⟩
    · rw [List.getElem?_eq_none (by simp; omega)] at hx
      cases hx
/-- what lies in memory while the law's loop runs -/
structure PI (wB w : World) (b7 b9 wb : Nat) (d now : Int) (v gv : Value) (q : Nat → Prop) (G : List FEv) (got : List Bt) : Prop where
  c7 : w.heap[b7]? = some (.cells #[.pointer (some ⟨wb, 0, none⟩)] 40 (0, 0))
  c9 : w.heap[b9]? = some (.cells #[gv] 26 (0, 0))
  wat : WatAt w wB.heap.size wb d now v G
  bat : BatQ q w wB.heap.size gv got
  qt : ∀ k, q k → ∃ c, w.heap[k]? = some (.cells c 33 (0, 0))
  qn : ∀ k, q k → v.ownBlock ≠ some k
  chg : Chg [] wB w
  ge : wB.heap.size ≤ b7 ∧ wB.heap.size ≤ b9 ∧ wB.heap.size ≤ wb
section
variable {wB w w' : World} {b7 b9 wb : Nat} {d now : Int} {v gv : Value} {q : Nat → Prop} {G : List FEv} {got : List Bt}
theorem PI.q_ne (h : PI wB w b7 b9 wb d now v gv q G got) {g : Nat} {c : Array Value} {T : TypeId} (hg : w.heap[g]? = some (.cells c T (0, 0))) (hT : T ≠ 33) : ¬ q g := fun hq => by
  obtain ⟨c', h'⟩ := h.qt g hq
  rw [hg] at h'
  simp only [Option.some.injEq, Obj.cells.injEq] at h'
  exact hT h'.2.1
theorem PI.same (h : PI wB w b7 b9 wb d now v gv q G got) (hc : Chg [] w w') : PI wB w' b7 b9 wb d now v gv q G got :=
  ⟨(hc.block _ (lt_of_obj h.c7) (by simp)).trans h.c7, (hc.block _ (lt_of_obj h.c9) (by simp)).trans h.c9, h.wat.same hc, h.bat.kept (hc.p (S := fun _ => False)) (fun _ _ h => h) (fun _ _ h => h),
    fun k hk => by obtain ⟨c, hk'⟩ := h.qt k hk; exact ⟨c, (hc.block _ (lt_of_obj hk') (by simp)).trans hk'⟩, h.qn, h.chg.trans hc, h.ge⟩
theorem obj_ne {w : World} {a b : Nat} {c c' : Array Value} {T T' : TypeId} {f f' : Nat × Nat} (ha : w.heap[a]? = some (.cells c T f)) (hb : w.heap[b]? = some (.cells c' T' f')) (hT : T ≠ T') : a ≠ b := fun e => by
  subst e
  rw [ha] at hb
  simp only [Option.some.injEq, Obj.cells.injEq] at hb
  exact hT hb.2.1
theorem own_obj {w : World} {B sz : Nat} {e T : TypeId} {v : Value} {n : Nat} {xs : List Value} (h : w.ownsRow B e sz v n xs) {b : Nat} {cs : Array Value} {fr : Nat × Nat} (hb : w.heap[b]? = some (.cells cs T fr)) (hT : T ≠ e) : v.ownBlock ≠ some b := fun hg => by
  obtain ⟨cur, h2⟩ := own_at h hg
  rw [hb] at h2
  simp only [Option.some.injEq, Obj.cells.injEq] at h2
  exact hT h2.2.1
/-- the watcher's block has changed -/
theorem PI.wat' (h : PI wB w b7 b9 wb d now v gv q G got) {now' : Int} {v' : Value} {G' : List FEv} {S : List Nat} (hw : WatAt w' wB.heap.size wb d now' v' G') (hc : Chg S w w') (hS : ∀ k ∈ S, k = wb ∨ v.ownBlock = some k) (hn : ∀ k, q k → v'.ownBlock ≠ some k) : PI wB w' b7 b9 wb d now' v' gv q G' got := by
  have hqS : ∀ k, q k → k ∉ S := fun k hk hm => by
    rcases hS k hm with e | e
    · exact h.q_ne h.wat.box (by decide) (e ▸ hk)
    · exact h.qn k hk e
  have h7 : b7 ∉ S := fun hm => by
    rcases hS b7 hm with e | e
    · exact obj_ne h.c7 h.wat.box (by decide) e
    · exact own_obj h.wat.ev h.c7 (by decide) e
  have h9 : b9 ∉ S := fun hm => by
    rcases hS b9 hm with e | e
    · exact obj_ne h.c9 h.wat.box (by decide) e
    · exact own_obj h.wat.ev h.c9 (by decide) e
  obtain ⟨us, _, hrow, _⟩ := id h.bat
  refine ⟨(hc.block _ (lt_of_obj h.c7) h7).trans h.c7, (hc.block _ (lt_of_obj h.c9) h9).trans h.c9, hw, h.bat.kept hc.toP hqS (fun g hg hm => ?_), fun k hk => ?_, hn, h.chg.comp hc fun x hx => ?_, h.ge⟩
  · rcases hS g hm with e | e
    · exact own_obj hrow h.wat.box (by decide) (e ▸ hg)
    · exact own_ne2 hrow h.wat.ev (by decide) g hg e
  · obtain ⟨c, hk'⟩ := h.qt k hk
    exact ⟨c, (hc.block _ (lt_of_obj hk') (hqS k hk)).trans hk'⟩
  · rcases hS x hx with e | e
    · exact Or.inr (e ▸ h.ge.2.2)
    · exact Or.inr (h.wat.ev.lt x e).1
end
def PolPost (wB : World) (b7 b9 wb : Nat) (d t : Int) (G : List FEv) (got : List Bt) (x : Ending) (w' : World) : Prop :=
  x = .returned (.tuple #[]) ∧ ∃ v' gv' q', PI wB w' b7 b9 wb d t v' gv' q' (polG d t G) (got ++ polR d t G)
set_option maxRecDepth 100000 in
set_option maxHeartbeats 8000000 in
theorem pollC_any (wB w : World) (b7 b9 wb : Nat) (d now t : Int) (v gv : Value) (q : Nat → Prop) (G : List FEv) (got : List Bt) (h : PI wB w b7 b9 wb d now v gv q G got) (hG : EvOk G) (h0 : 0 ≤ d) (h1 : d ≤ 1000000) (t0 : 0 ≤ t) (t1 : t ≤ 1000000000000) (hn : now ≤ t) (hgl : got.length ≤ 1000) :
    Calls Try.prog 14 #[.int .i64 t, .pointer (some ⟨b7, 0, none⟩), .pointer (some ⟨b9, 0, none⟩)] w (PolPost wB b7 b9 wb d t G got) := by
  obtain ⟨ga, gc, hgv⟩ := h.bat.shape
  subst hgv
  have x7 : w.cell? ⟨b7, 0, none⟩ = some (.pointer (some ⟨wb, 0, none⟩)) := cell_of_heap h.c7 rfl
  have Hpoll := Lib.hid (poll_any w _ wb d now t v G h.wat hG h0 h1 t0 t1 hn)
  have H := Lib.hid h
  clear h hG
  go_enter Try.func14, Try.ntmps14
  go_wp2_with fail
  refine Hpoll.out.mono ?_
  rintro e w1 ⟨hcase, ⟨v', hw1, hv'⟩, hc1⟩
  have hv'' : ∀ k, v'.ownBlock = some k → v.ownBlock = some k := by
    rcases hv' with e | e
    · rw [e]; exact fun _ h => h
    · rw [e]; intro k hk; simp [Value.ownBlock] at hk
  have hP1 := H.out.wat' hw1 hc1 (fun k hk => Or.inl (by simpa using hk)) (fun k hk e => H.out.qn k hk (hv'' k e))
  rcases hcase with ⟨hR, rfl⟩ | ⟨⟨bt, be⟩, u, hR, rfl, hu⟩
  · have HP := Lib.hid (hP1.same ((Chg.refl [] w1).alloc (.cells #[.int .i64 0, .slice none 0 0] 31)))
    have HR := Lib.hid hR
    clear hw1 hv' hc1 hv'' hP1 hR
    go_wp2_with fail
    go_end0
    refine ⟨rfl, v', .slice ga got.length gc, q, ?_⟩
    rw [HR.out, List.append_nil]
    exact HP.out
  · obtain ⟨ua, uc, hua⟩ := ownsRow_shape hu
    subst hua
    obtain ⟨w2, hw2⟩ : ∃ x, x = w1.alloc (.cells #[.int .i64 bt, .slice ua be.length uc] 31) := ⟨_, rfl⟩
    have hc2 : Chg [] w1 w2 := by rw [hw2]; exact (Chg.refl [] w1).alloc _
    have hb2 : w2.heap[w1.heap.size]? = some (.cells #[.int .i64 bt, .slice ua be.length uc] 31 (0, 0)) := by rw [hw2]; exact heap_at _ _ _ rfl
    have hP2 := hP1.same hc2
    have hu2 : OwnEv w2 w.heap.size (.slice ua be.length uc) be := hu.same hc2
    have m0 : w2.cell? ⟨w1.heap.size, 0, none⟩ = some (.int .i64 bt) := cell_of_heap hb2 rfl
    have m1 : w2.cell? ⟨w1.heap.size, 1, none⟩ = some (.slice ua be.length uc) := cell_of_heap hb2 rfl
    have n0 : w2.cell? ⟨b9, 0, none⟩ = some (.slice ga got.length gc) := cell_of_heap hP2.c9 rfl
    have ln := lt_of_cell n0
    have lm := lt_of_cell m0
    obtain ⟨us, u1, u2, u3⟩ := hP2.bat
    rw [u1] at u2
    obtain ⟨i0, hi, hz0, hz1, hz2⟩ := info_parts Try.infoBat
    have Hi0 := Lib.hid hi
    have Hz0 := Lib.hid hz0
    have Hz1 := Lib.hid hz1
    have Hz2 := Lib.hid hz2
    have HP := Lib.hid hP2
    have Hu := Lib.hid (And.intro u1 (And.intro u2 (And.intro u3 hu2)))
    have HR := Lib.hid hR
    have hnv : ∀ k, v'.ownBlock = some k → k < w.heap.size := fun k hk => (H.out.wat.ev.lt k (hv'' k hk)).2
    have Hnv := Lib.hid hnv
    have hwb : wB.heap.size ≤ w2.heap.size := hP2.chg.size
    obtain ⟨nb, hnb⟩ : ∃ n, n = w1.heap.size := ⟨_, rfl⟩
    rw [← hnb] at m0 m1 lm
    have Hnb := Lib.hid hnb
    have Hw2 := Lib.hid hw2
    clear hw1 hv' hc1 hv'' hP1 hR hu hw2 hc2 hb2 hP2 hu2 u1 u2 u3 hi hz0 hz1 hz2 hnv hnb
    simp only
    go_upto_region 2 with (fail)
    rw [← Hw2.out, ← Hnb.out]
    go_wp2_with (at_builtin; refine wpList_append_lies _ rfl _ _ 26 rfl wB.heap.size 31 i0 (.agg #[.int .i64 0, .slice none 0 0]) 2 32 Try.underlying26 Hi0.out Hz0.out Hz1.out Hz2.out rfl (by decide) (.slice ga got.length gc) got.length (batCells us) rfl (Hu.out.2.1.alloc _) ⟨w2.heap.size, 0, none⟩ 1 1 [.int .i64 bt, .slice ua be.length uc] rfl rfl (news_of (heap_at _ _ _ (by simp))) (by simp [Value.oneCell']) (by omega) (by unfold maxLen; omega) (by omega) (by simp; omega) (w2.heap.size + 1) (by simp) ?_; intro gg cap8 w8 hown8 hgr8 hat8 hlt8; have hap := own_chg (World.ownsRow.alloc Hu.out.2.1 (.cells #[.int .i64 bt, .slice ua be.length uc] 31)) hgr8; have hcw : Chg [] w2 (w2.alloc (.cells #[.int .i64 bt, .slice ua be.length uc] 31)) := (Chg.refl [] w2).alloc _; have hn9 : b9 ∉ (Value.slice ga got.length gc).ownBlock.toList := (fun hm => own_obj Hu.out.2.1 HP.out.c9 (by decide) (by simpa using hm)); have hb9 := (hap.1.block b9 (Nat.lt_of_lt_of_le (lt_of_obj HP.out.c9) hcw.size) hn9).trans ((hcw.block b9 (lt_of_obj HP.out.c9) (by simp)).trans HP.out.c9); have s90 : w8.cell? ⟨b9, 0, none⟩ = some (.slice ga got.length gc) := cell_of_heap hb9 rfl; have s91 : w8.frozen? ⟨b9, 0, none⟩ = false := frozen_of_heap hb9)
    go_end0
    have hq2 : ∀ k, q k → (Value.slice ga got.length gc).ownBlock ≠ some k := fun k hk e => by
      obtain ⟨c, hk'⟩ := HP.out.qt k hk
      exact own_obj Hu.out.2.1 hk' (by decide) e
    have hu2q : ∀ k, (Value.slice ua be.length uc).ownBlock = some k → (∃ c, w2.heap[k]? = some (.cells c 33 (0, 0))) ∧ w.heap.size ≤ k := fun k hk => ⟨own_at Hu.out.2.2.2 hk, (Hu.out.2.2.2.lt k hk).1⟩
    have hall : Chg (Value.slice ga got.length gc).ownBlock.toList w2 w8 := hcw.nil.trans hap.1
    have hset : Chg [b9] w8 (w8.setCell ⟨b9, 0, none⟩ (.slice (some ⟨gg, 0, none⟩) (got.length + 1) cap8)) := (Chg.refl [b9] w8).setCell (Or.inl (by simp)) _
    have hgo : ∀ (k : Nat) (c : Array Value) (T : TypeId), w2.heap[k]? = some (.cells c T (0, 0)) → T ≠ 31 → T ≠ 26 → (w8.setCell ⟨b9, 0, none⟩ (.slice (some ⟨gg, 0, none⟩) (got.length + 1) cap8)).heap[k]? = some (.cells c T (0, 0)) := fun k c T hk h1 h2 => by
      have e1 := (hall.block k (lt_of_obj hk) (fun hm => own_obj Hu.out.2.1 hk h1 (by simpa using hm))).trans hk
      exact (hset.block k (lt_of_obj e1) (fun hm => obj_ne hk HP.out.c9 h2 (by simpa using hm))).trans e1
    refine ⟨rfl, v', .slice (some ⟨gg, 0, none⟩) (got.length + 1) cap8, fun k => q k ∨ (Value.slice ua be.length uc).ownBlock = some k, hgo _ _ _ HP.out.c7 (by decide) (by decide), heap_setCell_same hb9 _, ⟨hgo _ _ _ HP.out.wat.box (by decide) (by decide), ?_⟩, ?_, ?_, ?_, ?_, HP.out.ge⟩
    · exact ownsRow_kept HP.out.wat.ev fun g hg hl => by
        obtain ⟨c, hc⟩ := own_at HP.out.wat.ev hg
        rw [hgo _ _ _ hc (by decide) (by decide), hc]
    · rw [HR.out]
      have hb : BatQ (fun k => q k ∨ (Value.slice ua be.length uc).ownBlock = some k) w8 wB.heap.size (.slice (some ⟨gg, 0, none⟩) (got.length + 1) cap8) (got ++ [(bt, be)]) :=
        BatQ.snoc (t := bt) Hu.out.1 (by rw [Hu.out.1]; exact Hu.out.2.1) (fun i u b hu hb => ⟨(Hu.out.2.2.1 i u b hu hb).1, (Hu.out.2.2.1 i u b hu hb).2.imp fun _ h => Or.inl h⟩) (Hu.out.2.2.2.evs.imp fun g hg => Or.inr hg.2.2)
          (fun k hk e => hk.elim (fun hk => hq2 k hk e) fun hk => own_ne2 Hu.out.2.2.2 Hu.out.2.1 (by decide) k hk e) (by rw [Hu.out.1]; exact hown8) hall
      refine hb.kept hset.toP (fun k hk hm => ?_) (fun g hg hm => ?_)
      · rw [List.mem_singleton] at hm
        rcases hk with hk | hk
        · obtain ⟨c, hk'⟩ := HP.out.qt k hk
          exact obj_ne hk' HP.out.c9 (by decide) hm
        · obtain ⟨c, hk'⟩ := (hu2q k hk).1
          exact obj_ne hk' HP.out.c9 (by decide) hm
      · exact own_obj hown8 hb9 (by decide) (by rw [hg, List.mem_singleton.1 hm])
    · intro k hk
      rcases hk with hk | hk
      · obtain ⟨c, hk'⟩ := HP.out.qt k hk
        exact ⟨c, hgo _ _ _ hk' (by decide) (by decide)⟩
      · obtain ⟨c, hk'⟩ := (hu2q k hk).1
        exact ⟨c, hgo _ _ _ hk' (by decide) (by decide)⟩
    · intro k hk e
      rcases hk with hk | hk
      · exact HP.out.qn k hk e
      · have h1 := Hnv.out k e
        have h2 := (hu2q k hk).2
        omega
    · exact ((HP.out.chg.comp hall fun x hx => Or.inr (Hu.out.2.1.lt x (by simpa using hx)).1)).comp hset fun x hx => Or.inr (by rw [List.mem_singleton.1 hx]; exact HP.out.ge.2.1)
end Go.Proofs.Ytdekngkcojfhmaa
