/- The database's Fork. -/
import Derived.Test.YtdeodcomlakpaaaGn
import Derived.Test.YtdeodcomlakpaaaNx
import Derived.Test.YtdeodcomlakpaaaRange
import Derived.Deep.DeepCutAuto
namespace Go.Proofs.Ytdeodcomlakpaaa
open Go.RowKit Go.ChangeMaps Go.MapKept
set_option linter.unusedVariables false
set_option linter.unusedSimpArgs false
/-- a result is noted -/
theorem DmAt.put0 {b : Nat} {w : World} {d : Dm} {key : QK} {r : Rs} {o : Obj} (h : DmAt w b d) (hr : RsAt w r) (h1 : r.blk ∉ d.muts b) (h2 : r.blk ∉ d.imms) (h3 : ∀ g ∈ r.imm, g ∉ d.muts b ∧ g ≠ r.blk ∧ g < w.heap.size)
    (hm : MapAt Try.prog 27 Inp.qk (setBlock w d.br o) d.br (ups (amap Rs.val d.es) key r.val)) : DmAt (setBlock w d.br o) b { d with es := ups d.es key r } := by
  have hp := h.put (n := d.cnt) hr h1 h2 h3 hm
  have hbr : b ≠ d.br := (Dm.parts h.nodup).2.2.1
  have e1 : (setBlock w d.br o).heap[b]? = w.heap[b]? := ((Chg.refl [d.br] w).setBlock (Or.inl (by simp)) o).block b (lt_of_obj h.blk) (by simpa using hbr)
  have same : ∀ g : Nat, (setBlock w d.br o).heap[g]? = ((setBlock w d.br o).setCell ⟨b, 5, none⟩ (.int .i64 d.cnt)).heap[g]? := fun g => by
    by_cases hg : g = b
    · subst hg
      rw [heap_setCell_same (e1.trans h.blk), e1, h.blk]
      rfl
    · rw [heap_setCell_ne _ _ _ _ hg]
  have hz : (setBlock w d.br o).heap.size = ((setBlock w d.br o).setCell ⟨b, 5, none⟩ (.int .i64 d.cnt)).heap.size := by simp
  exact hp.keptB (by omega) (fun g _ => same g) (fun g _ => same g)
/-- the parts of a fork, ahead of its own block -/
structure FkP (w : World) (d : Dm) (bs bsm br ba : Nat) (W : World) : Prop where
  store : Inp.StoreIs W bs bsm d.S
  mbr : MapAt Try.prog 27 Inp.qk W br []
  mba : MapAt Try.prog 27 Inp.qk W ba []
  nd : [bs, bsm, br, ba].Nodup
  ge : ∀ g ∈ [bs, bsm, br, ba], w.heap.size ≤ g
  chg : Chg [] w W
theorem FkP.swap {w : World} {d : Dm} {bs bsm br ba : Nat} {W : World} (h : FkP w d bs bsm br ba W) : FkP w d bs bsm ba br W :=
  ⟨h.store, h.mba, h.mbr, by have := h.nd; simp only [List.nodup_cons, List.mem_cons, List.not_mem_nil, or_false, not_or, not_false_eq_true, List.nodup_nil, and_true] at this ⊢; omega, fun g hg => h.ge g (by simp only [List.mem_cons, List.not_mem_nil, or_false] at hg ⊢; omega), h.chg⟩
theorem FkP.a {w w1 : World} {d : Dm} (hs : Inp.StoreIs w1 (w.heap.size + 1) w.heap.size d.S) (hc : Chg [] w w1) : FkP w d (w.heap.size + 1) w.heap.size w1.heap.size (w1.heap.size + 1) ((w1.alloc (.map #[] 0)).alloc (.map #[] 0)) := by
  have h1 := lt_of_obj hs.blk
  have m1 : MapAt Try.prog 27 Inp.qk (w1.alloc (.map #[] 0)) w1.heap.size [] := MapAt.made Try.prog 27 Inp.qk w1
  have m2 := MapAt.made Try.prog 27 Inp.qk (w1.alloc (.map #[] 0))
  rw [show (w1.alloc (.map #[] 0)).heap.size = w1.heap.size + 1 by simp] at m2
  have c2 : Chg [] w1 ((w1.alloc (.map #[] 0)).alloc (.map #[] 0)) := ((Chg.refl [] w1).alloc _).alloc _
  refine ⟨hs.same c2, m1.kept ((Chg.refl [] _).alloc _) (by simp), m2, ?_, fun g hg => ?_, hc.trans c2⟩
  · simp only [List.nodup_cons, List.mem_cons, List.not_mem_nil, or_false, not_or, not_false_eq_true, List.nodup_nil, and_true]
    omega
  · have := hc.size
    simp only [List.mem_cons, List.not_mem_nil, or_false] at hg
    omega
theorem FkP.b {w w1 : World} {d : Dm} (hs : Inp.StoreIs w1 (w.heap.size + 1 + 1) (w.heap.size + 1) d.S) (hc : Chg [] (w.alloc (.map #[] 0)).drew w1) : FkP w d (w.heap.size + 1 + 1) (w.heap.size + 1) w.heap.size w1.heap.size (w1.alloc (.map #[] 0)) := by
  have h1 := lt_of_obj hs.blk
  have m1 : MapAt Try.prog 27 Inp.qk (w.alloc (.map #[] 0)) w.heap.size [] := MapAt.made Try.prog 27 Inp.qk w
  have m2 := MapAt.made Try.prog 27 Inp.qk w1
  have c0 : Chg [] (w.alloc (.map #[] 0)) w1 := (Chg.refl [] _).drew.trans hc
  have c2 : Chg [] w1 (w1.alloc (.map #[] 0)) := (Chg.refl [] w1).alloc _
  refine ⟨hs.same c2, m1.kept (c0.trans c2) (by simp), m2, ?_, fun g hg => ?_, (((Chg.refl [] w).alloc _).trans c0).trans c2⟩
  · simp only [List.nodup_cons, List.mem_cons, List.not_mem_nil, or_false, not_or, not_false_eq_true, List.nodup_nil, and_true]
    omega
  · simp only [List.mem_cons, List.not_mem_nil, or_false] at hg
    omega
theorem FkP.c {w w1 : World} {d : Dm} (hs : Inp.StoreIs w1 (w.heap.size + 1 + 1 + 1) (w.heap.size + 1 + 1) d.S) (hc : Chg [] ((w.alloc (.map #[] 0)).alloc (.map #[] 0)).drew w1) : FkP w d (w.heap.size + 1 + 1 + 1) (w.heap.size + 1 + 1) w.heap.size (w.heap.size + 1) w1 := by
  have h1 := lt_of_obj hs.blk
  have m1 : MapAt Try.prog 27 Inp.qk (w.alloc (.map #[] 0)) w.heap.size [] := MapAt.made Try.prog 27 Inp.qk w
  have m2 := MapAt.made Try.prog 27 Inp.qk (w.alloc (.map #[] 0))
  rw [show (w.alloc (.map #[] 0)).heap.size = w.heap.size + 1 by simp] at m2
  have c1 : Chg [] ((w.alloc (.map #[] 0)).alloc (.map #[] 0)) w1 := (Chg.refl [] _).drew.trans hc
  have c0 : Chg [] (w.alloc (.map #[] 0)) w1 := ((Chg.refl [] _).alloc _).trans c1
  refine ⟨hs, m1.kept c0 (by simp), m2.kept c1 (by simp), ?_, fun g hg => ?_, ((Chg.refl [] w).alloc _).trans c0⟩
  · simp only [List.nodup_cons, List.mem_cons, List.not_mem_nil, or_false, not_or, not_false_eq_true, List.nodup_nil, and_true]
    omega
  · simp only [List.mem_cons, List.not_mem_nil, or_false] at hg
    omega
def FkS (w : World) (d : Dm) (nb : Nat) (wx : World) : Prop :=
  ∃ bs bsm br ba, DmAt wx nb ⟨bs, bsm, br, ba, d.comp, .nilFunc, d.S, [], [], d.cnt, d.clk⟩ ∧ (∀ g ∈ [nb, bs, bsm, br, ba], w.heap.size ≤ g) ∧ Chg [] w wx
theorem FkP.box {w : World} {b : Nat} {d : Dm} (hd : DmAt w b d) {bs bsm br ba : Nat} {W : World} (h : FkP w d bs bsm br ba W) {o : Obj} {nb : Nat} (hnb : nb = W.heap.size) {comp : Value} (hcomp : d.comp = comp) (ho : o = .cells #[comp, .pointer (some ⟨bs, 0, none⟩), .map (some br), .map (some ba), .nilFunc, .int .i64 d.cnt, .int .i64 d.clk] 88 (0, 0)) : FkS w d nb (W.alloc o) := by
  subst hnb hcomp
  have c2 : Chg [] W (W.alloc o) := (Chg.refl [] W).alloc o
  have l1 := lt_of_obj h.store.blk
  have l2 := h.store.map.lt
  have l3 := h.mbr.lt
  have l4 := h.mba.lt
  have hge := h.ge
  have hnd := h.nd
  have hz := h.chg.size
  simp only [List.nodup_cons, List.mem_cons, List.not_mem_nil, or_false, not_or, not_false_eq_true, List.nodup_nil, and_true] at hnd
  simp only [List.mem_cons, List.not_mem_nil, or_false] at hge
  have g1 := hge bs (by simp)
  have g2 := hge bsm (by simp)
  have g3 := hge br (by simp)
  have g4 := hge ba (by simp)
  refine ⟨bs, bsm, br, ba, ⟨?_, h.store.same c2, hd.text, h.mbr.kept c2 (by simp), h.mba.kept c2 (by simp), by simp, ?_, fun g hg => ?_, fun g hg => ?_⟩, fun g hg => ?_, h.chg.trans c2⟩
  · rw [ho]; exact heap_at _ _ _ rfl
  · simp only [Dm.muts, List.map_nil, List.nodup_cons, List.mem_cons, List.not_mem_nil, not_or, or_false, not_false_eq_true, List.nodup_nil, and_true]
    omega
  · have hb : g < w.heap.size := hd.bound g (List.mem_append_left _ (by simpa [Dm.imms] using hg))
    simp only [Dm.muts, List.map_nil, List.mem_cons, List.not_mem_nil, or_false]
    omega
  · have hb : g < w.heap.size := hd.bound g (List.mem_append_left _ (by simpa [Dm.imms] using hg))
    have := c2.size
    omega
  · simp only [List.mem_cons, List.not_mem_nil, or_false] at hg
    omega
/-- a fork under way: what of the results is still to come -/
structure FkI (w : World) (d : Dm) (nb bs bsm br ba rr : Nat) (k : Nat) (wr : World) (es' : List (QK × Rs)) (rest : List (QK × Value)) : Prop where
  num : k = rest.length
  chg : Chg [] w wr
  rng : RangeAt Try.prog 27 Inp.qk wr d.br rr (amap Rs.val d.es) rest
  sub : ∀ p ∈ rest, p ∈ amap Rs.val d.es
  dm : DmAt wr nb ⟨bs, bsm, br, ba, d.comp, .nilFunc, d.S, es', [], d.cnt, d.clk⟩
  cov : ∀ k r, aget d.es k = some r → (∃ v, (k, v) ∈ rest) ∨ ∃ r', aget es' k = some r' ∧ r'.pl = r.pl
  snd : ∀ k r', aget es' k = some r' → ∃ r, aget d.es k = some r ∧ r'.pl = r.pl
  new : ∀ g ∈ (⟨bs, bsm, br, ba, d.comp, .nilFunc, d.S, es', [], d.cnt, d.clk⟩ : Dm).muts nb, w.heap.size ≤ g ∧ g ≠ rr
  imm : ∀ g ∈ (⟨bs, bsm, br, ba, d.comp, .nilFunc, d.S, es', [], d.cnt, d.clk⟩ : Dm).imms, g ∈ d.imms
  rnew : w.heap.size ≤ rr
theorem FkI.start {w wc : World} {b : Nat} {d : Dm} (hd : DmAt w b d) {nb bs bsm br ba : Nat} (hdm : DmAt wc nb ⟨bs, bsm, br, ba, d.comp, .nilFunc, d.S, [], [], d.cnt, d.clk⟩) (hge : ∀ g ∈ [nb, bs, bsm, br, ba], w.heap.size ≤ g) (hc : Chg [] w wc) {o : Obj}
    (hra : RangeAt Try.prog 27 Inp.qk (wc.alloc o) d.br wc.heap.size (amap Rs.val d.es) (amap Rs.val d.es)) : FkI w d nb bs bsm br ba wc.heap.size d.es.length (wc.alloc o) [] (amap Rs.val d.es) := by
  have hc1 : Chg [] wc (wc.alloc o) := (Chg.refl [] wc).alloc o
  refine ⟨by simp [amap], hc.trans hc1, hra, fun _ h => h, hdm.new hc1, fun k r hr => .inl ⟨r.val, ?_⟩, fun k r' h => by simp [aget_nil] at h, fun g hg => ⟨hge g (by simpa [Dm.muts] using hg), fun e => ?_⟩, fun g hg => List.mem_append_left _ (by simpa [Dm.imms] using hg), hc.size⟩
  · exact List.mem_map.2 ⟨(k, r), aget_mem hr, rfl⟩
  · have := hdm.lt g hg
    omega
/-- one result more -/
theorem FkI.step {w wr w1 w2 w3 : World} {b : Nat} {d : Dm} (hd : DmAt w b d) {nb bs bsm br ba rr k : Nat} {es' : List (QK × Rs)} {rest rest' : List (QK × Value)} {key : QK} {r : Rs} {o : Obj} {nk : Nat} (h : FkI w d nb bs bsm br ba rr k wr es' rest)
    (hp : rest.Perm ((key, r.val) :: rest')) (hr : aget d.es key = some r) (hra : RangeAt Try.prog 27 Inp.qk w1 d.br rr (amap Rs.val d.es) rest') (hc1 : Chg [rr] wr w1) (hc2 : Chg [] w1 w2) (hnk : w1.heap.size ≤ nk)
    (hb : w2.heap[nk]? = some (.cells #[.slice r.a r.xs.length r.cap, .string ⟨#[]⟩, .int .i64 r.ver, .int .i64 r.chg, .int .i64 r.dur, .slice r.da r.deps.length r.dcap, .int .i64 r.use] 106 (0, 0)))
    (hm : MapAt Try.prog 27 Inp.qk (setBlock w2 br o) br (ups (amap Rs.val es') key (.pointer (some ⟨nk, 0, none⟩)))) (hw3 : w3 = setBlock w2 br o) :
    FkI w d nb bs bsm br ba rr rest'.length w3 (ups es' key { r with blk := nk }) rest' ∧ rest'.length < k := by
  subst hw3
  have hnew := h.new
  have hbr : br ∈ (⟨bs, bsm, br, ba, d.comp, .nilFunc, d.S, es', [], d.cnt, d.clk⟩ : Dm).muts nb := by simp [Dm.muts]
  have hbr' := hnew br hbr
  have hcr : ChgP (fun x => x = rr) wr w1 := hc1.toP.mono fun x hx => by simpa using hx
  have hdm1 : DmAt w1 nb ⟨bs, bsm, br, ba, d.comp, .nilFunc, d.S, es', [], d.cnt, d.clk⟩ := h.dm.kept hcr (fun g hg => (hnew g hg).2) fun g hg e => by
    have := hd.bound g (h.imm g hg)
    have := h.rnew
    omega
  have hdm2 := hdm1.new hc2
  have hcw1 : Chg [] w w1 := ChgP.toL ((h.chg.p (S := fun g => g ∈ ([] : List Nat))).comp hcr fun g hg => Or.inr (by have := h.rnew; omega))
  have hcw2 := hcw1.trans hc2
  have hrs := hd.rs hr
  have himm : ∀ g ∈ r.imm, g ∈ d.imms := fun g hg => Dm.imm_mem (aget_mem hr) hg
  have hrs2 : RsAt w2 { r with blk := nk } := ⟨hb, hrs.nums.same hcw2, hrs.size, I3s.kept (S := fun _ => False) hrs.deps hcw2.p fun _ _ h => h⟩
  have hsz1 := hcw1.size
  have hput := hdm2.put0 (key := key) (r := { r with blk := nk }) (o := o) hrs2 (fun hm => by have := hdm1.lt _ hm; simp only at this; omega) (fun hm => by have := hd.bound _ (h.imm _ hm); simp only at this; omega)
    (fun g hg => by
      have hg' := hd.bound g (himm g hg)
      refine ⟨fun hm => by have := (hnew g hm).1; omega, fun e => by simp only at e; omega, by have := hcw2.size; omega⟩) hm
  have hcs : ChgP (fun x => x = br) w2 (setBlock w2 br o) := (ChgP.refl (fun x => x = br) w2).setBlock (Or.inl rfl) o
  have hdbr : d.br < w.heap.size := hd.lt _ (by simp [Dm.muts])
  have hnd : ((key, r.val) :: rest').length = rest.length := hp.length_eq.symm
  refine ⟨⟨rfl, ChgP.toL ((hcw2.p (S := fun g => g ∈ ([] : List Nat))).comp hcs fun g hg => Or.inr (by omega)), ?_, fun p hpm => h.sub p (hp.mem_iff.2 (by simp [hpm])), hput, fun k' r' hk' => ?_, fun k' r' hk' => ?_, fun g hg => ?_, fun g hg => ?_, h.rnew⟩, ?_⟩
  · have hra2 := hra.kept hc2 (by simp) (by simp)
    exact hra2.of_blocks (hcs.block _ (by have := hcw2.size; omega) (by omega)) (hcs.block _ hra2.lt (fun e => hbr'.2 e.symm))
  · rcases h.cov k' r' hk' with ⟨v, hv⟩ | ⟨r2, hr2, he⟩
    · rcases List.mem_cons.1 (hp.mem_iff.1 hv) with e | hv
      · right
        simp only [Prod.mk.injEq] at e
        obtain ⟨rfl, _⟩ := e
        rw [hr] at hk'
        cases hk'
        exact ⟨{ r with blk := nk }, by rw [aget_ups, if_pos rfl], rfl⟩
      · exact .inl ⟨v, hv⟩
    · by_cases e : key = k'
      · subst e
        rw [hr] at hk'
        cases hk'
        exact .inr ⟨{ r with blk := nk }, by rw [aget_ups, if_pos rfl], rfl⟩
      · exact .inr ⟨r2, by rw [aget_ups, if_neg e]; exact hr2, he⟩
  · rw [aget_ups] at hk'
    split at hk'
    · rename_i e
      cases hk'
      exact ⟨r, e ▸ hr, rfl⟩
    · exact h.snd k' r' hk'
  · have hz : g = nk ∨ g ∈ (⟨bs, bsm, br, ba, d.comp, .nilFunc, d.S, es', [], d.cnt, d.clk⟩ : Dm).muts nb := by
      unfold Dm.muts at hg ⊢
      simp only [List.mem_cons] at hg ⊢
      rcases hg with hg | hg | hg | hg | hg | hg
      · exact .inr (.inl hg)
      · exact .inr (.inr (.inl hg))
      · exact .inr (.inr (.inr (.inl hg)))
      · exact .inr (.inr (.inr (.inr (.inl hg))))
      · exact .inr (.inr (.inr (.inr (.inr (.inl hg)))))
      · rcases map_ups_blk g hg with e | hg
        · exact .inl e
        · exact .inr (.inr (.inr (.inr (.inr (.inr hg)))))
    rcases hz with rfl | hz
    · have := h.rng.lt
      have := hc1.size
      exact ⟨by omega, by omega⟩
    · exact hnew g hz
  · rcases List.mem_append.1 hg with hg | hg
    · exact List.mem_append_left _ hg
    · rcases mem_ups_imms hg with hg | hg
      · exact himm g hg
      · exact h.imm g (List.mem_append_right _ hg)
  · have := h.num
    simp only [List.length_cons] at hnd
    omega
/-- what Fork brings -/
def ForkPost (w : World) (b : Nat) (d : Dm) (e : Ending) (w' : World) : Prop :=
  ∃ nb d', e = .returned (.pointer (some ⟨nb, 0, none⟩)) ∧ DmAt w' nb d' ∧ Chg [] w w' ∧ d'.comp = d.comp ∧ d'.stop = .nilFunc ∧ d'.S = d.S ∧ d'.act = [] ∧ d'.cnt = d.cnt ∧ d'.clk = d.clk ∧ (∀ k, aget d'.pl.es k = aget d.pl.es k) ∧ (∀ g ∈ d'.muts nb, w.heap.size ≤ g) ∧ ∀ g ∈ d'.imms, g ∈ d.imms
theorem FkI.fin {w wr : World} {b : Nat} {d : Dm} {nb bs bsm br ba rr k : Nat} {es' : List (QK × Rs)} (h : FkI w d nb bs bsm br ba rr k wr es' []) : ForkPost w b d (.returned (.pointer (some ⟨nb, 0, none⟩))) wr := by
  refine ⟨nb, _, rfl, h.dm, h.chg, rfl, rfl, rfl, rfl, rfl, rfl, fun k => ?_, fun g hg => (h.new g hg).1, h.imm⟩
  rw [Dm.aget_pl, Dm.aget_pl]
  show (aget es' k).map Rs.pl = _
  cases hk : aget es' k with
  | some r' =>
    obtain ⟨r, hr, e⟩ := h.snd k r' hk
    rw [hr, Option.map_some, Option.map_some, e]
  | none =>
    cases hr : aget d.es k with
    | none => rfl
    | some r =>
      rcases h.cov k r hr with ⟨v, hv⟩ | ⟨r', h1, _⟩
      · cases hv
      · rw [hk] at h1; cases h1
set_option maxRecDepth 100000 in
set_option maxHeartbeats 4000000 in
theorem memoFork_any (w : World) (b : Nat) (d : Dm) (h : DmAt w b d) (cf : Nat) (caps : Array Value) (hcomp : d.comp = .func (.func cf) #[] caps) (hqk : ∀ k r, aget d.es k = some r → Inp.QKok k) :
    Calls Try.prog 46 #[.pointer (some ⟨b, 0, none⟩)] w (ForkPost w b d) := by
  have q0 : w.cell? ⟨b, 0, none⟩ = some (.func (.func cf) #[] caps) := by rw [← hcomp]; exact cell_of_heap h.blk rfl
  have q1 : w.cell? ⟨b, 1, none⟩ = some (.pointer (some ⟨d.bs, 0, none⟩)) := cell_of_heap h.blk rfl
  have q5 : w.cell? ⟨b, 5, none⟩ = some (.int .i64 d.cnt) := cell_of_heap h.blk rfl
  have q6 : w.cell? ⟨b, 6, none⟩ = some (.int .i64 d.clk) := cell_of_heap h.blk rfl
  have lb := lt_of_obj h.blk
  have H := Lib.hid h
  have Hcomp := Lib.hid hcomp
  have Hqk := Lib.hid hqk
  clear hcomp hqk
  have hmm := @run_makeMap Try.prog
  clear h
  go_enter Try.func46, Try.ntmps46
  go_upto_region 1 with (fail)
  go_cut [3] (fun v wx => ∃ nb : Nat, v = .pointer (some ⟨nb, 0, none⟩) ∧ Hid (FkS w d nb wx))
  case first =>
   go_region_held3 (fun w' => w'.cell? ⟨b, 0, none⟩ = some (.func (.func cf) #[] caps) ∧ w'.cell? ⟨b, 1, none⟩ = some (.pointer (some ⟨d.bs, 0, none⟩)) ∧ w'.cell? ⟨b, 5, none⟩ = some (.int .i64 d.cnt) ∧ w'.cell? ⟨b, 6, none⟩ = some (.int .i64 d.clk))
     (first | (go_keep; done) | (exact kS1))
     ((go_at_call 76; refine (Inp.fork_any d.bs d.bsm d.S _ (by exact H.out.store.same (by first | exact (Chg.refl [] _).drew | exact ((Chg.refl [] _).alloc _).drew | exact (((Chg.refl [] _).alloc _).alloc _).drew))).mono ?_; rintro e w1 ⟨rfl, hst1, c1⟩; have hcw : Chg [] w w1 := (by first | exact ((Chg.refl [] w).drew).trans c1 | exact (((Chg.refl [] w).alloc _).drew).trans c1 | exact ((((Chg.refl [] w).alloc _).alloc _).drew).trans c1); have kS1 : w1.cell? ⟨b, 0, none⟩ = some (.func (.func cf) #[] caps) ∧ w1.cell? ⟨b, 1, none⟩ = some (.pointer (some ⟨d.bs, 0, none⟩)) ∧ w1.cell? ⟨b, 5, none⟩ = some (.int .i64 d.cnt) ∧ w1.cell? ⟨b, 6, none⟩ = some (.int .i64 d.clk) := ⟨(hcw.cell (p := ⟨b, 0, none⟩) lb (by simp)).trans q0, (hcw.cell (p := ⟨b, 1, none⟩) lb (by simp)).trans q1, (hcw.cell (p := ⟨b, 5, none⟩) lb (by simp)).trans q5, (hcw.cell (p := ⟨b, 6, none⟩) lb (by simp)).trans q6⟩; have Hst1 := Lib.hid hst1; have Hc1 := Lib.hid c1; have Hcw := Lib.hid hcw; clear hst1 c1 hcw))
   all_goals
     go_wp2_with fail
     go_meet
   all_goals
     have hs := Hst1.out
     simp only [World.size_drew, World.size_alloc, Array.size_push] at hs
     first
       | exact ⟨_, rfl, Lib.hid ((FkP.a hs Hcw.out).box H.out (by simp) Hcomp.out rfl)⟩
       | exact ⟨_, rfl, Lib.hid ((FkP.a hs Hcw.out).swap.box H.out (by simp) Hcomp.out rfl)⟩
       | exact ⟨_, rfl, Lib.hid ((FkP.b hs Hc1.out).box H.out (by simp) Hcomp.out rfl)⟩
       | exact ⟨_, rfl, Lib.hid ((FkP.b hs Hc1.out).swap.box H.out (by simp) Hcomp.out rfl)⟩
       | exact ⟨_, rfl, Lib.hid ((FkP.c hs Hc1.out).box H.out (by simp) Hcomp.out rfl)⟩
       | exact ⟨_, rfl, Lib.hid ((FkP.c hs Hc1.out).swap.box H.out (by simp) Hcomp.out rfl)⟩
  case rest =>
    obtain ⟨nb, rfl, hfs⟩ := hcut
    obtain ⟨bs, bsm, br, ba, hdm, hge, hc⟩ := hfs.out
    clear q0 q1 q5 q6 hfs
    have q2 : wc.cell? ⟨b, 2, none⟩ = some (.map (some d.br)) := (hc.cell (p := ⟨b, 2, none⟩) lb (by simp)).trans (cell_of_heap H.out.blk (i := 2) rfl)
    have Hdm := Lib.hid hdm
    have Hge := Lib.hid hge
    have Hc := Lib.hid hc
    obtain ⟨o, hrg, hra⟩ := (H.out.res.kept hc (by simp)).range Try.underlying85
    have Hst := Lib.hid (FkI.start H.out hdm hge hc hra)
    have hcw : Chg [] w (wc.alloc o) := hc.trans ((Chg.refl [] wc).alloc o)
    have hrl := hra.lt
    clear hdm hge hra
    go_wp2_with fail
    clear hrg
    go_loopg [4] d.es.length (fun k v wr => ∃ es' rest, FkI w d nb bs bsm br ba wc.heap.size k wr es' rest)
    case atStart => exact ⟨[], _, Hst.out⟩
    case round =>
      obtain ⟨es', rest, hI⟩ := hrel
      rcases hI.rng.next 0 with ⟨rfl, hrun⟩ | ⟨key, v, rest', w1, hperm, hrun, hra1, hch1, hsz1, hcell1, hfz1, hent⟩
      · have HI := Lib.hid hI
        clear hI
        go_wp2_with fail
        go_ret
        exact HI.out.fin
      · have hmem : (key, v) ∈ amap Rs.val d.es := hI.sub _ (hperm.mem_iff.2 (by simp))
        obtain ⟨⟨key', r⟩, hpm, he⟩ := List.mem_map.1 hmem
        simp only [Prod.mk.injEq] at he
        obtain ⟨rfl, rfl⟩ := he
        have hr : aget d.es key' = some r := aget_of_mem H.out.keys hpm
        have hqk : Inp.qk key' = i3v key' := rfl
        have hcw1 : Chg [] w w1 := ChgP.toL ((hI.chg.p (S := fun g => g ∈ ([] : List Nat))).comp (T := fun x => x = wc.heap.size) (hch1.toP.mono fun x hx => by simpa using hx) fun g hg => Or.inr (by have := hI.rnew; omega))
        have hrb := (H.out.rs hr).blk
        have hrl1 := lt_of_obj hrb
        have hrb1 : w1.heap[r.blk]? = _ := (hcw1.block _ hrl1 (by simp)).trans hrb
        have hnb : w1.cell? ⟨nb, 2, none⟩ = some (.map (some br)) := (hcell1 _).trans (cell_of_heap hI.dm.blk rfl)
        have lnb : nb < w1.heap.size := by have := lt_of_obj hI.dm.blk; omega
        have HI := Lib.hid hI
        have Hperm := Lib.hid hperm
        have Hra1 := Lib.hid hra1
        have Hch1 := Lib.hid hch1
        have Hcw1 := Lib.hid hcw1
        have Hr := Lib.hid hr
        have Hrb1 := Lib.hid hrb1
        have Hsz1 := Lib.hid hsz1
        have c0 := cell_of_heap hrb1 (i := 0) rfl
        have c1 := cell_of_heap hrb1 (i := 1) rfl
        have c2 := cell_of_heap hrb1 (i := 2) rfl
        have c3 := cell_of_heap hrb1 (i := 3) rfl
        have c4 := cell_of_heap hrb1 (i := 4) rfl
        have c5 := cell_of_heap hrb1 (i := 5) rfl
        have c6 := cell_of_heap hrb1 (i := 6) rfl
        have lrb := lt_of_cell c0
        obtain ⟨k1, k2, k3⟩ := key'
        unfold Inp.qk at hrun hent
        unfold Rs.val at hrun hent
        simp only at c0 c1 c2 c3 c4 c5 c6 lrb
        clear hI hmem hpm hr hqk hcw1 hrb hrl1 hrb1 hperm hra1 hch1 hsz1 hcell1 hfz1
        go_wp2_with fail
        obtain ⟨w2, hw2⟩ : ∃ y, y = (w1.alloc (.cells #[.int .i64 k1, .int .i64 k2, .int .i64 k3] 27)).alloc (.cells #[.slice r.a r.xs.length r.cap, .string ⟨#[]⟩, .int .i64 r.ver, .int .i64 r.chg, .int .i64 r.dur, .slice r.da r.deps.length r.dcap, .int .i64 r.use] 106) := ⟨_, rfl⟩
        have hc2 : Chg [] w1 w2 := by rw [hw2]; exact ((Chg.refl [] w1).alloc _).alloc _
        have hkb : w2.heap[w1.heap.size]? = some (.cells #[.int .i64 k1, .int .i64 k2, .int .i64 k3] 27 (0, 0)) := by rw [hw2]; exact (heap_past _ _ _ (by simp)).trans (heap_at _ _ _ rfl)
        have hbb : w2.heap[w1.heap.size + 1]? = some (.cells #[.slice r.a r.xs.length r.cap, .string ⟨#[]⟩, .int .i64 r.ver, .int .i64 r.chg, .int .i64 r.dur, .slice r.da r.deps.length r.dcap, .int .i64 r.use] 106 (0, 0)) := by rw [hw2]; exact heap_at _ _ _ (by simp)
        rw [← hw2]
        have hnb2 := (hc2.cell lnb (by simp)).trans hnb
        have lnb2 := lt_of_cell hnb2
        have Hc2 := Lib.hid hc2
        have Hbb := Lib.hid hbb
        have Hkb := Lib.hid hkb
        clear hw2 hc2 hkb hbb hnb lnb c0 c1 c2 c3 c4 c5 c6 lrb hrun hent
        refine wp_region_readsQ 5 (by kernel_rfl) (by kernel_rfl) ?_
        intro wd hwd
        simp only [List.take_succ_cons, List.take_zero, List.drop_succ_cons, List.drop_zero]
        have hcd : Chg [] w2 wd := by rw [hwd]; exact (Chg.refl _ _).drew
        have hnbd := (hcd.cell lnb2 (by simp)).trans hnb2
        have hkd := (hcd.block _ (lt_of_obj Hkb.out) (by simp)).trans Hkb.out
        have hbd := (hcd.block _ (lt_of_obj Hbb.out) (by simp)).trans Hbb.out
        have e0 : wd.cell? ⟨w1.heap.size, 0, none⟩ = some (.int .i64 k1) := cell_of_heap hkd rfl
        have e1 : wd.cell? ⟨w1.heap.size, 1, none⟩ = some (.int .i64 k2) := cell_of_heap hkd rfl
        have e2 : wd.cell? ⟨w1.heap.size, 2, none⟩ = some (.int .i64 k3) := cell_of_heap hkd rfl
        have hbrm : MapAt Try.prog 27 Inp.qk wd br (amap Rs.val es') := (HI.out.dm.res.of_block (Hch1.out.block _ HI.out.dm.res.lt (by have := (HI.out.new br (by simp [Dm.muts])).2; simpa using this))).kept (Hc2.out.trans hcd) (by simp)
        have hqk : Inp.QKok (k1, k2, k3) := Hqk.out _ _ Hr.out
        obtain ⟨o2, hupd, hmap⟩ := hbrm.update Inp.qkeyed Inp.qk_inj Try.underlying85 (Inp.qkOk hqk) (.pointer (some ⟨w1.heap.size + 1, 0, none⟩))
        unfold Inp.qk at hupd
        have Hcd := Lib.hid hcd
        have Hbd := Lib.hid hbd
        have Hmap := Lib.hid hmap
        clear hwd hcd hkd hbd hbrm hqk hnb2 lnb2 hmap
        repeat go_big_quiet_step (fail)
        refine wpQuiet_nil ?_
        go_wp2_with fail
        have hstep := HI.out.step H.out Hperm.out Hr.out Hra1.out Hch1.out (Hc2.out.trans Hcd.out) (by omega) Hbd.out Hmap.out rfl
        have Hstep := Lib.hid hstep
        clear hstep hupd e0 e1 e2 hnbd
        go_roundg rest'.length
        case measure => exact Hstep.out.2
        case rel => exact ⟨_, _, Hstep.out.1⟩
end Go.Proofs.Ytdeodcomlakpaaa
