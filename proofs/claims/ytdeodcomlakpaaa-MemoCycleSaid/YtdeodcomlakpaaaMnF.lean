/- A get under way: the state of recompute's closure. -/
import Derived.Test.YtdeodcomlakpaaaMnE
import Derived.Test.YtdeodcomlakpaaaMqM
namespace Go.Proofs.Ytdeodcomlakpaaa
open Go.RowKit
set_option linter.unusedVariables false
/-- what a get of values brings -/
def VPost {ε σ : Type} (I : (Nat → Prop) → σ → World → Prop) (RO : Nat → Prop) (G : σ → QK → Except ε (List Int) × σ) (ch : ε → List PanicEntry) (F : Nat → Prop) (s : σ) (k : QK) (w : World) (e : Ending) (w' : World) : Prop :=
  (match (G s k).1 with
    | .ok xs => ∃ a c, e = .returned (.agg #[.slice a xs.length c, .string ⟨#[]⟩]) ∧ Inp.Ints w' (.slice a xs.length c) xs ∧ xs.length * 8 ≤ 140737488355328
    | .error x => e = .panicked (ch x)) ∧ I F (G s k).2 w' ∧ ChgP (fun b => ¬ F b ∧ ¬ RO b) w w'
/-- a get of values: how it is called, what its state is, what it answers -/
structure VFam {ε σ : Type} (fn : Nat) (caps : Array Value) (I : (Nat → Prop) → σ → World → Prop) (RO : Nat → Prop) (G : σ → QK → Except ε (List Int) × σ) (ch : ε → List PanicEntry) (Kk : QK → Prop) : Prop where
  enter : ∀ args w, (callFunc fn args).run Try.prog w = .ok (.enter fn args) w
  keep : ∀ {F s w w'}, I F s w → ChgP (fun k => F k ∧ ¬ RO k) w w' → I (fun k => F k ∨ (w.heap.size ≤ k ∧ k < w'.heap.size)) s w'
  anti : ∀ {F F' s w}, I F s w → (∀ k, F' k → F k) → I F' s w
  ro : ∀ {F s w}, I F s w → ∀ k, RO k → k < w.heap.size
  call : ∀ F s w k, Kk k → I F s w → Calls Try.prog fn (#[i3v k] ++ caps) w (VPost I RO G ch F s k w)
theorem VPost.ok {ε σ : Type} {I : (Nat → Prop) → σ → World → Prop} {RO : Nat → Prop} {G : σ → QK → Except ε (List Int) × σ} {ch : ε → List PanicEntry} {F : Nat → Prop} {s s' : σ} {k : QK} {w w' : World} {e : Ending} {xs : List Int} (h : VPost I RO G ch F s k w e w') (hg : G s k = (.ok xs, s')) :
    ∃ a c, e = .returned (.agg #[.slice a xs.length c, .string ⟨#[]⟩]) ∧ Inp.Ints w' (.slice a xs.length c) xs ∧ xs.length * 8 ≤ 140737488355328 ∧ I F s' w' ∧ ChgP (fun b => ¬ F b ∧ ¬ RO b) w w' := by
  obtain ⟨h1, h2, h3⟩ := h
  rw [hg] at h1 h2
  obtain ⟨a, c, h4, h5, h6⟩ := h1
  exact ⟨a, c, h4, h5, h6, h2, h3⟩
theorem VPost.err {ε σ : Type} {I : (Nat → Prop) → σ → World → Prop} {RO : Nat → Prop} {G : σ → QK → Except ε (List Int) × σ} {ch : ε → List PanicEntry} {F : Nat → Prop} {s s' : σ} {k : QK} {w w' : World} {e : Ending} {x : ε} (h : VPost I RO G ch F s k w e w') (hg : G s k = (.error x, s')) :
    e = .panicked (ch x) ∧ I F s' w' ∧ ChgP (fun b => ¬ F b ∧ ¬ RO b) w w' := by
  obtain ⟨h1, h2, h3⟩ := h
  rw [hg] at h1 h2
  exact ⟨h1, h2, h3⟩
/-- a result under way -/
structure GAt (w0 : World) (RO : Nat → Prop) (b : Nat) (K : PS → QK → Prop) (Kk : QK → Prop) (ws : World) (ds : Dm) (cdb cr rb : Nat) (ver : Int) (σ : GS) (w : World) (d : Dm) (da : Option Addr) (dcap : Nat) : Prop where
  env : Env w0 RO b w d
  next : Next b ws w ds d
  pl : d.pl = σ.1
  bdb : w.heap[cdb]? = some (.cells #[.pointer (some ⟨b, 0, none⟩)] 24 (0, 0))
  bre : w.heap[cr]? = some (.cells #[.pointer (some ⟨rb, 0, none⟩)] 104 (0, 0))
  res : w.heap[rb]? = some (.cells #[.slice none 0 0, .string ⟨#[]⟩, .int .i64 ver, .int .i64 ver, .int .i64 σ.2.2, .slice da σ.2.1.length dcap, .int .i64 0] 106 (0, 0))
  row : w.ownsRow 0 27 3 (.slice da σ.2.1.length dcap) σ.2.1.length (flat3 σ.2.1)
  nd : σ.2.1.Nodup
  kin : ∀ k ∈ σ.2.1, Kk k
  ks : ∀ k, Kk k → Inp.QKok k ∧ (k.1 ≠ 0 → K d.pl k)
  abox : cdb ∉ d.muts b ∧ cr ∉ d.muts b
  ares : rb ∉ d.muts b ∧ rb ∉ d.imms ∧ ¬ RO rb ∧ rb ≠ cdb ∧ rb ≠ cr ∧ ws.heap.size ≤ rb
  arow : ∀ g ∈ oblk da, g ∉ d.muts b ∧ g ∉ d.imms ∧ ¬ RO g ∧ g ≠ cdb ∧ g ≠ cr ∧ g ≠ rb ∧ ws.heap.size ≤ g
def GRO (RO : Nat → Prop) (cdb cr : Nat) : Nat → Prop := fun g => RO g ∨ g = cdb ∨ g = cr
/-- the blocks F are nobody's of the database's -/
def GFree (b : Nat) (ws : World) (rb : Nat) (d : Dm) (da : Option Addr) (F : Nat → Prop) : Prop := ∀ g, F g → ws.heap.size ≤ g ∧ g ∉ d.muts b ∧ g ∉ d.imms ∧ g ≠ rb ∧ g ∉ oblk da
def GI (w0 : World) (RO : Nat → Prop) (b : Nat) (K : PS → QK → Prop) (Kk : QK → Prop) (ws : World) (ds : Dm) (cdb cr rb : Nat) (ver : Int) (F : Nat → Prop) (σ : GS) (w : World) : Prop :=
  ∃ d da dcap, GAt w0 RO b K Kk ws ds cdb cr rb ver σ w d da dcap ∧ GFree b ws rb d da F ∧ ∀ g, F g → g < w.heap.size
section
variable {w0 : World} {RO : Nat → Prop} {b : Nat} {K : PS → QK → Prop} {Kk : QK → Prop} {ws : World} {ds : Dm} {cdb cr rb : Nat} {ver : Int} {σ : GS} {w w' : World} {d d' : Dm} {da : Option Addr} {dcap : Nat} {F F' : Nat → Prop}
theorem GAt.dalt (h : GAt w0 RO b K Kk ws ds cdb cr rb ver σ w d da dcap) : ∀ g ∈ oblk da, g < w.heap.size := by
  intro g hg
  rcases h.row.2 with ⟨e, _⟩ | ⟨g', cap, cur, e, _, hh, _⟩
  · simp only [Value.slice.injEq] at e; rw [e.1] at hg; simp [oblk] at hg
  · simp only [Value.slice.injEq] at e; rw [e.1] at hg; simp [oblk] at hg; subst hg; exact lt_of_obj hh
/-- changes elsewhere -/
theorem GAt.kept (h : GAt w0 RO b K Kk ws ds cdb cr rb ver σ w d da dcap) (hc : ChgP F w w') (hF : GFree b ws rb d da F) (hR : ∀ g, F g → ¬ GRO RO cdb cr g) : GAt w0 RO b K Kk ws ds cdb cr rb ver σ w' d da dcap := by
  have hm : DmAt w' b d := h.env.mem.kept hc (fun g hg hf => (hF g hf).2.1 hg) (fun g hg hf => (hF g hf).2.2.1 hg)
  refine ⟨⟨hm, fun g hg => ?_⟩, ?_, h.pl, ?_, ?_, ?_, ?_, h.nd, h.kin, h.ks, h.abox, h.ares, h.arow⟩
  · obtain ⟨h1, h2, h3⟩ := h.env.ro g hg
    exact ⟨Nat.lt_of_lt_of_le h1 hc.size, (hc.block g h1 (fun hf => hR g hf (Or.inl hg))).trans h2, h3⟩
  · exact ⟨hm, h.next.chg.comp hc fun g hg => Or.inr (hF g hg).1, h.next.muts, h.next.imms, h.next.comp, h.next.stop, h.next.store, h.next.bs, h.next.bsm, h.next.br, h.next.ba, h.next.busy⟩
  · exact (hc.block _ (lt_of_obj h.bdb) (fun hf => hR _ hf (Or.inr (Or.inl rfl)))).trans h.bdb
  · exact (hc.block _ (lt_of_obj h.bre) (fun hf => hR _ hf (Or.inr (Or.inr rfl)))).trans h.bre
  · exact (hc.block _ (lt_of_obj h.res) (fun hf => (hF _ hf).2.2.2.1 rfl)).trans h.res
  · refine ownsRow_kept h.row fun g hg hl => hc.block g hl fun hf => (hF _ hf).2.2.2.2 ?_
    cases da <;> simp [Value.ownBlock, oblk] at hg ⊢
    exact hg.symm
theorem GAt.new (h : GAt w0 RO b K Kk ws ds cdb cr rb ver σ w d da dcap) (hc : Chg [] w w') : GAt w0 RO b K Kk ws ds cdb cr rb ver σ w' d da dcap :=
  h.kept (F := fun _ => False) hc.p (fun _ h => h.elim) (fun _ h => h.elim)
theorem GI.keep (h : GI w0 RO b K Kk ws ds cdb cr rb ver F σ w) (hc : ChgP (fun k => F k ∧ ¬ GRO RO cdb cr k) w w') : GI w0 RO b K Kk ws ds cdb cr rb ver (fun k => F k ∨ (w.heap.size ≤ k ∧ k < w'.heap.size)) σ w' := by
  obtain ⟨d, da, dcap, h, hF, hl⟩ := h
  refine ⟨d, da, dcap, h.kept hc (fun g hg => hF g hg.1) (fun g hg => hg.2), fun g hg => ?_, fun g hg => hg.elim (fun h => Nat.lt_of_lt_of_le (hl g h) hc.size) fun h => h.2⟩
  rcases hg with hg | ⟨hg, _⟩
  · exact hF g hg
  · have h1 := h.next.chg.size
    exact ⟨by omega, fun hm => by have := h.env.mem.lt g hm; omega, fun hm => by have := h.env.mem.bound g hm; omega, fun e => by have := lt_of_obj h.res; omega, fun hm => by have := h.dalt g hm; omega⟩
theorem GI.anti (h : GI w0 RO b K Kk ws ds cdb cr rb ver F σ w) (hF : ∀ k, F' k → F k) : GI w0 RO b K Kk ws ds cdb cr rb ver F' σ w := by
  obtain ⟨d, da, dcap, h, h2, h3⟩ := h
  exact ⟨d, da, dcap, h, fun g hg => h2 g (hF g hg), fun g hg => h3 g (hF g hg)⟩
theorem GI.ro (h : GI w0 RO b K Kk ws ds cdb cr rb ver F σ w) : ∀ k, GRO RO cdb cr k → k < w.heap.size := by
  obtain ⟨d, da, dcap, h, h2⟩ := h
  intro k hk
  rcases hk with hk | rfl | rfl
  · exact (h.env.ro k hk).1
  · exact lt_of_obj h.bdb
  · exact lt_of_obj h.bre
/-- the database went on -/
theorem GAt.go (h : GAt w0 RO b K Kk ws ds cdb cr rb ver σ w d da dcap) (hn : Next b w w' d d') (hks : ∀ k, Kk k → Inp.QKok k ∧ (k.1 ≠ 0 → K d'.pl k)) : GAt w0 RO b K Kk ws ds cdb cr rb ver (d'.pl, σ.2) w' d' da dcap := by
  have o1 := hn.other (lt_of_obj h.bdb) h.abox.1
  have o2 := hn.other (lt_of_obj h.bre) h.abox.2
  have o3 := hn.other (lt_of_obj h.res) h.ares.1
  have hni : ∀ g, g < w.heap.size → g ∉ d.imms → g ∉ d'.imms := fun g h1 h2 hm => (hn.imms g hm).elim h2 fun hs => by omega
  refine ⟨h.env.next hn, h.next.trans hn, rfl, o1.1.trans h.bdb, o2.1.trans h.bre, o3.1.trans h.res, ?_, h.nd, h.kin, hks, ⟨o1.2.1, o2.2.1⟩, ⟨o3.2.1, hni _ (lt_of_obj h.res) h.ares.2.1, h.ares.2.2⟩, fun g hg => ?_⟩
  · refine ownsRow_kept h.row fun g hg hl => (hn.other hl (h.arow g ?_).1).1
    cases da <;> simp [Value.ownBlock, oblk] at hg ⊢
    exact hg.symm
  · have hl := h.dalt g hg
    obtain ⟨a1, a2, a3⟩ := h.arow g hg
    exact ⟨(hn.other hl a1).2.1, hni g hl a2, a3⟩
theorem GFree.go (h : GAt w0 RO b K Kk ws ds cdb cr rb ver σ w d da dcap) (hF : GFree b ws rb d da F) (hl : ∀ g, F g → g < w.heap.size) (hn : Next b w w' d d') : GFree b ws rb d' da F := fun g hg => by
  obtain ⟨h1, h2, h3, h4⟩ := hF g hg
  exact ⟨h1, (hn.other (hl g hg) h2).2.1, fun hm => (hn.imms g hm).elim h3 fun hs => by have := hl g hg; omega, h4⟩
/-- the changes of a get -/
theorem GAt.chg (h : GAt w0 RO b K Kk ws ds cdb cr rb ver σ w d da dcap) (hF : GFree b ws rb d da F) : ∀ g, (g ∈ d.muts b ∨ g = rb ∨ g ∈ oblk da) → ¬ F g ∧ ¬ GRO RO cdb cr g := by
  rintro g (hg | rfl | hg)
  · exact ⟨fun hf => (hF g hf).2.1 hg, fun hr => by
      rcases hr with hr | rfl | rfl
      · exact (h.env.ro g hr).2.2 hg
      · exact h.abox.1 hg
      · exact h.abox.2 hg⟩
  · exact ⟨fun hf => (hF _ hf).2.2.2.1 rfl, fun hr => by
      rcases hr with hr | e | e
      · exact h.ares.2.2.1 hr
      · exact h.ares.2.2.2.1 e
      · exact h.ares.2.2.2.2.1 e⟩
  · obtain ⟨a1, a2, a3, a4, a5, a6⟩ := h.arow g hg
    exact ⟨fun hf => (hF _ hf).2.2.2.2 hg, fun hr => by
      rcases hr with hr | e | e
      · exact a3 hr
      · exact a4 e
      · exact a5 e⟩
/-- the durability noted -/
theorem GAt.dur {s : PS} {l : List QK} {u u' : Int} (h : GAt w0 RO b K Kk ws ds cdb cr rb ver (s, l, u) w d da dcap) : GAt w0 RO b K Kk ws ds cdb cr rb ver (s, l, u') (w.setCell ⟨rb, 4, none⟩ (.int .i64 u')) d da dcap := by
  have hc : ChgP (fun g => g = rb) w (w.setCell ⟨rb, 4, none⟩ (.int .i64 u')) := (ChgP.refl (fun g => g = rb) w).setCell (p := ⟨rb, 4, none⟩) (Or.inl rfl) _
  have hm : DmAt (w.setCell ⟨rb, 4, none⟩ (.int .i64 u')) b d := h.env.mem.kept hc (fun g hg e => h.ares.1 (e ▸ hg)) (fun g hg e => h.ares.2.1 (e ▸ hg))
  refine ⟨⟨hm, fun g hg => ?_⟩, ?_, h.pl, ?_, ?_, ?_, ?_, h.nd, h.kin, h.ks, h.abox, h.ares, h.arow⟩
  · obtain ⟨h1, h2, h3⟩ := h.env.ro g hg
    exact ⟨Nat.lt_of_lt_of_le h1 hc.size, (hc.block g h1 (fun hf => h.ares.2.2.1 (hf ▸ hg))).trans h2, h3⟩
  · exact ⟨hm, h.next.chg.comp hc fun g hg => Or.inr (hg ▸ h.ares.2.2.2.2.2), h.next.muts, h.next.imms, h.next.comp, h.next.stop, h.next.store, h.next.bs, h.next.bsm, h.next.br, h.next.ba, h.next.busy⟩
  · exact (hc.block _ (lt_of_obj h.bdb) (fun hf => h.ares.2.2.2.1 hf.symm)).trans h.bdb
  · exact (hc.block _ (lt_of_obj h.bre) (fun hf => h.ares.2.2.2.2.1 hf.symm)).trans h.bre
  · exact (heap_setCell_same h.res _).trans rfl
  · refine ownsRow_kept h.row fun g hg hl => hc.block g hl fun hf => (h.arow g ?_).2.2.2.2.2.1 hf
    cases da <;> simp [Value.ownBlock, oblk] at hg ⊢
    exact hg.symm
/-- a dependency noted -/
theorem GAt.push {s : PS} {l : List QK} {u : Int} {k : QK} {w8 : World} {a8 : Option Addr} {cap8 : Nat} (h : GAt w0 RO b K Kk ws ds cdb cr rb ver (s, l, u) w d da dcap) (hk : Kk k) (hn : k ∉ l)
    (hown : w8.ownsRow 0 27 3 (.slice a8 (l.length + 1) cap8) (l.length + 1) (flat3 l ++ [.int .i64 k.1, .int .i64 k.2.1, .int .i64 k.2.2])) (hc : ChgP (fun g => g ∈ oblk da) w w8) (hat : ∀ g ∈ oblk a8, g ∈ oblk da ∨ w.heap.size ≤ g) :
    GAt w0 RO b K Kk ws ds cdb cr rb ver (s, addK l k, u) (w8.setCell ⟨rb, 5, none⟩ (.slice a8 (l.length + 1) cap8)) d a8 cap8 := by
  have hadd : addK l k = l ++ [k] := by unfold addK; rw [if_neg hn]
  have hadl : (addK l k).length = l.length + 1 := by rw [hadd]; simp
  have hcr : ChgP (fun g => g ∈ oblk da ∨ g = rb) w (w8.setCell ⟨rb, 5, none⟩ (.slice a8 (l.length + 1) cap8)) := (hc.mono (T := fun g => g ∈ oblk da ∨ g = rb) fun _ h => Or.inl h).setCell (p := ⟨rb, 5, none⟩) (Or.inl (Or.inr rfl)) _
  have hdm : ∀ g, (g ∈ oblk da ∨ g = rb) → g ∉ d.muts b ∧ g ∉ d.imms ∧ ¬ RO g ∧ g ≠ cdb ∧ g ≠ cr ∧ ws.heap.size ≤ g := by
    rintro g (hg | rfl)
    · obtain ⟨a1, a2, a3, a4, a5, a6, a7⟩ := h.arow g hg; exact ⟨a1, a2, a3, a4, a5, a7⟩
    · exact ⟨h.ares.1, h.ares.2.1, h.ares.2.2.1, h.ares.2.2.2.1, h.ares.2.2.2.2.1, h.ares.2.2.2.2.2⟩
  have hm := h.env.mem.kept hcr (fun g hg e => (hdm g e).1 hg) (fun g hg e => (hdm g e).2.1 hg)
  have hr8 : w8.heap[rb]? = w.heap[rb]? := hc.block _ (lt_of_obj h.res) fun hg => (h.arow _ hg).2.2.2.2.2.1 rfl
  have hws := h.next.chg.size
  refine ⟨⟨hm, fun g hg => ?_⟩, ?_, h.pl, ?_, ?_, ?_, ?_, addK_nodup h.nd k, fun x hx => ?_, h.ks, h.abox, h.ares, fun g hg => ?_⟩
  · obtain ⟨h1, h2, h3⟩ := h.env.ro g hg
    exact ⟨Nat.lt_of_lt_of_le h1 hcr.size, (hcr.block g h1 (fun hf => (hdm g hf).2.2.1 hg)).trans h2, h3⟩
  · exact ⟨hm, h.next.chg.comp hcr fun g hg => Or.inr (hdm g hg).2.2.2.2.2, h.next.muts, h.next.imms, h.next.comp, h.next.stop, h.next.store, h.next.bs, h.next.bsm, h.next.br, h.next.ba, h.next.busy⟩
  · exact (hcr.block _ (lt_of_obj h.bdb) (fun hf => (hdm _ hf).2.2.2.1 rfl)).trans h.bdb
  · exact (hcr.block _ (lt_of_obj h.bre) (fun hf => (hdm _ hf).2.2.2.2.1 rfl)).trans h.bre
  · rw [hadl]
    exact (heap_setCell_same (hr8.trans h.res) _).trans rfl
  · rw [hadl]
    have e : flat3 (addK l k) = flat3 l ++ [.int .i64 k.1, .int .i64 k.2.1, .int .i64 k.2.2] := by rw [hadd, flat3_append]
    rw [e]
    refine ownsRow_kept hown fun g hg _ => heap_setCell_ne _ _ _ _ ?_
    have hg8 : g ∈ oblk a8 := by
      cases a8 <;> simp [Value.ownBlock, oblk] at hg ⊢
      exact hg.symm
    rcases hat g hg8 with h1 | h1
    · exact (h.arow g h1).2.2.2.2.2.1
    · have := lt_of_obj h.res
      show g ≠ rb
      omega
  · rcases mem_addK_iff hx with hx | rfl
    · exact h.kin x hx
    · exact hk
  · rcases hat g hg with h1 | h1
    · exact h.arow g h1
    · have b1 := lt_of_obj h.bdb
      have b2 := lt_of_obj h.bre
      have b3 := lt_of_obj h.res
      exact ⟨fun hm => by have := h.env.mem.lt g hm; omega, fun hm => by have := h.env.mem.bound g hm; omega, fun hr => by have := (h.env.ro g hr).1; omega, by omega, by omega, by omega, by omega⟩
theorem GFree.push {a8 : Option Addr} (hF : GFree b ws rb d da F) (hl : ∀ g, F g → g < w.heap.size) (hat : ∀ g ∈ oblk a8, g ∈ oblk da ∨ w.heap.size ≤ g) : GFree b ws rb d a8 F := fun g hg => by
  obtain ⟨h1, h2, h3, h4, h5⟩ := hF g hg
  exact ⟨h1, h2, h3, h4, fun hm => (hat g hm).elim h5 fun hs => by have := hl g hg; omega⟩
end
end Go.Proofs.Ytdeodcomlakpaaa
