/- run, with whatever get. -/
import Derived.Test.YtggiddhhbilcjaaQryA
import Derived.Great.Walk
import Derived.Deep.RegionLaw
namespace Go.Proofs.Ytggiddhhbilcjaa
open Go.RowKit
set_option linter.unusedVariables false
theorem Try.infoIntQ : (Try.prog.info? 3).map (fun i => (i.zero, i.size, i.bytes)) = some (some (.int .i64 0), 1, 8) := by kernel_rfl
/-- what a call of get brings: s the state before, F the blocks that it must leave alone -/
def GetPost {ε σ : Type} (I : (Nat → Prop) → σ → World → Prop) (RO : Nat → Prop) (G : σ → QK → Except ε Int × σ) (ch : ε → List PanicEntry) (F : Nat → Prop) (s : σ) (k : QK) (w : World) (e : Ending) (w' : World) : Prop :=
  (match (G s k).1 with
    | .ok n => e = .returned (.int .i64 n)
    | .error x => e = .panicked (ch x)) ∧ I F (G s k).2 w' ∧ ChgP (fun b => ¬ F b ∧ ¬ RO b) w w'
/-- a get: how the function value is called, what its state is, what it answers -/
structure GetFam {ε σ : Type} (fn : Nat) (first caps : Array Value) (I : (Nat → Prop) → σ → World → Prop) (RO : Nat → Prop) (G : σ → QK → Except ε Int × σ) (ch : ε → List PanicEntry) (inp idx : Int) : Prop where
  enter : ∀ args w, (callFunc fn args).run Try.prog w = .ok (.enter fn args) w
  keep : ∀ {F s w w'}, I F s w → ChgP (fun k => F k ∧ ¬ RO k) w w' → I (fun k => F k ∨ (w.heap.size ≤ k ∧ k < w'.heap.size)) s w'
  anti : ∀ {F F' s w}, I F s w → (∀ k, F' k → F k) → I F' s w
  small : ∀ s k n, KeyIn inp idx k → (G s k).1 = .ok n → Go.Proofs.Ytggiddhhbilcjaa.small n
  call : ∀ F s w k, KeyIn inp idx k → I F s w → Calls Try.prog fn (first.push (i3v k) ++ caps) w (GetPost I RO G ch F s k w)
def RunPost {ε σ : Type} (I : (Nat → Prop) → σ → World → Prop) (RO : Nat → Prop) (G : σ → QK → Except ε Int × σ) (ch : ε → List PanicEntry) (F : Nat → Prop) (idx : Int) (ops : List QO) (s : σ) (w : World) (e : Ending) (w' : World) : Prop :=
  (match (runR G idx ops s).1 with
    | .ok n => e = .returned (.int .i64 n) ∧ Go.Proofs.Ytggiddhhbilcjaa.small n
    | .error x => e = .panicked (ch x)) ∧ I F (runR G idx ops s).2 w' ∧ ChgP (fun b => ¬ F b ∧ ¬ RO b) w w'
theorem GetPost.ok {ε σ : Type} {I : (Nat → Prop) → σ → World → Prop} {RO : Nat → Prop} {G : σ → QK → Except ε Int × σ} {ch : ε → List PanicEntry} {F : Nat → Prop} {s : σ} {k : QK} {w w' : World} {e : Ending} (h : GetPost I RO G ch F s k w e w') {n : Int} (hg : (G s k).1 = .ok n) :
    e = .returned (.int .i64 n) ∧ I F (G s k).2 w' ∧ ChgP (fun b => ¬ F b ∧ ¬ RO b) w w' := by
  obtain ⟨h1, h2, h3⟩ := h
  rw [hg] at h1
  exact ⟨h1, h2, h3⟩
theorem GetPost.err {ε σ : Type} {I : (Nat → Prop) → σ → World → Prop} {RO : Nat → Prop} {G : σ → QK → Except ε Int × σ} {ch : ε → List PanicEntry} {F : Nat → Prop} {s : σ} {k : QK} {w w' : World} {e : Ending} (h : GetPost I RO G ch F s k w e w') {x : ε} (hg : (G s k).1 = .error x) :
    e = .panicked (ch x) ∧ I F (G s k).2 w' ∧ ChgP (fun b => ¬ F b ∧ ¬ RO b) w w' := by
  obtain ⟨h1, h2, h3⟩ := h
  rw [hg] at h1
  exact ⟨h1, h2, h3⟩
theorem drop_getD {α : Type} (l : List α) (k : Nat) (hk : k < l.length) (d : α) : l.drop k = l.getD k d :: l.drop (k + 1) := by
  rw [List.drop_eq_getElem_cons hk]
  simp [hk]
/-- run's memory: its stack, and get's state beside it -/
structure RunMem {ε σ : Type} (I : (Nat → Prop) → σ → World → Prop) (RO : Nat → Prop) (F : Nat → Prop) (w : World) (xs : List Int) (s : σ) (F' : Nat → Prop) (v : Value) (wr : World) : Prop where
  cell : wr.cell? ⟨w.heap.size, 0, none⟩ = some v
  free : wr.frozen? ⟨w.heap.size, 0, none⟩ = false
  row : wr.ownsRow (w.heap.size + 1) 3 1 v xs.length (xs.map (Value.int .i64))
  inv : I F' s wr
  sub : ∀ g, F g → F' g
  hbt : F' w.heap.size
  hrow : ∀ g, v.ownBlock = some g → F' g
  chg : ChgP (fun b => ¬ F b ∧ ¬ RO b) w wr
  ro : ∀ k, RO k → k < w.heap.size
/-- run's plain state before the k-th instruction -/
structure RunPl {ε σ : Type} (G : σ → QK → Except ε Int × σ) (idx : Int) (ops : List QO) (s0 : σ) (k : Nat) (xs : List Int) (s : σ) : Prop where
  sm : ∀ x ∈ xs, small x
  len : xs.length ≤ k
  dep : Go.Proofs.Ytggiddhhbilcjaa.dep (ops.drop k) xs.length = some 1
  eq : runL G idx ops [] s0 = runL G idx (ops.drop k) xs s
/-- the same, the instruction taken off -/
structure RunP1 {ε σ : Type} (G : σ → QK → Except ε Int × σ) (idx : Int) (ops : List QO) (s0 : σ) (k : Nat) (o : QO) (xs : List Int) (s : σ) : Prop where
  sm : ∀ x ∈ xs, small x
  len : xs.length ≤ k
  eq : runL G idx ops [] s0 = runL G idx (o :: ops.drop (k + 1)) xs s
section
variable {ε σ : Type} {I : (Nat → Prop) → σ → World → Prop} {RO : Nat → Prop} {G : σ → QK → Except ε Int × σ} {fn : Nat} {first caps : Array Value} {ch : ε → List PanicEntry} {inp : Int} {F F' : Nat → Prop} {idx : Int} {ops : List QO} {s0 s s2 : σ} {w wr w' w3 w4 : World} {k : Nat} {xs ys zs : List Int} {o : QO} {v v4 u : Value}
theorem RunP1.next (h : RunP1 G idx ops s0 k o xs s) (hstep : step1 G idx o xs s = (.ok zs, s2)) (hd : dep (ops.drop (k + 1)) zs.length = some 1) (hlen : zs.length ≤ k + 1) (hsm : ∀ x ∈ zs, small x) : RunPl G idx ops s0 (k + 1) zs s2 :=
  ⟨hsm, hlen, hd, by
    rw [h.eq]
    show (match step1 G idx o xs s with
      | (.ok ys, s') => runL G idx (ops.drop (k + 1)) ys s'
      | (.error e, s') => (.error e, s')) = _
    rw [hstep]⟩
theorem RunMem.same (h : RunMem (ε := ε) I RO F w xs s F' v wr) (fam : GetFam fn first caps I RO G ch inp idx) (w' : World) (hh : w'.heap = wr.heap) (h1 : w'.os = wr.os) (h2 : w'.tape = wr.tape) (h3 : w'.output = wr.output) : RunMem (ε := ε) I RO F w xs s F' v w' := by
  have hc : ChgP (fun _ => False) wr w' := ⟨h1, h2, h3, by rw [hh]; exact Nat.le_refl _, fun k _ _ => by rw [hh]⟩
  have hl := lt_of_cell h.cell
  refine ⟨(hc.cell hl (fun h => h)).trans h.cell, (hc.frozen hl (fun h => h)).trans h.free, ownsRow_kept h.row (fun g _ _ => by rw [hh]), fam.anti (fam.keep h.inv (hc.mono (fun _ h => h.elim))) (fun k hk => Or.inl hk), h.sub, h.hbt, h.hrow, h.chg.comp hc (fun _ h => h.elim), h.ro⟩
theorem RunMem.new (h : RunMem (ε := ε) I RO F w xs s F' v wr) (fam : GetFam fn first caps I RO G ch inp idx) (hc : Chg [] wr w') : RunMem (ε := ε) I RO F w xs s (fun b => F' b ∨ (wr.heap.size ≤ b ∧ b < w'.heap.size)) v w' := by
  have hl := lt_of_cell h.cell
  exact ⟨(hc.cell hl (by simp)).trans h.cell, (hc.frozen hl (by simp)).trans h.free, ownsRow_kept h.row (fun g hg hl => hc.block g hl (by simp)), fam.keep h.inv hc.p, fun g hg => Or.inl (h.sub g hg), Or.inl h.hbt, fun g hg => Or.inl (h.hrow g hg), h.chg.new hc, h.ro⟩
theorem RunMem.pop' {a : Option Addr} {n0 : Int} {cap : Nat} (h : RunMem (ε := ε) I RO F w (ys ++ [n0]) s F' (.slice a (ys ++ [n0]).length cap) wr) (fam : GetFam fn first caps I RO G ch inp idx) : RunMem (ε := ε) I RO F w ys s F' (.slice a ys.length cap) (wr.setCell ⟨w.heap.size, 0, none⟩ (.slice a ys.length cap)) := by
  have hrow := h.row
  rw [List.map_append, List.length_append] at hrow
  obtain ⟨hr, g, rfl, _⟩ := ownsRow_pop (x := .int .i64 n0) hrow
  have hc : ChgP (fun k => F' k ∧ ¬ RO k) wr (wr.setCell ⟨w.heap.size, 0, none⟩ (.slice (some ⟨g, 0, none⟩) ys.length cap)) := (ChgP.refl _ _).setCell (Or.inl ⟨h.hbt, fun hr => Nat.lt_irrefl _ (h.ro _ hr)⟩) _
  refine ⟨World.cell?_setCell_same' _ _ _ (by rw [h.cell]; rfl), by simpa using h.free, ownsRow_kept hr fun g' hg' hl => heap_setCell_ne _ _ _ _ (by
      have := (ownsRow_ge hr hg').1
      show g' ≠ w.heap.size
      omega), fam.anti (fam.keep h.inv hc) (fun k hk => Or.inl hk), h.sub, h.hbt, fun g' hg' => h.hrow g' hg', h.chg.setCell (Or.inr (Nat.le_refl _)) _, h.ro⟩
theorem RunMem.push {F2 : Nat → Prop} (h : RunMem (ε := ε) I RO F w xs s F2 v wr) (fam : GetFam fn first caps I RO G ch inp idx) (hi : I F2 s2 w3) (h3 : ChgP (fun b => ¬ F2 b ∧ ¬ RO b) wr w3)
    (hw4 : ChgP (fun b => v.ownBlock = some b) w3 w4) (hrow : w4.ownsRow (w.heap.size + 1) 3 1 v4 zs.length (zs.map (Value.int .i64))) (hat : v.ownBlock = v4.ownBlock ∨ v4.ownBlock = some (w3.heap.size + 1))
    (hc : w4.cell? ⟨w.heap.size, 0, none⟩ = some u) (hf : w4.frozen? ⟨w.heap.size, 0, none⟩ = false) :
    RunMem (ε := ε) I RO F w zs s2 (fun b => F2 b ∨ (w3.heap.size ≤ b ∧ b < w4.heap.size)) v4 (w4.setCell ⟨w.heap.size, 0, none⟩ v4) := by
  have h4 : ChgP (fun k => F2 k ∧ ¬ RO k) w3 w4 := hw4.mono fun x hx => ⟨h.hrow x hx, fun hr => by have := h.ro x hr; have := (ownsRow_ge h.row hx).1; omega⟩
  have h5 : ChgP (fun k => F2 k ∧ ¬ RO k) w3 (w4.setCell ⟨w.heap.size, 0, none⟩ v4) := h4.setCell (Or.inl ⟨h.hbt, fun hr => Nat.lt_irrefl _ (h.ro _ hr)⟩) _
  have hz : (w4.setCell ⟨w.heap.size, 0, none⟩ v4).heap.size = w4.heap.size := by simp [World.setCell]
  have hk := fam.keep hi h5
  rw [hz] at hk
  refine ⟨World.cell?_setCell_same' _ _ _ (by rw [hc]; rfl), by simpa using hf, ?_, hk, fun g hg => Or.inl (h.sub g hg), Or.inl h.hbt, fun g hg => ?_, ?_, h.ro⟩
  · exact ownsRow_kept hrow fun g hg hl => heap_setCell_ne _ _ _ _ (by
      have := (ownsRow_ge hrow hg).1
      show g ≠ w.heap.size
      omega)
  · rcases hat with e | e
    · rw [← e] at hg
      exact Or.inl (h.hrow g hg)
    · rw [e] at hg
      cases hg
      exact Or.inr ⟨by omega, (ownsRow_ge hrow e).2⟩
  · exact ((h.chg.comp h3 (fun b hb => Or.inl ⟨fun hF => hb.1 (h.sub b hF), hb.2⟩)).comp hw4 fun x hx => Or.inr (by have := (ownsRow_ge h.row hx).1; omega)).setCell (Or.inr (Nat.le_refl _)) _
end
theorem hstep45 {ε σ : Type} {G : σ → QK → Except ε Int × σ} {idx : Int} {op a b : Int} {ys : List Int} {n0 : Int} {s : σ} {k : QK} {n : Int} (h : op = 4 ∨ op = 5) (hk : opKey (op, a, b) idx n0 = some k) (hg : (G s k).1 = .ok n) :
    step1 G idx (op, a, b) (ys ++ [n0]) s = (.ok (ys ++ [n]), (G s k).2) := by
  unfold step1
  have e1 : (ys ++ [n0]).getLastD 0 = n0 := by simp
  have e2 : (ys ++ [n0]).dropLast = ys := by simp
  simp only [if_pos h, e1, e2, hk, hg, Except.map]
theorem hstep45e {ε σ : Type} {G : σ → QK → Except ε Int × σ} {idx : Int} {op a b : Int} {ys : List Int} {n0 : Int} {s : σ} {k : QK} {x : ε} (h : op = 4 ∨ op = 5) (hk : opKey (op, a, b) idx n0 = some k) (hg : (G s k).1 = .error x) :
    step1 G idx (op, a, b) (ys ++ [n0]) s = (.error x, (G s k).2) := by
  unfold step1
  have e1 : (ys ++ [n0]).getLastD 0 = n0 := by simp
  simp only [if_pos h, e1, hk, hg, Except.map]
theorem hstep1 {ε σ : Type} {G : σ → QK → Except ε Int × σ} {idx : Int} {a b : Int} {xs : List Int} {s : σ} : step1 G idx (1, a, b) xs s = (.ok (xs ++ [red a]), s) := rfl
theorem hpops6 {op a b : Int} (h : 6 ≤ op) : pops (op, a, b) = 2 := by
  unfold pops
  rw [if_neg (by simp only; omega), if_neg (by simp only; omega)]
theorem hkey6 {op a b idx n : Int} (h : 6 ≤ op) : opKey (op, a, b) idx n = none := by
  unfold opKey
  rw [if_neg (by simp only; omega), if_neg (by simp only; omega), if_neg (by simp only; omega), if_neg (by simp only; omega)]
theorem hstep6 {ε σ : Type} {G : σ → QK → Except ε Int × σ} {idx : Int} {op a b : Int} {ys : List Int} {x y : Int} {s : σ} (h : 6 ≤ op) : step1 G idx (op, a, b) ((ys ++ [x]) ++ [y]) s = (.ok (ys ++ [binop op x y]), s) := by
  unfold step1
  have h45 : ¬ (op = 4 ∨ op = 5) := by omega
  have h1 : ¬ op = 1 := by omega
  simp only [if_neg h45, hkey6 h, if_neg h1]
  simp
theorem hpops23 {op a b : Int} (h : op = 2 ∨ op = 3) : pops (op, a, b) = 0 := by
  rcases h with rfl | rfl <;> rfl
theorem hstep23 {ε σ : Type} {G : σ → QK → Except ε Int × σ} {idx : Int} {op a b : Int} {xs : List Int} {s : σ} {k : QK} {n : Int} (h : op = 2 ∨ op = 3) (hk : opKey (op, a, b) idx 0 = some k) (hg : (G s k).1 = .ok n) :
    step1 G idx (op, a, b) xs s = (.ok (xs ++ [n]), (G s k).2) := by
  have h45 : ¬ (op = 4 ∨ op = 5) := by omega
  unfold step1
  simp only [if_neg h45, hk, hg, Except.map]
theorem hstep23e {ε σ : Type} {G : σ → QK → Except ε Int × σ} {idx : Int} {op a b : Int} {xs : List Int} {s : σ} {k : QK} {x : ε} (h : op = 2 ∨ op = 3) (hk : opKey (op, a, b) idx 0 = some k) (hg : (G s k).1 = .error x) :
    step1 G idx (op, a, b) xs s = (.error x, (G s k).2) := by
  have h45 : ¬ (op = 4 ∨ op = 5) := by omega
  unfold step1
  simp only [if_neg h45, hk, hg, Except.map]
theorem runR_err {ε σ : Type} {G : σ → QK → Except ε Int × σ} {idx : Int} {ops rest : List QO} {o : QO} {xs : List Int} {s0 s s2 : σ} {x : ε} (heq : runL G idx ops [] s0 = runL G idx (o :: rest) xs s) (hstep : step1 G idx o xs s = (.error x, s2)) :
    runR G idx ops s0 = (.error x, s2) := by
  unfold runR
  rw [heq]
  have : runL G idx (o :: rest) xs s = (.error x, s2) := by
    show (match step1 G idx o xs s with
      | (.ok ys, s') => runL G idx rest ys s'
      | (.error e, s') => (.error e, s')) = _
    rw [hstep]
  rw [this]
set_option maxRecDepth 100000 in
set_option maxHeartbeats 40000000 in
theorem run_any {ε σ : Type} (fn : Nat) (first caps : Array Value) (I : (Nat → Prop) → σ → World → Prop) (RO : Nat → Prop) (G : σ → QK → Except ε Int × σ) (ch : ε → List PanicEntry) (inp idx : Int) (fam : GetFam fn first caps I RO G ch inp idx)
    (ops : List QO) (hq : QueryOk inp idx ops) (p F : Nat → Prop) (s : σ) (w : World) (v : Value) (hI : I F s w) (hops : I3s p w v ops) (hp : ∀ g, p g → F g ∨ RO g) (hRO : ∀ k, RO k → k < w.heap.size) :
    Calls Try.prog 51 #[v, .int .i64 idx, .func (.func fn) first caps] w (RunPost I RO G ch F idx ops s w) := by
  obtain ⟨av, capv, rfl, hlm, hlc⟩ := hops.shape
  have h20 := hq.size
  have Hq := Lib.hid hq
  have Hops := Lib.hid hops
  have Fam := Lib.hid fam
  have henter := fam.enter
  obtain ⟨i0, hi0, hz0, hz1, hz2⟩ := info_parts Try.infoIntQ
  have Hi0 := Lib.hid hi0
  have Hz0 := Lib.hid hz0
  have Hz1 := Lib.hid hz1
  have Hz2 := Lib.hid hz2
  clear hi0 hz0 hz1 hz2
  have hstart : RunMem (ε := ε) I RO F w [] s (fun k => F k ∨ (w.heap.size ≤ k ∧ k < w.heap.size + 1)) (.slice none 0 0) (w.alloc (.cells #[.slice none 0 0] 37)) := by
    have hk := fam.keep hI (((ChgP.refl (fun k => F k ∧ ¬ RO k) w)).alloc (.cells #[.slice none 0 0] 37))
    simp only [World.alloc, Array.size_push] at hk
    exact ⟨cell_of_heap (heap_at _ _ _ rfl) rfl, frozen_of_heap (heap_at _ _ _ rfl), World.ownsRow_nil _ _ _ _, hk, fun g h => Or.inl h, Or.inr ⟨Nat.le_refl _, Nat.lt_succ_self _⟩, by simp [Value.ownBlock], (ChgP.refl _ _).alloc _, hRO⟩
  have hp0 : RunPl G idx ops s 0 [] s := ⟨by simp, by simp, by simpa using hq.dep, by simp⟩
  have Hstart := Lib.hid (And.intro hstart hp0)
  clear hq hops fam hI hstart hp0
  go_enter Try.func51, Try.ntmps51
  go_wp2_with fail
  go_loopw [19] (fun jj wr => ∃ (k : Nat) (xs : List Int) (s' : σ) (F' : Nat → Prop) (v' : Value), k ≤ ops.length ∧ jj = .int .i64 (k : Nat) ∧ RunMem (ε := ε) I RO F w xs s' F' v' wr ∧ RunPl G idx ops s k xs s') (fun jj _ => ops.length - (intOf jj).toNat)
  case atStart => exact ⟨0, [], s, _, _, by omega, rfl, Hstart.out.1, Hstart.out.2⟩
  case round =>
    obtain ⟨k, xs, s', F', v', hk, rfl, hr, hpl⟩ := hrel
    have Hr := Lib.hid hr
    have Hpl := Lib.hid hpl
    clear hr hpl
    by_cases hlt : k < ops.length
    · have hdr := drop_getD ops k hlt (0, 0, 0)
      have hrd := I3s.kept Hops.out Hr.out.chg (fun g hg hn => (hp g hg).elim hn.1 hn.2)
      obtain ⟨g, off, rfl, hpg, q0, q1, q2⟩ := SlR.at hrd k hlt (0, 0, 0)
      have hok := Hq.out.each _ (getD_memb hlt (0, 0, 0))
      have hdep := Hpl.out.dep
      have heq := Hpl.out.eq
      rw [hdr] at hdep heq
      clear hdr hrd
      obtain ⟨o, ho⟩ : ∃ o, ops.getD k (0, 0, 0) = o := ⟨_, rfl⟩
      rw [ho] at q0 q1 q2 hok hdep heq
      clear ho
      unfold Go.Proofs.Ytggiddhhbilcjaa.dep at hdep
      have hpop : ¬ xs.length < pops o := fun h => by rw [if_pos h] at hdep; cases hdep
      rw [if_neg hpop] at hdep
      obtain ⟨op, oa, ob⟩ := o
      simp only at q0 q1 q2
      have Hok := Lib.hid hok
      have Hdep := Lib.hid hdep
      have Hp := Lib.hid (⟨Hpl.out.sm, Hpl.out.len, heq⟩ : RunP1 G idx ops s k (op, oa, ob) xs s')
      have Hpop := Lib.hid hpop
      clear hok hdep heq hpop
      have lg := lt_of_cell q0
      have c0 := Hr.out.cell
      have f0 := Hr.out.free
      have l0 := lt_of_cell c0
      obtain ⟨va, vcap, rfl⟩ := ownsRow_shape Hr.out.row
      have hk1 : (k : Int) < ops.length := by omega
      by_cases e23 : op = 2 ∨ op = 3
      · have b4 : (op == 4) = false := beq_eq_false_iff_ne.2 (by omega)
        have b5 : (op == 5) = false := beq_eq_false_iff_ne.2 (by omega)
        obtain ⟨key, hkey⟩ : ∃ key, opKey (op, oa, ob) idx 0 = some key := by
          rcases e23 with rfl | rfl <;> exact ⟨_, rfl⟩
        have Hkey := Lib.hid hkey
        have Hin := Lib.hid (opKey_in Hok.out (Int.le_refl 0) hkey)
        have H4 := Lib.hid (fun (e : (op, oa, ob).1 = 4) => (show 0 < idx by simp only at e; omega))
        have E23 := Lib.hid e23
        clear hkey e23
        go_wp2_with fail
        obtain ⟨wq, hwq⟩ : ∃ x, x = (wr.alloc (.cells #[.int .i64 op, .int .i64 oa, .int .i64 ob] 119)) := ⟨_, rfl⟩
        rw [← hwq]
        have hmq := Hr.out.new Fam.out ((Chg.refl [] wr).alloc (.cells #[.int .i64 op, .int .i64 oa, .int .i64 ob] 119))
        rw [← hwq] at hmq
        clear hwq
        obtain ⟨Fq, hFq⟩ : ∃ Fq : Nat → Prop, RunMem I RO F w xs s' Fq (.slice va xs.length vcap) wq := ⟨_, hmq⟩
        have Hm := Lib.hid hFq
        clear hmq hFq
        have hxl : xs.length ≤ 20 := by have := Hp.out.len; omega
        refine (operandKey_any (op, oa, ob) idx 0 _ (by omega) H4.out).mono ?_
        rintro e w1 ⟨rfl, c1⟩
        rw [Hkey.out]
        obtain ⟨k1, k2, k3⟩ := key
        unfold i3v
        simp only [Option.getD_some, Option.isSome_some]
        have c2 : Chg [] wq (w1.alloc (.cells #[.int .i64 k1, .int .i64 k2, .int .i64 k3] 43)) := c1.alloc _
        have hm2 := Hm.out.new Fam.out c2
        have hszw1 : wq.heap.size ≤ w1.heap.size := c1.size
        have s1 : (w1.alloc (.cells #[.int .i64 k1, .int .i64 k2, .int .i64 k3] 43)).cell? ⟨w1.heap.size, 0, none⟩ = some (.int .i64 k1) := cell_of_heap (heap_at _ _ _ rfl) rfl
        have s2 : (w1.alloc (.cells #[.int .i64 k1, .int .i64 k2, .int .i64 k3] 43)).cell? ⟨w1.heap.size, 1, none⟩ = some (.int .i64 k2) := cell_of_heap (heap_at _ _ _ rfl) rfl
        have s3 : (w1.alloc (.cells #[.int .i64 k1, .int .i64 k2, .int .i64 k3] 43)).cell? ⟨w1.heap.size, 2, none⟩ = some (.int .i64 k3) := cell_of_heap (heap_at _ _ _ rfl) rfl
        clear c1
        go_wp2_with fail
        obtain ⟨wk, hwk⟩ : ∃ x, x = w1.alloc (.cells #[.int .i64 k1, .int .i64 k2, .int .i64 k3] 43) := ⟨_, rfl⟩
        rw [← hwk]
        rw [← hwk] at hm2 s1 s2 s3
        have hkb : w1.heap.size < wk.heap.size := by rw [hwk]; simp
        have hFk : (fun b => Fq b ∨ (wq.heap.size ≤ b ∧ b < wk.heap.size)) w1.heap.size := Or.inr ⟨hszw1, hkb⟩
        clear hwk c2
        obtain ⟨F2, hF2⟩ : ∃ F2 : Nat → Prop, F2 = (fun b => Fq b ∨ (wq.heap.size ≤ b ∧ b < wk.heap.size)) := ⟨_, rfl⟩
        rw [← hF2] at hm2 hFk
        clear hF2
        have hm3 := hm2.same Fam.out (wk.drew) rfl rfl rfl rfl
        have s0 := hm2.cell
        have sf := hm2.free
        have lk := lt_of_cell s0
        have Hm3 := Lib.hid hm3
        have Hm2 := Lib.hid hm2
        have hbk : w.heap.size < wk.heap.size := lk
        have Hob := Lib.hid (fun g' (hg' : (Value.slice va xs.length vcap).ownBlock = some g') => (ownsRow_ge hm2.row hg'))
        clear hm3 hm2
        cases hg : (G s' (k1, k2, k3)).1 with
        | ok n =>
          have Hg := Lib.hid hg
          clear hg
          go_region_law (first
            | (rw [if_pos (by simp [Region.wanted])]; go_simp; refine (Fam.out.call F2 s' _ (k1, k2, k3) Hin.out Hm3.out.inv).mono ?_; rintro e w3 hpost; obtain ⟨rfl, hi3, hc3⟩ := hpost.ok Hg.out; have kb3 : w3.cell? ⟨w.heap.size, 0, none⟩ = some (.slice va xs.length vcap) := (hc3.cell (p := ⟨w.heap.size, 0, none⟩) hbk (fun h => h.1 Hm2.out.hbt)).trans s0; have kf3 : w3.frozen? ⟨w.heap.size, 0, none⟩ = false := (hc3.frozen (p := ⟨w.heap.size, 0, none⟩) hbk (fun h => h.1 Hm2.out.hbt)).trans sf; have hz3 : w.heap.size < w3.heap.size := lt_of_cell kb3; have hz4 : wk.heap.size ≤ w3.heap.size := hc3.size; have q1 : w3.cell? ⟨w1.heap.size, 0, none⟩ = some (.int .i64 k1) := (hc3.cell (p := ⟨w1.heap.size, 0, none⟩) hkb (fun h => h.1 hFk)).trans s1; have q2 : w3.cell? ⟨w1.heap.size, 1, none⟩ = some (.int .i64 k2) := (hc3.cell (p := ⟨w1.heap.size, 1, none⟩) hkb (fun h => h.1 hFk)).trans s2; have q3 : w3.cell? ⟨w1.heap.size, 2, none⟩ = some (.int .i64 k3) := (hc3.cell (p := ⟨w1.heap.size, 2, none⟩) hkb (fun h => h.1 hFk)).trans s3; have Hrow3 := Lib.hid (ownsRow_kept (w' := w3) Hm3.out.row (fun g' hg' hl' => hc3.block g' hl' (fun h => h.1 (Hm2.out.hrow g' hg')))); have Hi3 := Lib.hid hi3; have Hc3 := Lib.hid hc3; clear hi3 hc3 hpost)
            | (refine step_append_lies _ (by rfl) _ _ _ (by rfl) (w.heap.size + 1) 3 i0 (.int .i64 0) 1 8 Try.underlying37 Hi0.out Hz0.out Hz1.out Hz2.out rfl (by omega) (.slice va xs.length vcap) xs.length (xs.map (Value.int .i64)) (by rfl) (Hrow3.out.alloc _) ⟨w3.heap.size, 0, none⟩ 1 1 [.int .i64 (n)] (by rfl) (by rfl) (cell_one_new _ _ _) (by simp [Value.oneCell']) (by omega) (by unfold maxLen; omega) (by omega) (by simp; omega) (w3.heap.size + 1) (by simp) ?_; intro gg cap4 w4 hown4 hgrow4 hat4 hlt4; have hc4 := ((ChgP.refl (fun b => (Value.slice va xs.length vcap).ownBlock = some b) (w3)).alloc (.cells #[.int .i64 (n)] 3)).grown hgrow4 (fun k h => Or.inl h); have kc4 : w4.cell? ⟨w.heap.size, 0, none⟩ = some (.slice va xs.length vcap) := (hc4.cell (p := ⟨w.heap.size, 0, none⟩) hz3 (fun h => absurd (Hob.out _ h).1 (Nat.not_succ_le_self _))).trans kb3; have kf4 : w4.frozen? ⟨w.heap.size, 0, none⟩ = false := (hc4.frozen (p := ⟨w.heap.size, 0, none⟩) hz3 (fun h => absurd (Hob.out _ h).1 (Nat.not_succ_le_self _))).trans kf3; have Hown4 := Lib.hid hown4; have Hc4 := Lib.hid hc4; have Hat4 := Lib.hid hat4; clear hown4 hgrow4 hat4 hc4))
          all_goals
            have hmem := Hm3.out.push (v4 := .slice (some ⟨gg, 0, none⟩) (xs.length + 1) cap4) (zs := xs ++ [n]) Fam.out Hi3.out Hc3.out Hc4.out (by rw [List.map_append, List.length_append]; exact Hown4.out) (Hat4.out.elim Or.inl (fun h => Or.inr (congrArg some h))) kc4 kf4
            have hpl := Hp.out.next (hstep23 E23.out Hkey.out Hg.out) (by have := Hdep.out; rw [hpops23 E23.out] at this; simpa using this) (by rw [List.length_append]; simp only [List.length_singleton]; have := Hp.out.len; omega) (fun x hx => by
              rcases List.mem_append.1 hx with hx | hx
              · exact Hp.out.sm x hx
              · rw [List.mem_singleton.1 hx]; exact Fam.out.small _ _ _ Hin.out Hg.out)
            have Hnext := Lib.hid (And.intro hmem hpl)
            clear hmem hpl
            go_wp2
            exact ⟨⟨k + 1, xs ++ [n], _, _, _, by omega, by go_num, Hnext.out.1, Hnext.out.2⟩, by simp [intOf]; omega⟩
        | error x =>
          have Hg := Lib.hid hg
          clear hg
          have hend : ∀ (a : Act), a.defers = [] → ∀ (w3 : World), I F2 (G s' (k1, k2, k3)).2 w3 → ChgP (fun b => ¬ F2 b ∧ ¬ RO b) wk.drew w3 → bodyPost Try.prog Try.f51 (RunPost I RO G ch F idx ops s w) (.panic (ch x)) a w3 := by
            intro a ha w3 hi3 hc3
            have hrr := runR_err Hp.out.eq (hstep23e E23.out Hkey.out Hg.out)
            refine ⟨ha, ?_, ?_, ?_⟩
            · rw [hrr]
            · rw [hrr]
              exact Fam.out.anti hi3 Hm3.out.sub
            · exact Hm3.out.chg.comp hc3 (fun b hb => Or.inl ⟨fun hF => hb.1 (Hm3.out.sub b hF), hb.2⟩)
          refine wp_region_any (by kernel_rfl) ?_
          change wpAny _ _ _ _ _ _ _ (World.drew _)
          refine wpAny_take (i := 1) (v := .func (.func fn) first caps) rfl (by kernel_rfl) (by kernel_rfl) (by kernel_rfl) (fun _ _ _ h => h) (Or.inl ⟨by rfl, ?_⟩) ?_
          · intro w'; go_simp
          · refine wpAny_ready (rs := [0, 2]) (by kernel_rfl) (by simp) ?_
            refine AllReady.cons rfl (fun K hK => ?_) (AllReady.cons rfl (fun K hK => ?_) AllReady.nil)
            · go_simp
              refine hK _ _ ?_
              clear hK K
              refine wpAny_ready (rs := [2]) (by kernel_rfl) (by simp) ?_
              refine AllReady.cons rfl (fun K hK => ?_) AllReady.nil
              go_simp
              refine hK _ _ ?_
              clear hK K
              refine wpAny_ready (rs := [3]) (by kernel_rfl) (by simp) ?_
              refine AllReady.cons rfl (fun K hK => ?_) AllReady.nil
              go_simp
              refine (Fam.out.call F2 s' _ (k1, k2, k3) Hin.out Hm3.out.inv).mono ?_
              rintro e w3 hpost
              obtain ⟨rfl, hi3, hc3⟩ := hpost.err Hg.out
              exact hend _ rfl _ hi3 hc3
            · go_simp
              refine hK _ _ ?_
              clear hK K
              refine wpAny_ready (rs := [0, 3]) (by kernel_rfl) (by simp) ?_
              refine AllReady.cons rfl (fun K hK => ?_) (AllReady.cons rfl (fun K hK => ?_) AllReady.nil)
              · go_simp
                refine hK _ _ ?_
                clear hK K
                refine wpAny_ready (rs := [3]) (by kernel_rfl) (by simp) ?_
                refine AllReady.cons rfl (fun K hK => ?_) AllReady.nil
                go_simp
                refine (Fam.out.call F2 s' _ (k1, k2, k3) Hin.out Hm3.out.inv).mono ?_
                rintro e w3 hpost
                obtain ⟨rfl, hi3, hc3⟩ := hpost.err Hg.out
                exact hend _ rfl _ hi3 hc3
              · go_simp
                refine (Fam.out.call F2 s' _ (k1, k2, k3) Hin.out Hm3.out.inv).mono ?_
                rintro e w3 hpost
                obtain ⟨rfl, hi3, hc3⟩ := hpost.err Hg.out
                exact hend _ rfl _ hi3 hc3
      · skip
        by_cases e4 : op = 4
        · subst e4
          obtain ⟨ys, n0, rfl⟩ : ∃ ys n0, xs = ys ++ [n0] := by
            have := Hpop.out
            rcases List.eq_nil_or_concat xs with h | ⟨l, a, h⟩
            · subst h; simp [pops] at this
            · exact ⟨l, a, by simpa using h⟩
          have hn0 : 0 ≤ n0 := (Hp.out.sm n0 (by simp)).1
          have hys : (ys ++ [n0]).length = ys.length + 1 := by simp
          rw [hys] at c0
          have hrow := Hr.out.row
          rw [hys, List.map_append] at hrow
          obtain ⟨key, hkey⟩ : ∃ key, opKey (4, oa, ob) idx n0 = some key := ⟨_, rfl⟩
          have Hkey := Lib.hid hkey
          have Hin := Lib.hid (opKey_in Hok.out hn0 hkey)
          have hr2 := Hr.out.new Fam.out ((Chg.refl [] wr).alloc (.cells #[.int .i64 4, .int .i64 oa, .int .i64 ob] 119))
          have Hr2 := Lib.hid hr2
          have Hrow := Lib.hid hrow
          clear hkey hys hrow hr2
          go_wp2_with fail
          refine (pop_any _ w.heap.size 0 va ys.length vcap ys n0 (w.heap.size + 1) (by have := Hr2.out.cell; simpa using this) Hr2.out.free (Hrow.out.alloc _)).mono ?_
          rintro e wq ⟨rfl, hwq⟩
          have hmq := Hr2.out.pop' Fam.out
          rw [← hwq] at hmq
          have o0 : wq.cell? ⟨wr.heap.size, 0, none⟩ = some (.int .i64 4) := by
            rw [hwq, World.cell?_setCell_far _ _ _ _ (show w.heap.size ≠ wr.heap.size by omega)]
            exact cell_of_heap (heap_at _ _ _ rfl) rfl
          have o1 : wq.cell? ⟨wr.heap.size, 1, none⟩ = some (.int .i64 oa) := by
            rw [hwq, World.cell?_setCell_far _ _ _ _ (show w.heap.size ≠ wr.heap.size by omega)]
            exact cell_of_heap (heap_at _ _ _ rfl) rfl
          have o2 : wq.cell? ⟨wr.heap.size, 2, none⟩ = some (.int .i64 ob) := by
            rw [hwq, World.cell?_setCell_far _ _ _ _ (show w.heap.size ≠ wr.heap.size by omega)]
            exact cell_of_heap (heap_at _ _ _ rfl) rfl
          clear hwq
          obtain ⟨Fq, hFq⟩ : ∃ Fq : Nat → Prop, RunMem I RO F w ys s' Fq (.slice va ys.length vcap) wq := ⟨_, hmq⟩
          have Hm := Lib.hid hFq
          clear hmq hFq
          go_wp2_with fail
          have hxl : ys.length ≤ 20 := by have := Hp.out.len; simp at this; omega
          refine (operandKey_any (4, oa, ob) idx n0 _ (by omega) (fun _ => (Hok.out.2.2.2.2.1 rfl).2.2)).mono ?_
          rintro e w1 ⟨rfl, c1⟩
          rw [Hkey.out]
          obtain ⟨k1, k2, k3⟩ := key
          unfold i3v
          simp only [Option.getD_some, Option.isSome_some]
          have c2 : Chg [] wq (w1.alloc (.cells #[.int .i64 k1, .int .i64 k2, .int .i64 k3] 43)) := c1.alloc _
          have hm2 := Hm.out.new Fam.out c2
          have hszw1 : wq.heap.size ≤ w1.heap.size := c1.size
          have s1 : (w1.alloc (.cells #[.int .i64 k1, .int .i64 k2, .int .i64 k3] 43)).cell? ⟨w1.heap.size, 0, none⟩ = some (.int .i64 k1) := cell_of_heap (heap_at _ _ _ rfl) rfl
          have s2 : (w1.alloc (.cells #[.int .i64 k1, .int .i64 k2, .int .i64 k3] 43)).cell? ⟨w1.heap.size, 1, none⟩ = some (.int .i64 k2) := cell_of_heap (heap_at _ _ _ rfl) rfl
          have s3 : (w1.alloc (.cells #[.int .i64 k1, .int .i64 k2, .int .i64 k3] 43)).cell? ⟨w1.heap.size, 2, none⟩ = some (.int .i64 k3) := cell_of_heap (heap_at _ _ _ rfl) rfl
          clear c1 o0 o1 o2
          go_wp2_with fail
          obtain ⟨wk, hwk⟩ : ∃ x, x = w1.alloc (.cells #[.int .i64 k1, .int .i64 k2, .int .i64 k3] 43) := ⟨_, rfl⟩
          rw [← hwk]
          rw [← hwk] at hm2 s1 s2 s3
          have hkb : w1.heap.size < wk.heap.size := by rw [hwk]; simp
          have hFk : (fun b => Fq b ∨ (wq.heap.size ≤ b ∧ b < wk.heap.size)) w1.heap.size := Or.inr ⟨hszw1, hkb⟩
          clear hwk c2
          obtain ⟨F2, hF2⟩ : ∃ F2 : Nat → Prop, F2 = (fun b => Fq b ∨ (wq.heap.size ≤ b ∧ b < wk.heap.size)) := ⟨_, rfl⟩
          rw [← hF2] at hm2 hFk
          clear hF2
          have hm3 := hm2.same Fam.out (wk.drew) rfl rfl rfl rfl
          have s0 := hm2.cell
          have sf := hm2.free
          have lk := lt_of_cell s0
          have Hm3 := Lib.hid hm3
          have Hm2 := Lib.hid hm2
          have hbk : w.heap.size < wk.heap.size := lk
          have Hob := Lib.hid (fun g' (hg' : (Value.slice va ys.length vcap).ownBlock = some g') => (ownsRow_ge hm2.row hg'))
          clear hm3 hm2
          cases hg : (G s' (k1, k2, k3)).1 with
          | ok n =>
            have Hg := Lib.hid hg
            clear hg
            go_region_law (first
              | (rw [if_pos (by simp [Region.wanted])]; go_simp; refine (Fam.out.call F2 s' _ (k1, k2, k3) Hin.out Hm3.out.inv).mono ?_; rintro e w3 hpost; obtain ⟨rfl, hi3, hc3⟩ := hpost.ok Hg.out; have kb3 : w3.cell? ⟨w.heap.size, 0, none⟩ = some (.slice va ys.length vcap) := (hc3.cell (p := ⟨w.heap.size, 0, none⟩) hbk (fun h => h.1 Hm2.out.hbt)).trans s0; have kf3 : w3.frozen? ⟨w.heap.size, 0, none⟩ = false := (hc3.frozen (p := ⟨w.heap.size, 0, none⟩) hbk (fun h => h.1 Hm2.out.hbt)).trans sf; have hz3 : w.heap.size < w3.heap.size := lt_of_cell kb3; have hz4 : wk.heap.size ≤ w3.heap.size := hc3.size; have q1 : w3.cell? ⟨w1.heap.size, 0, none⟩ = some (.int .i64 k1) := (hc3.cell (p := ⟨w1.heap.size, 0, none⟩) hkb (fun h => h.1 hFk)).trans s1; have q2 : w3.cell? ⟨w1.heap.size, 1, none⟩ = some (.int .i64 k2) := (hc3.cell (p := ⟨w1.heap.size, 1, none⟩) hkb (fun h => h.1 hFk)).trans s2; have q3 : w3.cell? ⟨w1.heap.size, 2, none⟩ = some (.int .i64 k3) := (hc3.cell (p := ⟨w1.heap.size, 2, none⟩) hkb (fun h => h.1 hFk)).trans s3; have Hrow3 := Lib.hid (ownsRow_kept (w' := w3) Hm3.out.row (fun g' hg' hl' => hc3.block g' hl' (fun h => h.1 (Hm2.out.hrow g' hg')))); have Hi3 := Lib.hid hi3; have Hc3 := Lib.hid hc3; clear hi3 hc3 hpost)
              | (refine step_append_lies _ (by rfl) _ _ _ (by rfl) (w.heap.size + 1) 3 i0 (.int .i64 0) 1 8 Try.underlying37 Hi0.out Hz0.out Hz1.out Hz2.out rfl (by omega) (.slice va ys.length vcap) ys.length (ys.map (Value.int .i64)) (by rfl) (Hrow3.out.alloc _) ⟨w3.heap.size, 0, none⟩ 1 1 [.int .i64 (n)] (by rfl) (by rfl) (cell_one_new _ _ _) (by simp [Value.oneCell']) (by omega) (by unfold maxLen; omega) (by omega) (by simp; omega) (w3.heap.size + 1) (by simp) ?_; intro gg cap4 w4 hown4 hgrow4 hat4 hlt4; have hc4 := ((ChgP.refl (fun b => (Value.slice va ys.length vcap).ownBlock = some b) (w3)).alloc (.cells #[.int .i64 (n)] 3)).grown hgrow4 (fun k h => Or.inl h); have kc4 : w4.cell? ⟨w.heap.size, 0, none⟩ = some (.slice va ys.length vcap) := (hc4.cell (p := ⟨w.heap.size, 0, none⟩) hz3 (fun h => absurd (Hob.out _ h).1 (Nat.not_succ_le_self _))).trans kb3; have kf4 : w4.frozen? ⟨w.heap.size, 0, none⟩ = false := (hc4.frozen (p := ⟨w.heap.size, 0, none⟩) hz3 (fun h => absurd (Hob.out _ h).1 (Nat.not_succ_le_self _))).trans kf3; have Hown4 := Lib.hid hown4; have Hc4 := Lib.hid hc4; have Hat4 := Lib.hid hat4; clear hown4 hgrow4 hat4 hc4))
            all_goals
              have hmem := Hm3.out.push (v4 := .slice (some ⟨gg, 0, none⟩) (ys.length + 1) cap4) (zs := ys ++ [n]) Fam.out Hi3.out Hc3.out Hc4.out (by rw [List.map_append, List.length_append]; exact Hown4.out) (Hat4.out.elim Or.inl (fun h => Or.inr (congrArg some h))) kc4 kf4
              have hpl := Hp.out.next (hstep45 (by decide) Hkey.out Hg.out) (by have := Hdep.out; simpa [pops] using this) (by rw [List.length_append]; simp only [List.length_singleton]; have := Hp.out.len; simp at this; omega) (fun x hx => by
                rcases List.mem_append.1 hx with hx | hx
                · exact (fun x hx => Hp.out.sm x (by simp [hx])) x hx
                · rw [List.mem_singleton.1 hx]; exact Fam.out.small _ _ _ Hin.out Hg.out)
              have Hnext := Lib.hid (And.intro hmem hpl)
              clear hmem hpl
              go_wp2
              exact ⟨⟨k + 1, ys ++ [n], _, _, _, by omega, by go_num, Hnext.out.1, Hnext.out.2⟩, by simp [intOf]; omega⟩
          | error x =>
            have Hg := Lib.hid hg
            clear hg
            have hend : ∀ (a : Act), a.defers = [] → ∀ (w3 : World), I F2 (G s' (k1, k2, k3)).2 w3 → ChgP (fun b => ¬ F2 b ∧ ¬ RO b) wk.drew w3 → bodyPost Try.prog Try.f51 (RunPost I RO G ch F idx ops s w) (.panic (ch x)) a w3 := by
              intro a ha w3 hi3 hc3
              have hrr := runR_err Hp.out.eq (hstep45e (by decide) Hkey.out Hg.out)
              refine ⟨ha, ?_, ?_, ?_⟩
              · rw [hrr]
              · rw [hrr]
                exact Fam.out.anti hi3 Hm3.out.sub
              · exact Hm3.out.chg.comp hc3 (fun b hb => Or.inl ⟨fun hF => hb.1 (Hm3.out.sub b hF), hb.2⟩)
            refine wp_region_any (by kernel_rfl) ?_
            change wpAny _ _ _ _ _ _ _ (World.drew _)
            refine wpAny_take (i := 1) (v := .func (.func fn) first caps) rfl (by kernel_rfl) (by kernel_rfl) (by kernel_rfl) (fun _ _ _ h => h) (Or.inl ⟨by rfl, ?_⟩) ?_
            · intro w'; go_simp
            · refine wpAny_ready (rs := [0, 2]) (by kernel_rfl) (by simp) ?_
              refine AllReady.cons rfl (fun K hK => ?_) (AllReady.cons rfl (fun K hK => ?_) AllReady.nil)
              · go_simp
                refine hK _ _ ?_
                clear hK K
                refine wpAny_ready (rs := [2]) (by kernel_rfl) (by simp) ?_
                refine AllReady.cons rfl (fun K hK => ?_) AllReady.nil
                go_simp
                refine hK _ _ ?_
                clear hK K
                refine wpAny_ready (rs := [3]) (by kernel_rfl) (by simp) ?_
                refine AllReady.cons rfl (fun K hK => ?_) AllReady.nil
                go_simp
                refine (Fam.out.call F2 s' _ (k1, k2, k3) Hin.out Hm3.out.inv).mono ?_
                rintro e w3 hpost
                obtain ⟨rfl, hi3, hc3⟩ := hpost.err Hg.out
                exact hend _ rfl _ hi3 hc3
              · go_simp
                refine hK _ _ ?_
                clear hK K
                refine wpAny_ready (rs := [0, 3]) (by kernel_rfl) (by simp) ?_
                refine AllReady.cons rfl (fun K hK => ?_) (AllReady.cons rfl (fun K hK => ?_) AllReady.nil)
                · go_simp
                  refine hK _ _ ?_
                  clear hK K
                  refine wpAny_ready (rs := [3]) (by kernel_rfl) (by simp) ?_
                  refine AllReady.cons rfl (fun K hK => ?_) AllReady.nil
                  go_simp
                  refine (Fam.out.call F2 s' _ (k1, k2, k3) Hin.out Hm3.out.inv).mono ?_
                  rintro e w3 hpost
                  obtain ⟨rfl, hi3, hc3⟩ := hpost.err Hg.out
                  exact hend _ rfl _ hi3 hc3
                · go_simp
                  refine (Fam.out.call F2 s' _ (k1, k2, k3) Hin.out Hm3.out.inv).mono ?_
                  rintro e w3 hpost
                  obtain ⟨rfl, hi3, hc3⟩ := hpost.err Hg.out
                  exact hend _ rfl _ hi3 hc3
        · skip
          by_cases e5 : op = 5
          · subst e5
            obtain ⟨ys, n0, rfl⟩ : ∃ ys n0, xs = ys ++ [n0] := by
              have := Hpop.out
              rcases List.eq_nil_or_concat xs with h | ⟨l, a, h⟩
              · subst h; simp [pops] at this
              · exact ⟨l, a, by simpa using h⟩
            have hn0 : 0 ≤ n0 := (Hp.out.sm n0 (by simp)).1
            have hys : (ys ++ [n0]).length = ys.length + 1 := by simp
            rw [hys] at c0
            have hrow := Hr.out.row
            rw [hys, List.map_append] at hrow
            obtain ⟨key, hkey⟩ : ∃ key, opKey (5, oa, ob) idx n0 = some key := ⟨_, rfl⟩
            have Hkey := Lib.hid hkey
            have Hin := Lib.hid (opKey_in Hok.out hn0 hkey)
            have hr2 := Hr.out.new Fam.out ((Chg.refl [] wr).alloc (.cells #[.int .i64 5, .int .i64 oa, .int .i64 ob] 119))
            have Hr2 := Lib.hid hr2
            have Hrow := Lib.hid hrow
            clear hkey hys hrow hr2
            go_wp2_with fail
            refine (pop_any _ w.heap.size 0 va ys.length vcap ys n0 (w.heap.size + 1) (by have := Hr2.out.cell; simpa using this) Hr2.out.free (Hrow.out.alloc _)).mono ?_
            rintro e wq ⟨rfl, hwq⟩
            have hmq := Hr2.out.pop' Fam.out
            rw [← hwq] at hmq
            have o0 : wq.cell? ⟨wr.heap.size, 0, none⟩ = some (.int .i64 5) := by
              rw [hwq, World.cell?_setCell_far _ _ _ _ (show w.heap.size ≠ wr.heap.size by omega)]
              exact cell_of_heap (heap_at _ _ _ rfl) rfl
            have o1 : wq.cell? ⟨wr.heap.size, 1, none⟩ = some (.int .i64 oa) := by
              rw [hwq, World.cell?_setCell_far _ _ _ _ (show w.heap.size ≠ wr.heap.size by omega)]
              exact cell_of_heap (heap_at _ _ _ rfl) rfl
            have o2 : wq.cell? ⟨wr.heap.size, 2, none⟩ = some (.int .i64 ob) := by
              rw [hwq, World.cell?_setCell_far _ _ _ _ (show w.heap.size ≠ wr.heap.size by omega)]
              exact cell_of_heap (heap_at _ _ _ rfl) rfl
            clear hwq
            obtain ⟨Fq, hFq⟩ : ∃ Fq : Nat → Prop, RunMem I RO F w ys s' Fq (.slice va ys.length vcap) wq := ⟨_, hmq⟩
            have Hm := Lib.hid hFq
            clear hmq hFq
            go_wp2_with fail
            have hxl : ys.length ≤ 20 := by have := Hp.out.len; simp at this; omega
            refine (operandKey_any (5, oa, ob) idx n0 _ (by omega) (fun e => absurd e (show ¬ (5 : Int) = 4 by decide))).mono ?_
            rintro e w1 ⟨rfl, c1⟩
            rw [Hkey.out]
            obtain ⟨k1, k2, k3⟩ := key
            unfold i3v
            simp only [Option.getD_some, Option.isSome_some]
            have c2 : Chg [] wq (w1.alloc (.cells #[.int .i64 k1, .int .i64 k2, .int .i64 k3] 43)) := c1.alloc _
            have hm2 := Hm.out.new Fam.out c2
            have hszw1 : wq.heap.size ≤ w1.heap.size := c1.size
            have s1 : (w1.alloc (.cells #[.int .i64 k1, .int .i64 k2, .int .i64 k3] 43)).cell? ⟨w1.heap.size, 0, none⟩ = some (.int .i64 k1) := cell_of_heap (heap_at _ _ _ rfl) rfl
            have s2 : (w1.alloc (.cells #[.int .i64 k1, .int .i64 k2, .int .i64 k3] 43)).cell? ⟨w1.heap.size, 1, none⟩ = some (.int .i64 k2) := cell_of_heap (heap_at _ _ _ rfl) rfl
            have s3 : (w1.alloc (.cells #[.int .i64 k1, .int .i64 k2, .int .i64 k3] 43)).cell? ⟨w1.heap.size, 2, none⟩ = some (.int .i64 k3) := cell_of_heap (heap_at _ _ _ rfl) rfl
            clear c1 o0 o1 o2
            go_wp2_with fail
            obtain ⟨wk, hwk⟩ : ∃ x, x = w1.alloc (.cells #[.int .i64 k1, .int .i64 k2, .int .i64 k3] 43) := ⟨_, rfl⟩
            rw [← hwk]
            rw [← hwk] at hm2 s1 s2 s3
            have hkb : w1.heap.size < wk.heap.size := by rw [hwk]; simp
            have hFk : (fun b => Fq b ∨ (wq.heap.size ≤ b ∧ b < wk.heap.size)) w1.heap.size := Or.inr ⟨hszw1, hkb⟩
            clear hwk c2
            obtain ⟨F2, hF2⟩ : ∃ F2 : Nat → Prop, F2 = (fun b => Fq b ∨ (wq.heap.size ≤ b ∧ b < wk.heap.size)) := ⟨_, rfl⟩
            rw [← hF2] at hm2 hFk
            clear hF2
            have hm3 := hm2.same Fam.out (wk.drew) rfl rfl rfl rfl
            have s0 := hm2.cell
            have sf := hm2.free
            have lk := lt_of_cell s0
            have Hm3 := Lib.hid hm3
            have Hm2 := Lib.hid hm2
            have hbk : w.heap.size < wk.heap.size := lk
            have Hob := Lib.hid (fun g' (hg' : (Value.slice va ys.length vcap).ownBlock = some g') => (ownsRow_ge hm2.row hg'))
            clear hm3 hm2
            cases hg : (G s' (k1, k2, k3)).1 with
            | ok n =>
              have Hg := Lib.hid hg
              clear hg
              go_region_law (first
                | (rw [if_pos (by simp [Region.wanted])]; go_simp; refine (Fam.out.call F2 s' _ (k1, k2, k3) Hin.out Hm3.out.inv).mono ?_; rintro e w3 hpost; obtain ⟨rfl, hi3, hc3⟩ := hpost.ok Hg.out; have kb3 : w3.cell? ⟨w.heap.size, 0, none⟩ = some (.slice va ys.length vcap) := (hc3.cell (p := ⟨w.heap.size, 0, none⟩) hbk (fun h => h.1 Hm2.out.hbt)).trans s0; have kf3 : w3.frozen? ⟨w.heap.size, 0, none⟩ = false := (hc3.frozen (p := ⟨w.heap.size, 0, none⟩) hbk (fun h => h.1 Hm2.out.hbt)).trans sf; have hz3 : w.heap.size < w3.heap.size := lt_of_cell kb3; have hz4 : wk.heap.size ≤ w3.heap.size := hc3.size; have q1 : w3.cell? ⟨w1.heap.size, 0, none⟩ = some (.int .i64 k1) := (hc3.cell (p := ⟨w1.heap.size, 0, none⟩) hkb (fun h => h.1 hFk)).trans s1; have q2 : w3.cell? ⟨w1.heap.size, 1, none⟩ = some (.int .i64 k2) := (hc3.cell (p := ⟨w1.heap.size, 1, none⟩) hkb (fun h => h.1 hFk)).trans s2; have q3 : w3.cell? ⟨w1.heap.size, 2, none⟩ = some (.int .i64 k3) := (hc3.cell (p := ⟨w1.heap.size, 2, none⟩) hkb (fun h => h.1 hFk)).trans s3; have Hrow3 := Lib.hid (ownsRow_kept (w' := w3) Hm3.out.row (fun g' hg' hl' => hc3.block g' hl' (fun h => h.1 (Hm2.out.hrow g' hg')))); have Hi3 := Lib.hid hi3; have Hc3 := Lib.hid hc3; clear hi3 hc3 hpost)
                | (refine step_append_lies _ (by rfl) _ _ _ (by rfl) (w.heap.size + 1) 3 i0 (.int .i64 0) 1 8 Try.underlying37 Hi0.out Hz0.out Hz1.out Hz2.out rfl (by omega) (.slice va ys.length vcap) ys.length (ys.map (Value.int .i64)) (by rfl) (Hrow3.out.alloc _) ⟨w3.heap.size, 0, none⟩ 1 1 [.int .i64 (n)] (by rfl) (by rfl) (cell_one_new _ _ _) (by simp [Value.oneCell']) (by omega) (by unfold maxLen; omega) (by omega) (by simp; omega) (w3.heap.size + 1) (by simp) ?_; intro gg cap4 w4 hown4 hgrow4 hat4 hlt4; have hc4 := ((ChgP.refl (fun b => (Value.slice va ys.length vcap).ownBlock = some b) (w3)).alloc (.cells #[.int .i64 (n)] 3)).grown hgrow4 (fun k h => Or.inl h); have kc4 : w4.cell? ⟨w.heap.size, 0, none⟩ = some (.slice va ys.length vcap) := (hc4.cell (p := ⟨w.heap.size, 0, none⟩) hz3 (fun h => absurd (Hob.out _ h).1 (Nat.not_succ_le_self _))).trans kb3; have kf4 : w4.frozen? ⟨w.heap.size, 0, none⟩ = false := (hc4.frozen (p := ⟨w.heap.size, 0, none⟩) hz3 (fun h => absurd (Hob.out _ h).1 (Nat.not_succ_le_self _))).trans kf3; have Hown4 := Lib.hid hown4; have Hc4 := Lib.hid hc4; have Hat4 := Lib.hid hat4; clear hown4 hgrow4 hat4 hc4))
              all_goals
                have hmem := Hm3.out.push (v4 := .slice (some ⟨gg, 0, none⟩) (ys.length + 1) cap4) (zs := ys ++ [n]) Fam.out Hi3.out Hc3.out Hc4.out (by rw [List.map_append, List.length_append]; exact Hown4.out) (Hat4.out.elim Or.inl (fun h => Or.inr (congrArg some h))) kc4 kf4
                have hpl := Hp.out.next (hstep45 (by decide) Hkey.out Hg.out) (by have := Hdep.out; simpa [pops] using this) (by rw [List.length_append]; simp only [List.length_singleton]; have := Hp.out.len; simp at this; omega) (fun x hx => by
                  rcases List.mem_append.1 hx with hx | hx
                  · exact (fun x hx => Hp.out.sm x (by simp [hx])) x hx
                  · rw [List.mem_singleton.1 hx]; exact Fam.out.small _ _ _ Hin.out Hg.out)
                have Hnext := Lib.hid (And.intro hmem hpl)
                clear hmem hpl
                go_wp2
                exact ⟨⟨k + 1, ys ++ [n], _, _, _, by omega, by go_num, Hnext.out.1, Hnext.out.2⟩, by simp [intOf]; omega⟩
            | error x =>
              have Hg := Lib.hid hg
              clear hg
              have hend : ∀ (a : Act), a.defers = [] → ∀ (w3 : World), I F2 (G s' (k1, k2, k3)).2 w3 → ChgP (fun b => ¬ F2 b ∧ ¬ RO b) wk.drew w3 → bodyPost Try.prog Try.f51 (RunPost I RO G ch F idx ops s w) (.panic (ch x)) a w3 := by
                intro a ha w3 hi3 hc3
                have hrr := runR_err Hp.out.eq (hstep45e (by decide) Hkey.out Hg.out)
                refine ⟨ha, ?_, ?_, ?_⟩
                · rw [hrr]
                · rw [hrr]
                  exact Fam.out.anti hi3 Hm3.out.sub
                · exact Hm3.out.chg.comp hc3 (fun b hb => Or.inl ⟨fun hF => hb.1 (Hm3.out.sub b hF), hb.2⟩)
              refine wp_region_any (by kernel_rfl) ?_
              change wpAny _ _ _ _ _ _ _ (World.drew _)
              refine wpAny_take (i := 1) (v := .func (.func fn) first caps) rfl (by kernel_rfl) (by kernel_rfl) (by kernel_rfl) (fun _ _ _ h => h) (Or.inl ⟨by rfl, ?_⟩) ?_
              · intro w'; go_simp
              · refine wpAny_ready (rs := [0, 2]) (by kernel_rfl) (by simp) ?_
                refine AllReady.cons rfl (fun K hK => ?_) (AllReady.cons rfl (fun K hK => ?_) AllReady.nil)
                · go_simp
                  refine hK _ _ ?_
                  clear hK K
                  refine wpAny_ready (rs := [2]) (by kernel_rfl) (by simp) ?_
                  refine AllReady.cons rfl (fun K hK => ?_) AllReady.nil
                  go_simp
                  refine hK _ _ ?_
                  clear hK K
                  refine wpAny_ready (rs := [3]) (by kernel_rfl) (by simp) ?_
                  refine AllReady.cons rfl (fun K hK => ?_) AllReady.nil
                  go_simp
                  refine (Fam.out.call F2 s' _ (k1, k2, k3) Hin.out Hm3.out.inv).mono ?_
                  rintro e w3 hpost
                  obtain ⟨rfl, hi3, hc3⟩ := hpost.err Hg.out
                  exact hend _ rfl _ hi3 hc3
                · go_simp
                  refine hK _ _ ?_
                  clear hK K
                  refine wpAny_ready (rs := [0, 3]) (by kernel_rfl) (by simp) ?_
                  refine AllReady.cons rfl (fun K hK => ?_) (AllReady.cons rfl (fun K hK => ?_) AllReady.nil)
                  · go_simp
                    refine hK _ _ ?_
                    clear hK K
                    refine wpAny_ready (rs := [3]) (by kernel_rfl) (by simp) ?_
                    refine AllReady.cons rfl (fun K hK => ?_) AllReady.nil
                    go_simp
                    refine (Fam.out.call F2 s' _ (k1, k2, k3) Hin.out Hm3.out.inv).mono ?_
                    rintro e w3 hpost
                    obtain ⟨rfl, hi3, hc3⟩ := hpost.err Hg.out
                    exact hend _ rfl _ hi3 hc3
                  · go_simp
                    refine (Fam.out.call F2 s' _ (k1, k2, k3) Hin.out Hm3.out.inv).mono ?_
                    rintro e w3 hpost
                    obtain ⟨rfl, hi3, hc3⟩ := hpost.err Hg.out
                    exact hend _ rfl _ hi3 hc3
          · skip
            by_cases e1 : op = 1
            · subst e1
              have hkey : opKey (1, oa, ob) idx 0 = none := rfl
              have Hkey := Lib.hid hkey
              clear hkey
              have hxl : xs.length ≤ 20 := by have := Hp.out.len; omega
              have H4 := Lib.hid (fun (e : ((1, oa, ob) : I3).1 = 4) => (show 0 < idx by simp only at e; omega))
              have hr2 := Hr.out.new Fam.out ((Chg.refl [] wr).alloc (.cells #[.int .i64 1, .int .i64 oa, .int .i64 ob] 119))
              have Hr2 := Lib.hid hr2
              clear hr2
              go_wp2_with fail
              refine (operandKey_any (1, oa, ob) idx 0 _ (Int.le_refl 0) H4.out).mono ?_
              rintro e w1 ⟨rfl, c1⟩
              rw [Hkey.out]
              unfold i3v
              simp only [Option.getD_none, Option.isSome_none]
              have o0 : w1.cell? ⟨wr.heap.size, 0, none⟩ = some (.int .i64 1) := (c1.cell (by simp) (by simp)).trans (cell_of_heap (heap_at _ _ _ rfl) rfl)
              have o1 : w1.cell? ⟨wr.heap.size, 1, none⟩ = some (.int .i64 oa) := (c1.cell (by simp) (by simp)).trans (cell_of_heap (heap_at _ _ _ rfl) rfl)
              have lo : wr.heap.size < w1.heap.size := lt_of_cell o0
              have hm2 := Hr2.out.new Fam.out (c1.alloc (.cells #[.int .i64 0, .int .i64 0, .int .i64 0] 43))
              have Hm2' := Lib.hid hm2
              clear hm2 c1
              go_wp2_with fail
              obtain ⟨wk, hwk⟩ : ∃ x, x = (w1.alloc (.cells #[.int .i64 0, .int .i64 0, .int .i64 0] 43)) := ⟨_, rfl⟩
              rw [← hwk]
              have hmk := Hm2'.out
              rw [← hwk] at hmk
              have p1 : wk.cell? ⟨wr.heap.size, 1, none⟩ = some (.int .i64 oa) := by
                rw [hwk]
                exact (((Chg.refl [] w1).alloc _).cell (p := ⟨wr.heap.size, 1, none⟩) lo (by simp)).trans o1
              have lp : wr.heap.size < wk.heap.size := lt_of_cell p1
              clear hwk o0 o1
              obtain ⟨Fk, hFk⟩ : ∃ Fk : Nat → Prop, RunMem I RO F w xs s' Fk (.slice va xs.length vcap) wk := ⟨_, hmk⟩
              have Hm2 := Lib.hid hFk
              clear hmk hFk
              have s0 := Hm2.out.cell
              have sf := Hm2.out.free
              have lk := lt_of_cell s0
              have hbk : w.heap.size < wk.heap.size := lk
              have Hob := Lib.hid (fun g' (hg' : (Value.slice va xs.length vcap).ownBlock = some g') => (ownsRow_ge Hm2.out.row hg'))
              have kb3 : wk.cell? ⟨w.heap.size, 0, none⟩ = some (.slice va xs.length vcap) := s0
              have kf3 : wk.frozen? ⟨w.heap.size, 0, none⟩ = false := sf
              have hz3 : w.heap.size < wk.heap.size := hbk
              go_region_law (first
                | (rw [if_pos (by simp [Region.wanted])]; go_simp; refine (reduce_any _ _).mono ?_; rintro e w' ⟨rfl, rfl⟩)
                | (refine step_append_lies _ (by rfl) _ _ _ (by rfl) (w.heap.size + 1) 3 i0 (.int .i64 0) 1 8 Try.underlying37 Hi0.out Hz0.out Hz1.out Hz2.out rfl (by omega) (.slice va xs.length vcap) xs.length (xs.map (Value.int .i64)) (by rfl) ((Hm2.out.row.alloc _).drew) ⟨wk.heap.size, 0, none⟩ 1 1 [.int .i64 (red oa)] (by rfl) (by rfl) (World.news_of_block (cs := #[.int .i64 (red oa)]) (t := 3) (fr := (0, 0)) (heap_alloc_new wk _)) (by simp [Value.oneCell']) (by omega) (by unfold maxLen; omega) (by omega) (by simp; omega) (wk.heap.size + 1) (by simp) ?_; intro gg cap4 w4 hown4 hgrow4 hat4 hlt4; have hc4 := ((ChgP.refl (fun b => (Value.slice va xs.length vcap).ownBlock = some b) (wk)).alloc (.cells #[.int .i64 (red oa)] 3)).drew.grown hgrow4 (fun k h => Or.inl h); have kc4 : w4.cell? ⟨w.heap.size, 0, none⟩ = some (.slice va xs.length vcap) := (hc4.cell (p := ⟨w.heap.size, 0, none⟩) hz3 (fun h => absurd (Hob.out _ h).1 (Nat.not_succ_le_self _))).trans kb3; have kf4 : w4.frozen? ⟨w.heap.size, 0, none⟩ = false := (hc4.frozen (p := ⟨w.heap.size, 0, none⟩) hz3 (fun h => absurd (Hob.out _ h).1 (Nat.not_succ_le_self _))).trans kf3; have Hown4 := Lib.hid hown4; have Hc4 := Lib.hid hc4; have Hat4 := Lib.hid hat4; clear hown4 hgrow4 hat4 hc4))
              all_goals
                have hmem := Hm2.out.push (v4 := .slice (some ⟨gg, 0, none⟩) (xs.length + 1) cap4) (zs := xs ++ [red oa]) Fam.out Hm2.out.inv (ChgP.refl _ _) Hc4.out (by rw [List.map_append, List.length_append]; exact Hown4.out) (Hat4.out.elim Or.inl (fun h => Or.inr (congrArg some h))) kc4 kf4
                have hpl := Hp.out.next (hstep1) (by have := Hdep.out; simpa [pops] using this) (by rw [List.length_append]; simp only [List.length_singleton]; have := Hp.out.len; omega) (fun x hx => by
                  rcases List.mem_append.1 hx with hx | hx
                  · exact Hp.out.sm x hx
                  · rw [List.mem_singleton.1 hx]; exact red_bd oa)
                have Hnext := Lib.hid (And.intro hmem hpl)
                clear hmem hpl
                go_wp2
                exact ⟨⟨k + 1, xs ++ [red oa], _, _, _, by omega, by go_num, Hnext.out.1, Hnext.out.2⟩, by simp [intOf]; omega⟩
            · skip
              have e6 : 6 ≤ op := by have := Hok.out.1.1; omega
              have b4 : (op == 4) = false := beq_eq_false_iff_ne.2 (by omega)
              have b5 : (op == 5) = false := beq_eq_false_iff_ne.2 (by omega)
              have b1 : (op == 1) = false := beq_eq_false_iff_ne.2 (by omega)
              obtain ⟨ys, x, y, rfl⟩ : ∃ ys x y, xs = (ys ++ [x]) ++ [y] := by
                have hp := Hpop.out
                rw [hpops6 e6] at hp
                rcases List.eq_nil_or_concat xs with h | ⟨l, a, h⟩
                · subst h; simp at hp
                · rcases List.eq_nil_or_concat l with h' | ⟨l', a', h'⟩
                  · subst h' h; simp at hp
                  · exact ⟨l', a', a, by rw [h, h']; simp⟩
              have hsx : small x := Hp.out.sm x (by simp)
              have hsy : small y := Hp.out.sm y (by simp)
              have hxl : ys.length ≤ 20 := by have := Hp.out.len; simp at this; omega
              have hkey : opKey (op, oa, ob) idx 0 = none := hkey6 e6
              have Hkey := Lib.hid hkey
              clear hkey
              have hys : ((ys ++ [x]) ++ [y]).length = (ys ++ [x]).length + 1 := by simp
              rw [hys] at c0
              have Hys := Lib.hid hys
              clear hys
              have H4 := Lib.hid (fun (e : ((op, oa, ob) : I3).1 = 4) => (show 0 < idx by simp only at e; omega))
              have hr2 := Hr.out.new Fam.out ((Chg.refl [] wr).alloc (.cells #[.int .i64 op, .int .i64 oa, .int .i64 ob] 119))
              have Hr2 := Lib.hid hr2
              clear hr2
              go_wp2_with fail
              refine (operandKey_any (op, oa, ob) idx 0 _ (Int.le_refl 0) H4.out).mono ?_
              rintro e w1 ⟨rfl, c1⟩
              rw [Hkey.out]
              unfold i3v
              simp only [Option.getD_none, Option.isSome_none]
              have o0 : w1.cell? ⟨wr.heap.size, 0, none⟩ = some (.int .i64 op) := (c1.cell (by simp) (by simp)).trans (cell_of_heap (heap_at _ _ _ rfl) rfl)
              have o1 : w1.cell? ⟨wr.heap.size, 1, none⟩ = some (.int .i64 oa) := (c1.cell (by simp) (by simp)).trans (cell_of_heap (heap_at _ _ _ rfl) rfl)
              have lo : wr.heap.size < w1.heap.size := lt_of_cell o0
              have hm2 := Hr2.out.new Fam.out (c1.alloc (.cells #[.int .i64 0, .int .i64 0, .int .i64 0] 43))
              have Hm2' := Lib.hid hm2
              clear hm2 c1
              go_wp2_with fail
              obtain ⟨wk0, hwk⟩ : ∃ x, x = (w1.alloc (.cells #[.int .i64 0, .int .i64 0, .int .i64 0] 43)) := ⟨_, rfl⟩
              rw [← hwk]
              have hmk := Hm2'.out
              rw [← hwk] at hmk
              have p0 : wk0.cell? ⟨wr.heap.size, 0, none⟩ = some (.int .i64 op) := by
                rw [hwk]
                exact (((Chg.refl [] w1).alloc _).cell (p := ⟨wr.heap.size, 0, none⟩) lo (by simp)).trans o0
              have lp0 : wr.heap.size < wk0.heap.size := lt_of_cell p0
              clear hwk o0 o1
              obtain ⟨Fk, hFk⟩ : ∃ Fk : Nat → Prop, RunMem I RO F w ((ys ++ [x]) ++ [y]) s' Fk (.slice va ((ys ++ [x]) ++ [y]).length vcap) wk0 := ⟨_, hmk⟩
              have hm9 := hFk.pop' Fam.out
              have hrow := hFk.row
              have hcell := hFk.cell
              rw [Hys.out] at hrow hcell
              rw [List.map_append] at hrow
              have Hrow := Lib.hid hrow
              have Hfree := Lib.hid hFk.free
              clear hmk hFk hrow
              refine (pop_any _ w.heap.size 0 va (ys ++ [x]).length vcap (ys ++ [x]) y (w.heap.size + 1) hcell Hfree.out Hrow.out).mono ?_
              rintro e w9 ⟨rfl, hw9⟩
              rw [← hw9] at hm9
              have p1 : w9.cell? ⟨wr.heap.size, 0, none⟩ = some (.int .i64 op) := by
                rw [hw9, World.cell?_setCell_far _ _ _ _ (show w.heap.size ≠ wr.heap.size by omega)]
                exact p0
              have lp1 : wr.heap.size < w9.heap.size := lt_of_cell p1
              have hys2 : (ys ++ [x]).length = ys.length + 1 := by simp
              have hrow9 := hm9.row
              have hcell9 := hm9.cell
              rw [hys2] at hrow9 hcell9
              rw [List.map_append] at hrow9
              have Hrow9 := Lib.hid hrow9
              have Hfree9 := Lib.hid hm9.free
              have hm10 := hm9.pop' Fam.out
              have Hm9 := Lib.hid hm9
              clear hw9 hrow9 hm9 p0 hcell hys2 lp0
              go_wp2_with fail
              refine (pop_any _ w.heap.size 0 va ys.length vcap ys x (w.heap.size + 1) hcell9 Hfree9.out Hrow9.out).mono ?_
              rintro e wk ⟨rfl, hw10⟩
              rw [← hw10] at hm10
              have p2 : wk.cell? ⟨wr.heap.size, 0, none⟩ = some (.int .i64 op) := by
                rw [hw10, World.cell?_setCell_far _ _ _ _ (show w.heap.size ≠ wr.heap.size by omega)]
                exact p1
              have lp2 : wr.heap.size < wk.heap.size := lt_of_cell p2
              have Hm2 := Lib.hid hm10
              clear hw10 hm10 p1 hcell9 lp1
              go_wp2_with fail
              have s0 := Hm2.out.cell
              have sf := Hm2.out.free
              have lk := lt_of_cell s0
              have hbk : w.heap.size < wk.heap.size := lk
              have Hob := Lib.hid (fun g' (hg' : (Value.slice va ys.length vcap).ownBlock = some g') => (ownsRow_ge Hm2.out.row hg'))
              have kb3 : wk.cell? ⟨w.heap.size, 0, none⟩ = some (.slice va ys.length vcap) := s0
              have kf3 : wk.frozen? ⟨w.heap.size, 0, none⟩ = false := sf
              have hz3 : w.heap.size < wk.heap.size := hbk
              go_region_law (first
                | (rw [if_pos (by simp [Region.wanted])]; go_simp; refine (binary_any _ _ _ _ hsx hsy).mono ?_; rintro e w' ⟨rfl, rfl⟩)
                | (refine step_append_lies _ (by rfl) _ _ _ (by rfl) (w.heap.size + 1) 3 i0 (.int .i64 0) 1 8 Try.underlying37 Hi0.out Hz0.out Hz1.out Hz2.out rfl (by omega) (.slice va ys.length vcap) ys.length (ys.map (Value.int .i64)) (by rfl) ((Hm2.out.row.alloc _).drew) ⟨wk.heap.size, 0, none⟩ 1 1 [.int .i64 (binop op x y)] (by rfl) (by rfl) (World.news_of_block (cs := #[.int .i64 (binop op x y)]) (t := 3) (fr := (0, 0)) (heap_alloc_new wk _)) (by simp [Value.oneCell']) (by omega) (by unfold maxLen; omega) (by omega) (by simp; omega) (wk.heap.size + 1) (by simp) ?_; intro gg cap4 w4 hown4 hgrow4 hat4 hlt4; have hc4 := ((ChgP.refl (fun b => (Value.slice va ys.length vcap).ownBlock = some b) (wk)).alloc (.cells #[.int .i64 (binop op x y)] 3)).drew.grown hgrow4 (fun k h => Or.inl h); have kc4 : w4.cell? ⟨w.heap.size, 0, none⟩ = some (.slice va ys.length vcap) := (hc4.cell (p := ⟨w.heap.size, 0, none⟩) hz3 (fun h => absurd (Hob.out _ h).1 (Nat.not_succ_le_self _))).trans kb3; have kf4 : w4.frozen? ⟨w.heap.size, 0, none⟩ = false := (hc4.frozen (p := ⟨w.heap.size, 0, none⟩) hz3 (fun h => absurd (Hob.out _ h).1 (Nat.not_succ_le_self _))).trans kf3; have Hown4 := Lib.hid hown4; have Hc4 := Lib.hid hc4; have Hat4 := Lib.hid hat4; clear hown4 hgrow4 hat4 hc4))
              all_goals
                have hmem := Hm2.out.push (v4 := .slice (some ⟨gg, 0, none⟩) (ys.length + 1) cap4) (zs := ys ++ [binop op x y]) Fam.out Hm2.out.inv (ChgP.refl _ _) Hc4.out (by rw [List.map_append, List.length_append]; exact Hown4.out) (Hat4.out.elim Or.inl (fun h => Or.inr (congrArg some h))) kc4 kf4
                have hpl := Hp.out.next (hstep6 e6) (by have := Hdep.out; rw [hpops6 e6] at this; simpa using this) (by rw [List.length_append]; simp only [List.length_singleton]; have := Hp.out.len; simp at this; omega) (fun x hx => by
                  rcases List.mem_append.1 hx with hx | hx
                  · exact (fun x hx => Hp.out.sm x (by simp [hx])) x hx
                  · rw [List.mem_singleton.1 hx]; exact binop_bd hsx hsy)
                have Hnext := Lib.hid (And.intro hmem hpl)
                clear hmem hpl
                go_wp2
                exact ⟨⟨k + 1, ys ++ [binop op x y], _, _, _, by omega, by go_num, Hnext.out.1, Hnext.out.2⟩, by simp [intOf]; omega⟩
    · obtain rfl : k = ops.length := by omega
      have hd := Hpl.out.dep
      have he := Hpl.out.eq
      rw [List.drop_length] at hd he
      simp only [Go.Proofs.Ytggiddhhbilcjaa.dep, Option.some.injEq] at hd
      obtain ⟨x, rfl⟩ : ∃ x, xs = [x] := List.length_eq_one_iff.1 hd
      have hrow := Hr.out.row
      obtain ⟨va, vcap, rfl⟩ := ownsRow_shape hrow
      obtain ⟨_, g, rfl, hx, _, _⟩ := ownsRow_pop (n := 0) (xs := []) hrow
      have hc := Hr.out.cell
      simp only [List.length_singleton] at hc
      have lg := lt_of_cell hx
      have lg2 := lt_of_cell hc
      have hfin : (runR G idx ops s) = (.ok x, s') := by
        unfold runR
        rw [he]
        simp [runL]
      have Hfin := Lib.hid hfin
      clear hd he hrow hfin
      go_wp2
      go_ret
      refine ⟨?_, ?_, Hr.out.chg⟩
      · rw [Hfin.out]
        exact ⟨rfl, Hpl.out.sm x (by simp)⟩
      · rw [Hfin.out]
        exact Fam.out.anti Hr.out.inv Hr.out.sub
end Go.Proofs.Ytggiddhhbilcjaa
