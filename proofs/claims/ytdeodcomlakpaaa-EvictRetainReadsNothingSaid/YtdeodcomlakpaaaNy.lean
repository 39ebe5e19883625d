/- evict.Retain. -/
import Derived.Test.YtdeodcomlakpaaaGm
import Derived.Test.YtdeodcomlakpaaaNv
import Derived.Test.YtdeodcomlakpaaaNx
import Derived.Deep.LoopGhost
namespace Go.Proofs.Ytdeodcomlakpaaa
open Go.RowKit Go.ChangeMaps Go.MapKept
set_option linter.unusedVariables false
set_option linter.unusedSimpArgs false
theorem flat3_app (ks ls : List I3) : flat3 (ks ++ ls) = flat3 ks ++ flat3 ls := by simp [flat3]
theorem flat3_one (ks : List I3) : ∀ u ∈ flat3 ks, u.oneCell' = true := by
  intro u hu
  unfold flat3 at hu
  obtain ⟨k, _, hk⟩ := List.mem_flatMap.1 hu
  simp only [List.mem_cons, List.not_mem_nil, or_false] at hk
  rcases hk with rfl | rfl | rfl <;> rfl
/-- append(own, src...) of keys -/
theorem appKeys (w : World) (base : Nat) (v : Value) (xs : List QK) (hown : w.ownsRow base 27 3 v xs.length (flat3 xs)) (p : Nat → Prop) (vs : Value) (ys : List QK) (hs : I3s p w vs ys) (hx : xs.length ≤ 100000) (hy : ys.length ≤ 100000) (hb : base ≤ w.heap.size) (ty : TypeId) :
    ∃ v' w', (Builtin.append_ #[53, 53] ty #[v, vs]).run Try.prog w = .ok v' w' ∧ w'.ownsRow base 27 3 v' (xs ++ ys).length (flat3 (xs ++ ys)) ∧ w.grownBy w' v.ownBlock := by
  obtain ⟨i0, hi, hz0, hz1, hz2⟩ := info_parts Try.infoKey2
  obtain ⟨a, cap, rfl, h1, h2, h3⟩ := hs
  have main : ∀ ad, (∀ j u, (flat3 ys)[j]? = some u → w.cell? ((ad : Addr).add j) = some u) → ∃ v' w', (Builtin.append_ #[53, 53] ty #[v, .slice (some ad) ys.length cap]).run Try.prog w = .ok v' w' ∧ w'.ownsRow base 27 3 v' (xs ++ ys).length (flat3 (xs ++ ys)) ∧ w.grownBy w' v.ownBlock := by
    intro ad hc
    obtain ⟨v', w', e, ho, hg, _⟩ := run_append_own (P := Try.prog) (w := w) base 53 ty 27 i0 (.agg #[.int .i64 0, .int .i64 0, .int .i64 0]) 3 24 Try.underlying53 hi hz0 hz1 hz2 rfl (by omega) v xs.length (flat3 xs) hown ad ys.length cap (flat3 ys) (flat3_len ys) hc (flat3_one ys) (by unfold maxLen; omega) (by omega) hb
    refine ⟨v', w', e, ?_, hg⟩
    rw [List.length_append, flat3_app]
    exact ho
  rcases a with _ | ad
  · have hy0 : ys = [] := by
      cases ys with
      | nil => rfl
      | cons y r =>
        obtain ⟨g, off, h, _⟩ := h3 (by simp)
        cases h
    subst hy0
    obtain ⟨av, cv, rfl⟩ := ownsRow_shape hown
    refine ⟨.slice av xs.length cv, w, ?_, by simpa using hown, World.grownBy.refl _ _⟩
    have hle : xs.length ≤ cv := by
      rcases hown.2 with ⟨hv, h0⟩ | ⟨g, cap', cur, hv, _, _, h, _⟩
      · omega
      · simp only [Value.slice.injEq] at hv
        omega
    rcases av with _ | av
    · simp [Builtin.append_, run_underlying Try.underlying53, sizeOf, typeInfo, hi, Builtin.lenOf, Builtin.firstCells, hle]
    · simp [Builtin.append_, run_underlying Try.underlying53, sizeOf, typeInfo, hi, Builtin.lenOf, Builtin.firstCells, hle, storeCells]
  · by_cases h0 : 0 < ys.length
    · obtain ⟨g, off, h, _, hc⟩ := h3 h0
      cases h
      exact main _ fun j u hu => by
        rw [Addr.add_lit]
        exact flat3_cell hc j u hu
    · have hy0 : ys = [] := List.eq_nil_of_length_eq_zero (by omega)
      subst hy0
      exact main _ fun j u hu => by simp [flat3] at hu
/-- the last key taken off -/
theorem ownsRow_pop3 {w : World} {base : Nat} {a : Option Addr} {cap : Nat} {xs : List QK} {x : QK} (h : w.ownsRow base 27 3 (.slice a (xs.length + 1) cap) (xs.length + 1) (flat3 (xs ++ [x]))) :
    w.ownsRow base 27 3 (.slice a xs.length cap) xs.length (flat3 xs) ∧ ∃ g, a = some ⟨g, 0, none⟩ ∧ w.cell? ⟨g, xs.length * 3, none⟩ = some (.int .i64 x.1) ∧ w.cell? ⟨g, xs.length * 3 + 1, none⟩ = some (.int .i64 x.2.1) ∧ w.cell? ⟨g, xs.length * 3 + 2, none⟩ = some (.int .i64 x.2.2) ∧ xs.length + 1 ≤ cap ∧ cap ≤ maxLen := by
  have hl := flat3_len xs
  rcases h.2 with ⟨_, h0⟩ | ⟨g, cap', cur, hv, h1, h2, h3, h4, h5, h6⟩
  · omega
  · simp only [Value.slice.injEq, true_and] at hv
    obtain ⟨rfl, rfl⟩ := hv
    have hc := h.cells (g := g) rfl
    have hg := flat3_get (xs ++ [x]) xs.length (by simp)
    simp only [List.getElem_append_right (Nat.le_refl _), Nat.sub_self, List.getElem_singleton] at hg
    refine ⟨⟨hl, .inr ⟨g, cap, cur, rfl, h1, h2, by omega, h4, h5, ?_⟩⟩, g, rfl, ?_, ?_, ?_, h3, h4⟩
    · have := congrArg (List.take (xs.length * 3)) h6
      rw [List.take_take, Nat.min_eq_left (show xs.length * 3 ≤ (xs.length + 1) * 3 by omega), flat3_app, List.take_append_of_le_length (show xs.length * 3 ≤ (flat3 xs).length by omega), List.take_of_length_le (show (flat3 xs).length ≤ xs.length * 3 by omega)] at this
      exact this
    · simpa [Addr.add_lit] using hc _ _ hg.1
    · simpa [Addr.add_lit] using hc _ _ hg.2.1
    · simpa [Addr.add_lit] using hc _ _ hg.2.2
/-- the dependencies of a cached result -/
def depsOf (s : PS) (k : QK) : List QK := ((aget s.es k).map RV.deps).getD []
def DepsPost2 (d : Dm) (key : QK) (w : World) (e : Ending) (w' : World) : Prop :=
  ∃ v bb, e = .returned (.tuple #[v, .bool bb]) ∧ Chg [] w w' ∧ I3s (fun g => w.heap.size ≤ g ∧ g < w'.heap.size) w' v (depsOf d.pl key)
theorem deps2_any (w : World) (b : Nat) (d : Dm) (key : QK) (h : DmAt w b d) (hk : Inp.QKok key) (hl : ∀ r, aget d.pl.es key = some r → r.deps.length ≤ 1000) :
    Calls Try.prog 45 #[.pointer (some ⟨b, 0, none⟩), i3v key] w (DepsPost2 d key w) := by
  refine (dependencies_any w b d key h hk hl).mono ?_
  rintro e w' ⟨v, rfl, hc, hm⟩
  refine ⟨v, _, rfl, hc, ?_⟩
  unfold depsOf
  cases hr : aget d.pl.es key with
  | none =>
    rw [hr] at hm
    simp only at hm
    subst hm
    exact SlR.nil _ _ _ _
  | some r =>
    rw [hr] at hm
    exact hm
theorem eq_nil_or_snoc (P : List QK) : P = [] ∨ ∃ P' x, P = P' ++ [x] := by
  rcases List.eq_nil_or_concat P with h | ⟨P', x, h⟩
  · exact .inl h
  · exact .inr ⟨P', x, by rw [h, List.concat_eq_append]⟩
/-- what Retain's first loop keeps -/
structure RetI (p : Prg) (w0 : World) (K0 : QK) (k : Nat) (pv : Value) (wr : World) (es : List (QK × Int)) (P : List QK) : Prop where
  num : k = (81 - es.length) * 101 + P.length
  top : k ≤ 81 * 101 + 1
  chg : Chg [] w0 wr
  map : MapAt Try.prog 27 Inp.qk wr w0.heap.size (amap (Value.int .i64) es)
  row : wr.ownsRow (w0.heap.size + 1) 27 3 pv P.length (flat3 P)
  size : w0.heap.size + 1 ≤ wr.heap.size
  keysP : ∀ x ∈ P, KeyIn p.inp (p.qs.length : Int) x
  keysE : ∀ q ∈ es, KeyIn p.inp (p.qs.length : Int) q.1 ∧ q.2 = 1
  has : K0 ∈ P ∨ aget es K0 = some 1
theorem RetI.few {p : Prg} (hp : PrgOk p) {w0 : World} {K0 : QK} {k : Nat} {pv : Value} {wr : World} {es : List (QK × Int)} {P : List QK} (h : RetI p w0 K0 k pv wr es P) : es.length ≤ 80 := by
  have hn := h.map.nodup
  have e : (amap (Value.int .i64) es).map (·.1) = es.map (·.1) := by simp [amap]
  rw [e] at hn
  have := keys_few (inp := p.inp) (L := p.qs.length) hp.inp.2 hp.size hn fun k hk => by
    obtain ⟨q, hq, rfl⟩ := List.mem_map.1 hk
    exact (h.keysE q hq).1
  simpa using this
theorem RetI.one {p : Prg} {w0 : World} {K0 : QK} {k : Nat} {pv : Value} {wr : World} {es : List (QK × Int)} {P : List QK} (h : RetI p w0 K0 k pv wr es P) {x : QK} {v : Int} (hx : aget es x = some v) : v = 1 := by
  have := aget_mem hx
  exact (h.keysE _ this).2
/-- a key that is needed already -/
theorem RetI.skip {p : Prg} {w0 : World} {K0 : QK} {k : Nat} {a : Option Addr} {cap : Nat} {wr w1 : World} {es : List (QK × Int)} {P : List QK} {x : QK} {n : Nat} (h : RetI p w0 K0 k (.slice a n cap) wr es (P ++ [x])) (hx : aget es x = some 1) (hc : Chg [] wr w1) :
    RetI p w0 K0 (k - 1) (.slice a P.length cap) w1 es P := by
  obtain ⟨hr, _⟩ := ownsRow_pop3 (x := x) (by have := h.row; obtain ⟨a', c', e⟩ := ownsRow_shape this; simp only [Value.slice.injEq] at e; obtain ⟨rfl, rfl, rfl⟩ := e; simpa using this)
  refine ⟨by have := h.num; simp at this; omega, by have := h.top; omega, h.chg.trans hc, h.map.kept hc (by simp), ownsRow_kept hr fun g hg hl => hc.block g hl (by simp), Nat.le_trans h.size hc.size, fun y hy => h.keysP y (by simp [hy]), h.keysE, ?_⟩
  rcases h.has with h1 | h1
  · rcases List.mem_append.1 h1 with h1 | h1
    · exact .inl h1
    · simp only [List.mem_singleton] at h1
      subst h1
      exact .inr hx
  · exact .inr h1
/-- a key that is needed from now on -/
theorem RetI.push {p : Prg} (hp : PrgOk p) {w0 : World} {K0 : QK} {k : Nat} {pv pv' : Value} {wr w1 : World} {es : List (QK × Int)} {P ds : List QK} {x : QK} (h : RetI p w0 K0 k pv wr es (P ++ [x])) (hx : aget es x = none) (hd : ds.length ≤ 80) (hk : ∀ y ∈ ds, KeyIn p.inp (p.qs.length : Int) y) (hc : Chg [] w0 w1)
    (hm : MapAt Try.prog 27 Inp.qk w1 w0.heap.size (amap (Value.int .i64) (ups es x 1))) (hr : w1.ownsRow (w0.heap.size + 1) 27 3 pv' (P ++ ds).length (flat3 (P ++ ds))) (hz : wr.heap.size ≤ w1.heap.size) :
    RetI p w0 K0 ((81 - (ups es x 1).length) * 101 + (P ++ ds).length) pv' w1 (ups es x 1) (P ++ ds) ∧ (81 - (ups es x 1).length) * 101 + (P ++ ds).length < k := by
  have hf := h.few hp
  have hl : (ups es x (1 : Int)).length = es.length + 1 := by rw [ups_none (aget_none hx)]; simp
  have hn := h.num
  have ht := h.top
  simp only [List.length_append, List.length_singleton] at hn ⊢
  rw [hl]
  refine ⟨⟨by rw [hl]; simp, by omega, hc, hm, hr, Nat.le_trans h.size hz, fun y hy => ?_, fun q hq => ?_, ?_⟩, by omega⟩
  · rcases List.mem_append.1 hy with hy | hy
    · exact h.keysP y (by simp [hy])
    · exact hk y hy
  · rw [ups_none (aget_none hx)] at hq
    rcases List.mem_append.1 hq with hq | hq
    · exact h.keysE q hq
    · simp only [List.mem_singleton] at hq
      subst hq
      exact ⟨h.keysP x (by simp), rfl⟩
  · rw [aget_ups]
    rcases h.has with h1 | h1
    · rcases List.mem_append.1 h1 with h1 | h1
      · exact .inl (by simp [h1])
      · simp only [List.mem_singleton] at h1
        exact .inr (by rw [if_pos h1.symm])
    · refine .inr ?_
      split
      · rfl
      · exact h1
/-- what Retain brings: some results have gone, none of a key that was to be retained -/
def RetainPost (p : Prg) (wb : World) (b : Nat) (K0 : QK) (w : World) (d : Dm) (e : Ending) (w' : World) : Prop :=
  ∃ (zs : List QK) (d' : Dm) (n : Int), K0 ∉ zs ∧ e = .returned (.int .i64 n) ∧ DbF p wb b w' d' ∧ After b w w' d d' ∧ d'.pl = forgetAll d.pl zs
set_option maxRecDepth 100000 in
set_option maxHeartbeats 4000000 in
theorem retain_any {p : Prg} (hp : PrgOk p) {wb : World} {b : Nat} {w : World} {d : Dm} (h : DbF p wb b w d) (hu : UseB d) (kv : Value) (pk : Nat → Prop) (K0 : QK) (hkv : I3s pk w kv [K0]) (hK : KeyIn p.inp (p.qs.length : Int) K0) :
    Calls Try.prog 40 #[.pointer (some ⟨b, 0, none⟩), kv] w (RetainPost p wb b K0 w d) := by
  have hN := es_few hp h.mem h.inv
  have hqk : ∀ k r, aget d.es k = some r → Inp.QKok k := fun k r hr => qryKok ((h.inv.es k r.pl (by rw [Dm.aget_pl, hr]; rfl)).1) hp.size
  have hlt := h.lt
  have hkv1 : I3s pk (w.alloc (.map #[] 0)) kv [K0] := I3s.kept (S := fun _ => False) hkv (((Chg.refl [] w).alloc _).p) (fun _ _ h => h)
  obtain ⟨v1, w1, hrun, hown, hgr⟩ := appKeys (w.alloc (.map #[] 0)) (w.heap.size + 1) (.slice none 0 0) [] (World.ownsRow_nil _ _ _ _) pk kv [K0] hkv1 (by simp) (by simp) (by simp) 53
  have hc1 : Chg [] w w1 := ((Chg.refl [] w).alloc _).grown hgr (by simp [Value.ownBlock])
  have hz1 : w.heap.size + 1 ≤ w1.heap.size := by have := hgr.size; simpa using this
  have hst : RetI p w K0 8182 v1 w1 [] [K0] := ⟨by simp, by omega, hc1, ((MapAt.made Try.prog 27 Inp.qk w).of_block (by
      have hgg : w1.heap[w.heap.size]? = (w.alloc (.map #[] 0)).heap[w.heap.size]? := hgr.block _ (by simp) (by simp [Value.ownBlock])
      exact hgg)), by simpa using hown, hz1, fun x hx => by simp only [List.mem_singleton] at hx; exact hx ▸ hK, fun q hq => by simp at hq, .inl (by simp)⟩
  obtain ⟨ak, ck, rfl, _⟩ := hkv.shape
  have Hst := Lib.hid hst
  have H := Lib.hid h
  have HN := Lib.hid hN
  have Hqk := Lib.hid hqk
  have Hu := Lib.hid hu
  have Hlt := Lib.hid hlt
  clear h hN hqk hu hlt hkv hkv1 hown hgr hc1 hz1 hst hK
  have hmm := @run_makeMap Try.prog
  go_enter Try.func40, Try.ntmps40
  go_wp2_with (at_builtin; refine wpList_append_run rfl _ _ 53 rfl (.slice none 0 0) (.slice ak 1 ck) v1 w1 rfl rfl hrun ?_)
  go_loopg [6] 8182 (fun k pv wr => ∃ es P, RetI p w K0 k pv wr es P)
  case atStart => exact ⟨[], [K0], Hst.out⟩
  case round =>
    obtain ⟨es, P, hr⟩ := hrel
    obtain ⟨av, cv, rfl⟩ := ownsRow_shape hr.row
    have Hr := Lib.hid hr
    have htop := hr.top
    have hnum := hr.num
    have hPl : P.length ≤ 8182 := by omega
    clear hr Hst hnum
    rcases eq_nil_or_snoc P with rfl | ⟨P, x, rfl⟩
    · clear hPl htop
      go_wp2_with fail
      refine (cached_any wr b d (H.out.new Hr.out.chg).mem (by have := HN.out; omega) Hqk.out Hu.out).mono ?_
      rintro e w2 ⟨v2, ks, rfl, hi2, hpm2, hsr2, hc2⟩
      obtain ⟨a2, c2, rfl, hlm2, hlc2⟩ := hi2.shape
      go_wp2_with fail
      have hkl : ks.length ≤ 80 := by
        have h1 := hpm2.length_eq
        rw [List.length_map] at h1
        have := HN.out
        omega
      have hes : aget es K0 = some 1 := by
        rcases Hr.out.has with h | h
        · simp at h
        · exact h
      have hm2 := Hr.out.map.kept hc2 (by simp)
      have hz2 := Nat.le_trans Hr.out.size hc2.size
      have H2 := Lib.hid ((H.out.new Hr.out.chg).new hc2)
      have Hc2 := Lib.hid (Hr.out.chg.trans hc2)
      have Hi2 := Lib.hid hi2
      have Hpm := Lib.hid hpm2
      have Hes := Lib.hid hes
      have Hm2 := Lib.hid hm2
      have Hones := Lib.hid (fun x v (hx : aget es x = some v) => Hr.out.one hx)
      have Hsz := Lib.hid Hr.out.size
      clear hi2 hpm2 hsr2 hc2 hm2 hes
      go_loopw [10, 50] (fun cv jj wr2 => ∃ (k : Nat) (n : Nat) (zs : List QK) (d' : Dm), k ≤ ks.length ∧ n ≤ k ∧ cv = .int .i64 (n : Nat) ∧ jj = .int .i64 (k : Nat) ∧ DbF p wb b wr2 d' ∧ d'.pl = forgetAll d.pl zs ∧ K0 ∉ zs ∧ After b w2 wr2 d d') (fun _ jj _ => ks.length - (intOf jj).toNat)
      case atStart => exact ⟨0, 0, [], d, by omega, by omega, rfl, rfl, H2.out, rfl, by simp, H2.out.aft⟩
      case round =>
        obtain ⟨k, n, zs, d', hk, hn, rfl, rfl, hdb, hpl, hz, haf⟩ := hrel
        have Hdb := Lib.hid hdb
        have Hpl := Lib.hid hpl
        have Haf := Lib.hid haf
        have Hz := Lib.hid hz
        by_cases hlt : k < ks.length
        · have hk1 : (k : Int) < ks.length := by omega
          have hi : I3s (fun _ => True) wr (.slice a2 ks.length c2) ks := (I3s.kept (S := fun x => x ∈ d.muts b) Hi2.out Haf.out.chg fun x hx hm => by have := H.out.mem.lt x hm; have := Hsz.out; omega).imp fun _ _ => trivial
          obtain ⟨g, off, rfl, hgp, r0, r1, r2⟩ := SlR.at hi k hlt (0, 0, 0)
          obtain ⟨key, hkey⟩ : ∃ key, key = ks.getD k (0, 0, 0) := ⟨_, rfl⟩
          rw [← hkey] at r0 r1 r2
          have hmem : key ∈ ks := by rw [hkey]; simp [hlt]
          have hqx : Inp.QKok key := by
            obtain ⟨q, hq, e⟩ := List.mem_map.1 (Hpm.out.mem_iff.1 hmem)
            rw [← e]
            cases hr : aget d.es q.1 with
            | none => exact absurd rfl (aget_none hr q hq)
            | some r => exact Hqk.out _ _ hr
          have Hqx := Lib.hid hqx
          have lg : g < wr.heap.size := lt_of_cell r0
          have hmw : MapAt Try.prog 27 Inp.qk wr w.heap.size (amap (Value.int .i64) es) := Hm2.out.of_block (Haf.out.chg.block _ Hm2.out.lt fun hm => by have := H.out.mem.lt _ hm; omega)
          have Hmw := Lib.hid hmw
          obtain ⟨k1, k2, k3⟩ := key
          simp only at r0 r1 r2
          clear hdb hpl hz haf hi hkey hmem hqx hgp hmw
          go_wp2_with fail
          obtain ⟨wk, hwk⟩ : ∃ y, y = wr.alloc (.cells #[.int .i64 k1, .int .i64 k2, .int .i64 k3] 27) := ⟨_, rfl⟩
          have hck : Chg [] wr wk := by rw [hwk]; exact (Chg.refl [] wr).alloc _
          have hkb : wk.heap[wr.heap.size]? = some (.cells #[.int .i64 k1, .int .i64 k2, .int .i64 k3] 27 (0, 0)) := by rw [hwk]; exact heap_at _ _ _ rfl
          rw [← hwk]
          clear hwk
          have hlk := (Hmw.out.kept hck (by simp)).lookup Inp.qkeyed Inp.qk_inj Try.underlying86 (Inp.qkOk Hqx.out) (int_zero wk) false
          rw [aget_amap] at hlk
          unfold Inp.qk at hlk
          simp only [Bool.false_eq_true, if_false] at hlk
          have Hck := Lib.hid hck
          have e0 : wk.cell? ⟨wr.heap.size, 0, none⟩ = some (.int .i64 k1) := cell_of_heap hkb rfl
          have e1 : wk.cell? ⟨wr.heap.size, 1, none⟩ = some (.int .i64 k2) := cell_of_heap hkb rfl
          have e2 : wk.cell? ⟨wr.heap.size, 2, none⟩ = some (.int .i64 k3) := cell_of_heap hkb rfl
          clear hkb hck r0 r1 r2 lg
          cases hag : aget es (k1, k2, k3) with
          | some v =>
            have hv := Hones.out _ _ hag
            subst hv
            rw [hag] at hlk
            simp only [Option.map_some, Option.getD_some] at hlk
            clear hag
            go_simp
            go_wp2_with fail
            have Hend := Lib.hid (And.intro (Hdb.out.new Hck.out) (Haf.out.new Hck.out))
            clear hlk e0 e1 e2
            go_roundw
            case rel => exact ⟨k + 1, n, zs, d', by omega, by omega, rfl, by go_num, Hend.out.1, Hpl.out, Hz.out, Hend.out.2⟩
            case measure => simp only [intOf]; omega
          | none =>
            rw [hag] at hlk
            simp only [Option.map_none, Option.getD_none] at hlk
            have hne : K0 ≠ (k1, k2, k3) := fun e => by rw [← e, Hes.out] at hag; cases hag
            have Hne := Lib.hid hne
            clear hag hne
            go_simp
            go_wp2_with fail
            refine ((Hdb.out.new Hck.out).forget (k1, k2, k3) Hqx.out).mono ?_
            rintro e w5 ⟨d5, rfl, hd5, ha5, hp5⟩
            have hpl5 : d5.pl = forgetAll d.pl (zs ++ [(k1, k2, k3)]) := by rw [hp5, Hpl.out, forgetAll_append]
            have hz5 : K0 ∉ zs ++ [(k1, k2, k3)] := fun hm => by
              rcases List.mem_append.1 hm with hm | hm
              · exact Hz.out hm
              · exact Hne.out (by simpa using hm)
            have Hend := Lib.hid (And.intro hd5 (And.intro hpl5 (And.intro hz5 ((Haf.out.new Hck.out).trans ha5))))
            obtain ⟨bv, hbv⟩ : ∃ bv, (aget d'.es (k1, k2, k3)).isSome = bv := ⟨_, rfl⟩
            rw [hbv]
            clear hd5 ha5 hp5 hpl5 hz5 hbv hlk e0 e1 e2
            cases bv with
            | true =>
              go_wp2_with fail
              go_roundw
              case rel => exact ⟨k + 1, n + 1, _, d5, by omega, by omega, by go_num, by go_num, Hend.out.1, Hend.out.2.1, Hend.out.2.2.1, Hend.out.2.2.2⟩
              case measure => simp only [intOf]; omega
            | false =>
              go_wp2_with fail
              go_roundw
              case rel => exact ⟨k + 1, n, _, d5, by omega, by omega, rfl, by go_num, Hend.out.1, Hend.out.2.1, Hend.out.2.2.1, Hend.out.2.2.2⟩
              case measure => simp only [intOf]; omega
        · have hk2 : ¬ ((k : Int) < ks.length) := by omega
          clear hdb hpl hz haf
          go_wp2_with fail
          go_ret
          exact ⟨zs, d', n, Hz.out, rfl, Hdb.out, ((H.out.aft).new Hc2.out).trans Haf.out, Hpl.out⟩
    · have hrow := Hr.out.row
      rw [show (P ++ [x]).length = P.length + 1 by simp] at hrow hPl ⊢
      obtain ⟨hrow', g, rfl, r0, r1, r2, hcap, hcm⟩ := ownsRow_pop3 hrow
      unfold maxLen at hcm
      have h1 : (0 : Int) ≤ (P.length : Int) := by omega
      have h2 : (P.length : Int) ≤ cv := by omega
      have h3 : (P.length : Int) < (P.length : Int) + 1 := by omega
      have Hrow := Lib.hid hrow'
      have Hkx := Lib.hid (Hr.out.keysP x (by simp))
      have Hqx := Lib.hid (keyInOk Hkx.out (by have := hp.inp; omega) (by have := hp.size; omega))
      obtain ⟨k1, k2, k3⟩ := x
      simp only at r0 r1 r2
      clear hrow hrow'
      go_wp2_with fail
      obtain ⟨wk, hwk⟩ : ∃ y, y = wr.alloc (.cells #[.int .i64 k1, .int .i64 k2, .int .i64 k3] 27) := ⟨_, rfl⟩
      have hck : Chg [] wr wk := by rw [hwk]; exact (Chg.refl [] wr).alloc _
      have hkb : wk.heap[wr.heap.size]? = some (.cells #[.int .i64 k1, .int .i64 k2, .int .i64 k3] 27 (0, 0)) := by rw [hwk]; exact heap_at _ _ _ rfl
      rw [← hwk]
      clear hwk
      have hlk := (Hr.out.map.kept hck (by simp)).lookup Inp.qkeyed Inp.qk_inj Try.underlying86 (Inp.qkOk Hqx.out) (int_zero wk) false
      rw [aget_amap] at hlk
      unfold Inp.qk at hlk
      simp only [Bool.false_eq_true, if_false] at hlk
      have Hkb := Lib.hid hkb
      have Hck := Lib.hid hck
      have e0 : wk.cell? ⟨wr.heap.size, 0, none⟩ = some (.int .i64 k1) := cell_of_heap hkb rfl
      have e1 : wk.cell? ⟨wr.heap.size, 1, none⟩ = some (.int .i64 k2) := cell_of_heap hkb rfl
      have e2 : wk.cell? ⟨wr.heap.size, 2, none⟩ = some (.int .i64 k3) := cell_of_heap hkb rfl
      clear hkb hck r0 r1 r2
      cases hag : aget es (k1, k2, k3) with
      | some v =>
        have hv := Hr.out.one hag
        subst hv
        rw [hag] at hlk
        simp only [Option.map_some, Option.getD_some] at hlk
        have Hag := Lib.hid hag
        clear hag
        go_simp
        go_wp2_with fail
        have hs := Hr.out.skip Hag.out Hck.out
        have hpos : gk - 1 < gk := by
          have := Hr.out.num
          simp only [List.length_append, List.length_singleton] at this
          omega
        clear hlk e0 e1 e2
        go_roundg (gk - 1)
        case measure => exact hpos
        case rel => exact ⟨es, P, hs⟩
      | none =>
        rw [hag] at hlk
        simp only [Option.map_none, Option.getD_none] at hlk
        obtain ⟨o, hupd, hmap⟩ := (Hr.out.map.kept Hck.out (by simp)).update Inp.qkeyed Inp.qk_inj Try.underlying86 (Inp.qkOk Hqx.out) (.int .i64 1)
        rw [ups_amap] at hmap
        unfold Inp.qk at hupd
        have hne : wr.heap.size ≠ w.heap.size := by have := Hr.out.size; omega
        obtain ⟨wu, hwu⟩ : ∃ y, y = setBlock wk w.heap.size o := ⟨_, rfl⟩
        rw [← hwu] at hupd hmap
        have hcu : ChgP (fun g => g = w.heap.size) wk wu := by rw [hwu]; exact (ChgP.refl (fun g => g = w.heap.size) wk).setBlock (Or.inl rfl) o
        have hku := (hcu.block _ (lt_of_obj Hkb.out) hne).trans Hkb.out
        have f0 : wu.cell? ⟨wr.heap.size, 0, none⟩ = some (.int .i64 k1) := cell_of_heap hku rfl
        have f1 : wu.cell? ⟨wr.heap.size, 1, none⟩ = some (.int .i64 k2) := cell_of_heap hku rfl
        have f2 : wu.cell? ⟨wr.heap.size, 2, none⟩ = some (.int .i64 k3) := cell_of_heap hku rfl
        have Hcu := Lib.hid hcu
        clear hwu hcu hku hne
        have Hag := Lib.hid hag
        have Hmap := Lib.hid hmap
        clear hag hmap
        have hcw : Chg [] w wu := ChgP.toL (((Hr.out.chg.trans Hck.out).p (S := fun g => g ∈ ([] : List Nat))).comp Hcu.out fun g hg => Or.inr (by omega))
        have Hcw := Lib.hid hcw
        have hdl : ∀ r, aget d.pl.es (k1, k2, k3) = some r → (r.deps.length ≤ 80 ∧ ∀ y ∈ r.deps, KeyIn p.inp (p.qs.length : Int) y) := fun r hr => by
          obtain ⟨hq1, _, hq2, hq3⟩ := H.out.inv.es _ _ hr
          have hin : ∀ y ∈ r.deps, KeyIn p.inp (p.qs.length : Int) y := fun y hy => by
            rcases hq2 y hy with h | ⟨h1, h2, h3, h4⟩
            · exact .inl h
            · have := hq1.2.2.1
              exact .inr ⟨h1, h2, by omega, h4⟩
          exact ⟨keys_few hp.inp.2 hp.size hq3 hin, hin⟩
        have hdo : (depsOf d.pl (k1, k2, k3)).length ≤ 80 ∧ ∀ y ∈ depsOf d.pl (k1, k2, k3), KeyIn p.inp (p.qs.length : Int) y := by
          unfold depsOf
          cases hr : aget d.pl.es (k1, k2, k3) with
          | none => simp
          | some r => exact hdl r hr
        have Hdl := Lib.hid hdl
        have Hdo := Lib.hid hdo
        clear hcw hdl hdo
        go_wp2_with fail
        refine (deps2_any wu b d (k1, k2, k3) (H.out.new Hcw.out).mem Hqx.out (fun r hr => by have := (Hdl.out r hr).1; omega)).mono ?_
        rintro e w3 ⟨v3, bb, rfl, hc3, hi3⟩
        have hrow3 : w3.ownsRow (w.heap.size + 1) 27 3 (.slice (some ⟨g, 0, none⟩) P.length cv) P.length (flat3 P) := by
          refine ownsRow_kept (ownsRow_kept (ownsRow_kept Hrow.out fun g hg hl => Hck.out.block g hl (by simp)) fun g' hg hl => Hcu.out.block g' hl (fun e => ?_)) fun g hg hl => hc3.block g hl (by simp)
          have := (ownsRow_ge Hrow.out hg).1
          omega
        have hz3 : wr.heap.size ≤ w3.heap.size := Nat.le_trans Hck.out.size (Nat.le_trans Hcu.out.size hc3.size)
        obtain ⟨v4, w4, happ, hown4, hgr4⟩ := appKeys w3 (w.heap.size + 1) (.slice (some ⟨g, 0, none⟩) P.length cv) P hrow3 _ v3 (depsOf d.pl (k1, k2, k3)) hi3 (by omega) (by have := Hdo.out.1; omega) (by have := Hr.out.size; omega) 53
        have hgr4' : ChgP (fun x => w.heap.size + 1 ≤ x) w3 w4 := (ChgP.refl (fun x => w.heap.size + 1 ≤ x) w3).grown hgr4 fun k hk => Or.inl (ownsRow_ge hrow3 hk).1
        have hpush := Hr.out.push hp Hag.out Hdo.out.1 Hdo.out.2 (ChgP.toL (((Hcw.out.trans hc3).p (S := fun g => g ∈ ([] : List Nat))).comp hgr4' fun g hg => Or.inr (by omega)))
          ((Hmap.out.kept hc3 (by simp)).of_block (hgr4'.block _ (by have := Hr.out.size; omega) (by omega))) hown4 (Nat.le_trans hz3 hgr4'.size)
        have Hpush := Lib.hid hpush
        obtain ⟨a3, n3, c3, rfl⟩ : ∃ a n c, v3 = .slice a n c := by obtain ⟨a, c, e, _⟩ := hi3.shape; exact ⟨a, _, c, e⟩
        clear hlk e0 e1 e2 f0 f1 f2 hupd hc3 hi3 hrow3 hz3 hown4 hgr4 hgr4' hpush
        go_wp2_with (at_builtin; refine wpList_append_run rfl _ _ 53 rfl (.slice (some ⟨g, 0, none⟩) P.length cv) (.slice a3 n3 c3) v4 w4 rfl rfl happ ?_)
        clear happ
        go_roundg ((81 - (ups es (k1, k2, k3) (1 : Int)).length) * 101 + (P ++ depsOf d.pl (k1, k2, k3)).length)
        case measure => exact Hpush.out.2
        case rel => exact ⟨_, _, Hpush.out.1⟩
end Go.Proofs.Ytdeodcomlakpaaa
