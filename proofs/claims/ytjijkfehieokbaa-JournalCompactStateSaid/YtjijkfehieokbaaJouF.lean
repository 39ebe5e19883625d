/- The contract of written: the journal of the first twelve records, and the valid ones. -/
import Derived.Test.YtjijkfehieokbaaJouE
namespace Go.Proofs.Ytjijkfehieokbaa
open Go.RowKit
set_option linter.unusedVariables false
theorem logOf_snoc (rs : List Rec) (r : Rec) : logOf (rs ++ [r]) = logOf rs ++ r.frame := by simp [logOf]
/-- what written leaves -/
def WrittenPost (w : World) (e : Ending) (w' : World) : Prop :=
  Chg [] w w' ∧ ∃ (rs : List Rec) (v : Value), e = .returned (.tuple #[.string (bs (logOf rs)), v]) ∧ OwnRecs w' w.heap.size v rs ∧ rs.length ≤ 12 ∧ (logOf rs).length ≤ 40000 ∧ ∀ r ∈ rs, r.ok
def WrRel (N : Nat) (w : World) (l v i : Value) (wr : World) : Prop := ∃ (rs : List Rec) (k : Nat), k ≤ N ∧ rs.length ≤ k ∧ i = .int .i64 (k : Nat) ∧ l = .string (bs (logOf rs)) ∧ OwnRecs wr w.heap.size v rs ∧ (logOf rs).length ≤ 40000 ∧ (∀ r ∈ rs, r.ok) ∧ Chg [] w wr
set_option maxRecDepth 100000 in
set_option maxHeartbeats 2000000 in
theorem written_few (w : World) (g off cap n : Nat) (rl : List Rec) (hn : n ≤ cap) (hcap : cap ≤ maxLen) (hle : n ≤ 12) (h1 : ∀ i, i < n → w.cell? ⟨g, off + i * 3, none⟩ = some (.string (rl.getD i Rec.zero).key) ∧ w.cell? ⟨g, off + i * 3 + 1, none⟩ = some (.string (rl.getD i Rec.zero).val) ∧ w.cell? ⟨g, off + i * 3 + 2, none⟩ = some (.bool (rl.getD i Rec.zero).del)) :
    Calls Try.prog 9 #[.slice (some ⟨g, off, none⟩) n cap] w (WrittenPost w) := by
  obtain ⟨i0, hi, hz0, hz1, hz2⟩ := info_parts Try.infoRec
  have Hi0 := Lib.hid hi
  have Hz0 := Lib.hid hz0
  have Hz1 := Lib.hid hz1
  have Hz2 := Lib.hid hz2
  clear hi hz0 hz1 hz2
  have H1 := Lib.hid h1
  clear h1
  unfold maxLen at hcap
  go_enter Try.func9, Try.ntmps9
  go_wp2
  go_loopw [4, 5, 16] (fun l v i wr => WrRel n w l v i wr) (fun _ _ i _ => n - (intOf i).toNat)
  case atStart => exact ⟨[], 0, by omega, by simp, rfl, rfl, OwnRecs.nil _ _, by simp [logOf], by simp, Chg.refl _ _⟩
  case round =>
    obtain ⟨rs, k, hk, hrk, rfl, rfl, hown, hlen, hok, hcw⟩ := hrel
    have Hown := Lib.hid hown
    have Hok := Lib.hid hok
    clear hown hok
    by_cases hlt : k < n
    · obtain ⟨q0, q1, q2⟩ := H1.out k hlt
      have lg := lt_of_cell q0
      replace q0 := (hcw.cell lg (by simp)).trans q0
      replace q1 := (hcw.cell (p := ⟨g, off + k * 3 + 1, none⟩) lg (by simp)).trans q1
      replace q2 := (hcw.cell (p := ⟨g, off + k * 3 + 2, none⟩) lg (by simp)).trans q2
      generalize (rl.getD k Rec.zero).key = key at q0
      generalize (rl.getD k Rec.zero).val = val at q1
      generalize (rl.getD k Rec.zero).del = del at q2
      have lg' := lt_of_cell q0
      have hzs : (bs (logOf rs)).size = (logOf rs).length := bs_size _
      have hk0 : (0 : Int) ≤ k := by omega
      have hk1 : (k : Int) < n := by omega
      have hap : (appendL (bs (logOf rs)).data.toList ⟨key, val, del⟩).2 = 0 → (appendL (bs (logOf rs)).data.toList ⟨key, val, del⟩).1 = logOf (rs ++ [⟨key, val, del⟩]) ∧ (logOf (rs ++ [⟨key, val, del⟩])).length ≤ 40000 ∧ Rec.ok ⟨key, val, del⟩ := by
        rw [bs_data, logOf_snoc, List.length_append]
        unfold appendL
        by_cases hne : Rec.err ⟨key, val, del⟩ ≠ 0
        · rw [if_pos hne]; intro h; exact absurd h hne
        · rw [if_neg hne]
          split
          · intro h; simp at h
          · intro _
            refine ⟨rfl, by omega, ?_⟩
            exact Classical.not_not.1 hne
      have hsz1 := hcw.size
      have hfr1 : wr.heap.size < wr.heap.size + 1 := by omega
      go_wp2_with fail
      refine (append_any _ ⟨key, val, del⟩ _ (by omega)).mono ?_
      rintro e w1 ⟨rfl, c1⟩
      have hcl : ∀ j u, (#[Value.string key, .string val, .bool del] : Array Value).toList[j]? = some u → w1.cell? ((⟨wr.heap.size, 0, none⟩ : Addr).add j) = some u := fun j u hu => by
        rw [c1.cell (by simp [Addr.add_lit]) (by simp)]
        exact news_of (heap_at _ _ _ rfl) j u hu
      have k0 := hcl 0 _ rfl
      have k1 := hcl 1 _ rfl
      have k2 := hcl 2 _ rfl
      simp only [Addr.add_lit, Nat.zero_add] at k0 k1 k2
      have hcw1 : Chg [] w w1 := (hcw.alloc _).new c1
      have hown1 := (Hown.out.same ((Chg.refl [] wr).alloc (.cells #[.string key, .string val, .bool del] 31))).same c1
      have Hown1 := Lib.hid hown1
      clear hown1 hcl
      generalize appendL (bs (logOf rs)).data.toList ⟨key, val, del⟩ = q at hap ⊢
      obtain ⟨nl, er⟩ := q
      simp only at hap ⊢
      have hzw : w.heap.size ≤ w1.heap.size := hcw1.size
      have lg1 := lt_of_cell k0
      by_cases he : er = 0
      · obtain ⟨rfl, hl2, hok2⟩ := hap he
        subst he
        have Hl2 := Lib.hid hl2
        have Hok2 := Lib.hid hok2
        clear hap hl2 hok2
        go_wp2_with (at_builtin; refine wpList_append_own _ rfl _ _ 22 rfl w.heap.size 31 i0 (.agg #[.string ⟨#[]⟩, .string ⟨#[]⟩, .bool false]) 3 40 Try.underlying22 Hi0.out Hz0.out Hz1.out Hz2.out rfl (by decide) u5 rs.length (recVals rs) rfl (World.ownsRow.alloc Hown1.out _) ⟨w1.heap.size, 0, none⟩ 1 1 [.string key, .string val, .bool del] rfl rfl (news_of (heap_at _ _ _ rfl)) (by simp [Value.oneCell']) (by unfold maxLen; omega) (by omega) (by simp; omega) ?_; intro v8 w8 hown8 hgr8 _)
        have hap := own_chg (World.ownsRow.alloc Hown1.out (.cells #[.string key, .string val, .bool del] 31)) hgr8
        have hcw8 : Chg [] w w8 := (hcw1.alloc _).comp hap.1 (fun g hg => Or.inr (hap.2 g hg))
        have hO : OwnRecs w8 w.heap.size v8 (rs ++ [⟨key, val, del⟩]) := by
          unfold OwnRecs
          rw [recVals_snoc, List.length_append]
          exact hown8
        have HO := Lib.hid hO
        clear hown8 hgr8 hap hO
        go_wp2
        exact ⟨⟨rs ++ [⟨key, val, del⟩], k + 1, by omega, by simp; omega, by go_num, rfl, HO.out, Hl2.out, fun r hr => by rcases List.mem_append.1 hr with h | h; exact Hok.out r h; rw [List.mem_singleton.1 h]; exact Hok2.out, hcw8⟩, by simp [intOf]; omega⟩
      · have heb : (er == 0) = false := by simpa using he
        clear hap
        go_wp2
        exact ⟨⟨rs, k + 1, by omega, by omega, by go_num, rfl, Hown1.out, hlen, Hok.out, hcw1⟩, by simp [intOf]; omega⟩
    · go_wp2
      obtain rfl : k = n := by omega
      go_ret2
      exact ⟨hcw, rs, u5, rfl, Hown.out, by omega, hlen, Hok.out⟩
set_option maxRecDepth 100000 in
set_option maxHeartbeats 2000000 in
theorem written_many (w : World) (g off cap n : Nat) (rl : List Rec) (hn : n ≤ cap) (hcap : cap ≤ maxLen) (hgt : 12 < n) (h1 : ∀ i, i < 12 → w.cell? ⟨g, off + i * 3, none⟩ = some (.string (rl.getD i Rec.zero).key) ∧ w.cell? ⟨g, off + i * 3 + 1, none⟩ = some (.string (rl.getD i Rec.zero).val) ∧ w.cell? ⟨g, off + i * 3 + 2, none⟩ = some (.bool (rl.getD i Rec.zero).del)) :
    Calls Try.prog 9 #[.slice (some ⟨g, off, none⟩) n cap] w (WrittenPost w) := by
  obtain ⟨i0, hi, hz0, hz1, hz2⟩ := info_parts Try.infoRec
  have Hi0 := Lib.hid hi
  have Hz0 := Lib.hid hz0
  have Hz1 := Lib.hid hz1
  have Hz2 := Lib.hid hz2
  clear hi hz0 hz1 hz2
  have H1 := Lib.hid h1
  clear h1
  unfold maxLen at hcap
  go_enter Try.func9, Try.ntmps9
  go_wp2
  go_loopw [4, 5, 16] (fun l v i wr => WrRel 12 w l v i wr) (fun _ _ i _ => 12 - (intOf i).toNat)
  case atStart => exact ⟨[], 0, by omega, by simp, rfl, rfl, OwnRecs.nil _ _, by simp [logOf], by simp, Chg.refl _ _⟩
  case round =>
    obtain ⟨rs, k, hk, hrk, rfl, rfl, hown, hlen, hok, hcw⟩ := hrel
    have Hown := Lib.hid hown
    have Hok := Lib.hid hok
    clear hown hok
    by_cases hlt : k < 12
    · obtain ⟨q0, q1, q2⟩ := H1.out k hlt
      have lg := lt_of_cell q0
      replace q0 := (hcw.cell lg (by simp)).trans q0
      replace q1 := (hcw.cell (p := ⟨g, off + k * 3 + 1, none⟩) lg (by simp)).trans q1
      replace q2 := (hcw.cell (p := ⟨g, off + k * 3 + 2, none⟩) lg (by simp)).trans q2
      generalize (rl.getD k Rec.zero).key = key at q0
      generalize (rl.getD k Rec.zero).val = val at q1
      generalize (rl.getD k Rec.zero).del = del at q2
      have lg' := lt_of_cell q0
      have hzs : (bs (logOf rs)).size = (logOf rs).length := bs_size _
      have hk0 : (0 : Int) ≤ k := by omega
      have hk1 : (k : Int) < 12 := by omega
      have hap : (appendL (bs (logOf rs)).data.toList ⟨key, val, del⟩).2 = 0 → (appendL (bs (logOf rs)).data.toList ⟨key, val, del⟩).1 = logOf (rs ++ [⟨key, val, del⟩]) ∧ (logOf (rs ++ [⟨key, val, del⟩])).length ≤ 40000 ∧ Rec.ok ⟨key, val, del⟩ := by
        rw [bs_data, logOf_snoc, List.length_append]
        unfold appendL
        by_cases hne : Rec.err ⟨key, val, del⟩ ≠ 0
        · rw [if_pos hne]; intro h; exact absurd h hne
        · rw [if_neg hne]
          split
          · intro h; simp at h
          · intro _
            refine ⟨rfl, by omega, ?_⟩
            exact Classical.not_not.1 hne
      have hsz1 := hcw.size
      have hfr1 : wr.heap.size < wr.heap.size + 1 := by omega
      go_wp2_with fail
      refine (append_any _ ⟨key, val, del⟩ _ (by omega)).mono ?_
      rintro e w1 ⟨rfl, c1⟩
      have hcl : ∀ j u, (#[Value.string key, .string val, .bool del] : Array Value).toList[j]? = some u → w1.cell? ((⟨wr.heap.size, 0, none⟩ : Addr).add j) = some u := fun j u hu => by
        rw [c1.cell (by simp [Addr.add_lit]) (by simp)]
        exact news_of (heap_at _ _ _ rfl) j u hu
      have k0 := hcl 0 _ rfl
      have k1 := hcl 1 _ rfl
      have k2 := hcl 2 _ rfl
      simp only [Addr.add_lit, Nat.zero_add] at k0 k1 k2
      have hcw1 : Chg [] w w1 := (hcw.alloc _).new c1
      have hown1 := (Hown.out.same ((Chg.refl [] wr).alloc (.cells #[.string key, .string val, .bool del] 31))).same c1
      have Hown1 := Lib.hid hown1
      clear hown1 hcl
      generalize appendL (bs (logOf rs)).data.toList ⟨key, val, del⟩ = q at hap ⊢
      obtain ⟨nl, er⟩ := q
      simp only at hap ⊢
      have hzw : w.heap.size ≤ w1.heap.size := hcw1.size
      have lg1 := lt_of_cell k0
      by_cases he : er = 0
      · obtain ⟨rfl, hl2, hok2⟩ := hap he
        subst he
        have Hl2 := Lib.hid hl2
        have Hok2 := Lib.hid hok2
        clear hap hl2 hok2
        go_wp2_with (at_builtin; refine wpList_append_own _ rfl _ _ 22 rfl w.heap.size 31 i0 (.agg #[.string ⟨#[]⟩, .string ⟨#[]⟩, .bool false]) 3 40 Try.underlying22 Hi0.out Hz0.out Hz1.out Hz2.out rfl (by decide) u5 rs.length (recVals rs) rfl (World.ownsRow.alloc Hown1.out _) ⟨w1.heap.size, 0, none⟩ 1 1 [.string key, .string val, .bool del] rfl rfl (news_of (heap_at _ _ _ rfl)) (by simp [Value.oneCell']) (by unfold maxLen; omega) (by omega) (by simp; omega) ?_; intro v8 w8 hown8 hgr8 _)
        have hap := own_chg (World.ownsRow.alloc Hown1.out (.cells #[.string key, .string val, .bool del] 31)) hgr8
        have hcw8 : Chg [] w w8 := (hcw1.alloc _).comp hap.1 (fun g hg => Or.inr (hap.2 g hg))
        have hO : OwnRecs w8 w.heap.size v8 (rs ++ [⟨key, val, del⟩]) := by
          unfold OwnRecs
          rw [recVals_snoc, List.length_append]
          exact hown8
        have HO := Lib.hid hO
        clear hown8 hgr8 hap hO
        go_wp2
        exact ⟨⟨rs ++ [⟨key, val, del⟩], k + 1, by omega, by simp; omega, by go_num, rfl, HO.out, Hl2.out, fun r hr => by rcases List.mem_append.1 hr with h | h; exact Hok.out r h; rw [List.mem_singleton.1 h]; exact Hok2.out, hcw8⟩, by simp [intOf]; omega⟩
      · have heb : (er == 0) = false := by simpa using he
        clear hap
        go_wp2
        exact ⟨⟨rs, k + 1, by omega, by omega, by go_num, rfl, Hown1.out, hlen, Hok.out, hcw1⟩, by simp [intOf]; omega⟩
    · go_wp2
      obtain rfl : k = 12 := by omega
      go_ret2
      exact ⟨hcw, rs, u5, rfl, Hown.out, by omega, hlen, Hok.out⟩
set_option maxRecDepth 100000 in
set_option maxHeartbeats 2000000 in
theorem written_zero (w : World) (a : Addr) (cap : Nat) :
    Calls Try.prog 9 #[.slice (some a) 0 cap] w (WrittenPost w) := by
  obtain ⟨i0, hi, hz0, hz1, hz2⟩ := info_parts Try.infoRec
  have Hi0 := Lib.hid hi
  have Hz0 := Lib.hid hz0
  have Hz1 := Lib.hid hz1
  have Hz2 := Lib.hid hz2
  clear hi hz0 hz1 hz2
  go_enter Try.func9, Try.ntmps9
  go_wp2
  go_loopw [4, 5, 16] (fun l v i wr => WrRel 0 w l v i wr) (fun _ _ i _ => 0 - (intOf i).toNat)
  case atStart => exact ⟨[], 0, by omega, by simp, rfl, rfl, OwnRecs.nil _ _, by simp [logOf], by simp, Chg.refl _ _⟩
  case round =>
    obtain ⟨rs, k, hk, hrk, rfl, rfl, hown, hlen, hok, hcw⟩ := hrel
    have Hown := Lib.hid hown
    have Hok := Lib.hid hok
    clear hown hok
    go_wp2
    obtain rfl : k = 0 := by omega
    go_ret2
    exact ⟨hcw, rs, u5, rfl, Hown.out, by omega, hlen, Hok.out⟩
set_option maxRecDepth 100000 in
set_option maxHeartbeats 2000000 in
theorem written_nil (w : World)  :
    Calls Try.prog 9 #[.slice none 0 0] w (WrittenPost w) := by
  obtain ⟨i0, hi, hz0, hz1, hz2⟩ := info_parts Try.infoRec
  have Hi0 := Lib.hid hi
  have Hz0 := Lib.hid hz0
  have Hz1 := Lib.hid hz1
  have Hz2 := Lib.hid hz2
  clear hi hz0 hz1 hz2
  go_enter Try.func9, Try.ntmps9
  go_wp2
  go_loopw [4, 5, 16] (fun l v i wr => WrRel 0 w l v i wr) (fun _ _ i _ => 0 - (intOf i).toNat)
  case atStart => exact ⟨[], 0, by omega, by simp, rfl, rfl, OwnRecs.nil _ _, by simp [logOf], by simp, Chg.refl _ _⟩
  case round =>
    obtain ⟨rs, k, hk, hrk, rfl, rfl, hown, hlen, hok, hcw⟩ := hrel
    have Hown := Lib.hid hown
    have Hok := Lib.hid hok
    clear hown hok
    go_wp2
    obtain rfl : k = 0 := by omega
    go_ret2
    exact ⟨hcw, rs, u5, rfl, Hown.out, by omega, hlen, Hok.out⟩
/-- a slice of records as an argument -/
def RecsAt (w : World) (v : Value) (rs : List Rec) : Prop :=
  (v = .slice none 0 0 ∧ rs = []) ∨ (∃ a cap, v = .slice (some a) 0 cap ∧ rs = []) ∨ ∃ g off cap, v = .slice (some ⟨g, off, none⟩) rs.length cap ∧ rs.length ≤ cap ∧ cap ≤ maxLen ∧
    ∀ i, i < rs.length → w.cell? ⟨g, off + i * 3, none⟩ = some (.string (rs.getD i Rec.zero).key) ∧ w.cell? ⟨g, off + i * 3 + 1, none⟩ = some (.string (rs.getD i Rec.zero).val) ∧ w.cell? ⟨g, off + i * 3 + 2, none⟩ = some (.bool (rs.getD i Rec.zero).del)
theorem RecsAt.same {w w' : World} {v : Value} {rs : List Rec} (h : RecsAt w v rs) (hc : Chg [] w w') : RecsAt w' v rs := by
  rcases h with h | h | ⟨g, off, cap, h1, h2, h3, h4⟩
  · exact Or.inl h
  · exact Or.inr (Or.inl h)
  · refine Or.inr (Or.inr ⟨g, off, cap, h1, h2, h3, fun i hi => ?_⟩)
    obtain ⟨q0, q1, q2⟩ := h4 i hi
    have lg := lt_of_cell q0
    exact ⟨(hc.cell lg (by simp)).trans q0, (hc.cell (p := ⟨g, off + i * 3 + 1, none⟩) lg (by simp)).trans q1, (hc.cell (p := ⟨g, off + i * 3 + 2, none⟩) lg (by simp)).trans q2⟩
theorem written_any (w : World) (v : Value) (rs : List Rec) (h : RecsAt w v rs) : Calls Try.prog 9 #[v] w (WrittenPost w) := by
  rcases h with ⟨rfl, _⟩ | ⟨a, cap, rfl, _⟩ | ⟨g, off, cap, rfl, h1, h2, h3⟩
  · exact written_nil w
  · exact written_zero w a cap
  · by_cases hle : rs.length ≤ 12
    · exact written_few w g off cap _ rs h1 h2 hle h3
    · exact written_many w g off cap _ rs h1 h2 (by omega) (fun i hi => h3 i (by omega))
end Go.Proofs.Ytjijkfehieokbaa
