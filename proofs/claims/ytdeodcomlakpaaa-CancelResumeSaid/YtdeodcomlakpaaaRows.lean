/-
  No cell of these rows narrows 'for every input' (looked for: loops, veiled, ifaces, maps, wideKeys, modest, calm, conditions, laid).
  DERIVED. THE GIVEN ROWS OF THIS SEAT. 11 by the template 'for every input the law returns true; each argument reads behind the call as it read before'; 0 by the template 'total and deterministic' (their statements: YtdeodcomlakpaaaTotals.lean).
  GIVEN WITH THE SEED: the statements are not yours to turn. If you find one false, say at which input.
  Laid BY PROGRAM, IN A SANDBOX (cutbox-rows.mjs): the forced cells as the released guide's own fill.sh prints them over the translation 4eea6edf265bd780… (all of the seat's roots in one cut). By AI agents, Wed Nov 11 2026. No macro, syntax, notation, axiom, sorry.
-/
import Derived.Test.YtdeodcomlakpaaaChecked
import GoSem.Claim
import GoSem.ClaimJoined
import GoSem.ClaimMapViews
import Derived.JoinedTies
import Derived.KernelRfl
namespace Go.Proofs.Ytdeodcomlakpaaa
/- THE CELL 'sum', in the pinned program and in every row, IS THE sha256 OF THE DUMP (.gsa) THAT YtdeodcomlakpaaaProg.lean LOADS. Nothing in Lean hashes anything: it is a label: what it is worth is what the hold of that sum in a sandbox is worth. -/
noncomputable def Try.pinned : Pinned := { name := "ytdeodcomlakpaaa", sum := "4eea6edf265bd78098c36fb15ea7fff15e0f5cf87a7f9d2bd3cb164cfa94a1a2", checked := Try.checked }
namespace Rows
def none {H : Type} : Left H := { results := [], args := [] }

/-- 'glossatorkeep3.MemoCycle': WHATEVER THE INPUT: true; the input reads as it did. -/
def memoCycleSpec : ChangeSpec := { name := "memoCycle", fn := fun _ => fun
  | [d1, d2] => { results := [.lit (.bool true)], args := [d1, d2] }
  | _ => none }
def memoCycleRow : OpenClaim := { program := "ytdeodcomlakpaaa", sum := "4eea6edf265bd78098c36fb15ea7fff15e0f5cf87a7f9d2bd3cb164cfa94a1a2", func := "glossator/glossatorkeep3.MemoCycle", spec := "memoCycle", unfollowed := true, recurses := true, plainKeys := false, apart := false }
def MemoCycleSaid : Prop := memoCycleRow.holds Try.pinned (OpenSpec.ofChange memoCycleSpec)

/-- ITS FALSE NEIGHBOUR: 'it returns false'. Refute it at one input. -/
def memoCycleWrong : ChangeSpec := { name := "memoCycle", fn := fun _ => fun
  | [d1, d2] => { results := [.lit (.bool false)], args := [d1, d2] }
  | _ => none }
def MemoCycleWrongFalsely : Prop := memoCycleRow.holds Try.pinned (OpenSpec.ofChange memoCycleWrong)

/-- 'glossatorkeep3.MemoUnrelatedChange': WHATEVER THE INPUT: true; the input reads as it did. -/
def memoUnrelatedChangeSpec : ChangeSpec := { name := "memoUnrelatedChange", fn := fun _ => fun
  | [d1, d2, d3, d4, d5] => { results := [.lit (.bool true)], args := [d1, d2, d3, d4, d5] }
  | _ => none }
def memoUnrelatedChangeRow : OpenClaim := { program := "ytdeodcomlakpaaa", sum := "4eea6edf265bd78098c36fb15ea7fff15e0f5cf87a7f9d2bd3cb164cfa94a1a2", func := "glossator/glossatorkeep3.MemoUnrelatedChange", spec := "memoUnrelatedChange", unfollowed := true, recurses := true, plainKeys := false, apart := false }
def MemoUnrelatedChangeSaid : Prop := memoUnrelatedChangeRow.holds Try.pinned (OpenSpec.ofChange memoUnrelatedChangeSpec)

/-- ITS FALSE NEIGHBOUR: 'it returns false'. Refute it at one input. -/
def memoUnrelatedChangeWrong : ChangeSpec := { name := "memoUnrelatedChange", fn := fun _ => fun
  | [d1, d2, d3, d4, d5] => { results := [.lit (.bool false)], args := [d1, d2, d3, d4, d5] }
  | _ => none }
def MemoUnrelatedChangeWrongFalsely : Prop := memoUnrelatedChangeRow.holds Try.pinned (OpenSpec.ofChange memoUnrelatedChangeWrong)

/-- 'glossatorkeep3.MemoEarlyCutoff': WHATEVER THE INPUT: true; the input reads as it did. -/
def memoEarlyCutoffSpec : ChangeSpec := { name := "memoEarlyCutoff", fn := fun _ => fun
  | [d1, d2, d3, d4, d5] => { results := [.lit (.bool true)], args := [d1, d2, d3, d4, d5] }
  | _ => none }
def memoEarlyCutoffRow : OpenClaim := { program := "ytdeodcomlakpaaa", sum := "4eea6edf265bd78098c36fb15ea7fff15e0f5cf87a7f9d2bd3cb164cfa94a1a2", func := "glossator/glossatorkeep3.MemoEarlyCutoff", spec := "memoEarlyCutoff", unfollowed := true, recurses := true, plainKeys := false, apart := false }
def MemoEarlyCutoffSaid : Prop := memoEarlyCutoffRow.holds Try.pinned (OpenSpec.ofChange memoEarlyCutoffSpec)

/-- ITS FALSE NEIGHBOUR: 'it returns false'. Refute it at one input. -/
def memoEarlyCutoffWrong : ChangeSpec := { name := "memoEarlyCutoff", fn := fun _ => fun
  | [d1, d2, d3, d4, d5] => { results := [.lit (.bool false)], args := [d1, d2, d3, d4, d5] }
  | _ => none }
def MemoEarlyCutoffWrongFalsely : Prop := memoEarlyCutoffRow.holds Try.pinned (OpenSpec.ofChange memoEarlyCutoffWrong)

/-- 'glossatorkeep3.MemoRepeatedGet': WHATEVER THE INPUT: true; the input reads as it did. -/
def memoRepeatedGetSpec : ChangeSpec := { name := "memoRepeatedGet", fn := fun _ => fun
  | [d1, d2, d3] => { results := [.lit (.bool true)], args := [d1, d2, d3] }
  | _ => none }
def memoRepeatedGetRow : OpenClaim := { program := "ytdeodcomlakpaaa", sum := "4eea6edf265bd78098c36fb15ea7fff15e0f5cf87a7f9d2bd3cb164cfa94a1a2", func := "glossator/glossatorkeep3.MemoRepeatedGet", spec := "memoRepeatedGet", unfollowed := true, recurses := true, plainKeys := false, apart := false }
def MemoRepeatedGetSaid : Prop := memoRepeatedGetRow.holds Try.pinned (OpenSpec.ofChange memoRepeatedGetSpec)

/-- ITS FALSE NEIGHBOUR: 'it returns false'. Refute it at one input. -/
def memoRepeatedGetWrong : ChangeSpec := { name := "memoRepeatedGet", fn := fun _ => fun
  | [d1, d2, d3] => { results := [.lit (.bool false)], args := [d1, d2, d3] }
  | _ => none }
def MemoRepeatedGetWrongFalsely : Prop := memoRepeatedGetRow.holds Try.pinned (OpenSpec.ofChange memoRepeatedGetWrong)

/-- 'glossatorkeep3.CancelToken': WHATEVER THE INPUT: true; the input reads as it did. -/
def cancelTokenSpec : ChangeSpec := { name := "cancelToken", fn := fun _ => fun
  | [d1, d2, d3] => { results := [.lit (.bool true)], args := [d1, d2, d3] }
  | _ => none }
def cancelTokenRow : OpenClaim := { program := "ytdeodcomlakpaaa", sum := "4eea6edf265bd78098c36fb15ea7fff15e0f5cf87a7f9d2bd3cb164cfa94a1a2", func := "glossator/glossatorkeep3.CancelToken", spec := "cancelToken", inPlace := ["sync/atomic.LoadUint32", "sync/atomic.StoreUint32"], unfollowed := true, recurses := true, plainKeys := false, apart := false }
def CancelTokenSaid : Prop := cancelTokenRow.holds Try.pinned (OpenSpec.ofChange cancelTokenSpec)

/-- ITS FALSE NEIGHBOUR: 'it returns false'. Refute it at one input. -/
def cancelTokenWrong : ChangeSpec := { name := "cancelToken", fn := fun _ => fun
  | [d1, d2, d3] => { results := [.lit (.bool false)], args := [d1, d2, d3] }
  | _ => none }
def CancelTokenWrongFalsely : Prop := cancelTokenRow.holds Try.pinned (OpenSpec.ofChange cancelTokenWrong)

/-- 'glossatorkeep3.MemoFromScratch': WHATEVER THE INPUT: true; the input reads as it did. -/
def memoFromScratchSpec : ChangeSpec := { name := "memoFromScratch", fn := fun _ => fun
  | [d1, d2, d3] => { results := [.lit (.bool true)], args := [d1, d2, d3] }
  | _ => none }
def memoFromScratchRow : OpenClaim := { program := "ytdeodcomlakpaaa", sum := "4eea6edf265bd78098c36fb15ea7fff15e0f5cf87a7f9d2bd3cb164cfa94a1a2", func := "glossator/glossatorkeep3.MemoFromScratch", spec := "memoFromScratch", unfollowed := true, recurses := true, plainKeys := false, apart := false }
def MemoFromScratchSaid : Prop := memoFromScratchRow.holds Try.pinned (OpenSpec.ofChange memoFromScratchSpec)

/-- ITS FALSE NEIGHBOUR: 'it returns false'. Refute it at one input. -/
def memoFromScratchWrong : ChangeSpec := { name := "memoFromScratch", fn := fun _ => fun
  | [d1, d2, d3] => { results := [.lit (.bool false)], args := [d1, d2, d3] }
  | _ => none }
def MemoFromScratchWrongFalsely : Prop := memoFromScratchRow.holds Try.pinned (OpenSpec.ofChange memoFromScratchWrong)

/-- 'glossatorkeep3.EvictRetainReadsNothing': WHATEVER THE INPUT: true; the input reads as it did. -/
def evictRetainReadsNothingSpec : ChangeSpec := { name := "evictRetainReadsNothing", fn := fun _ => fun
  | [d1, d2, d3] => { results := [.lit (.bool true)], args := [d1, d2, d3] }
  | _ => none }
def evictRetainReadsNothingRow : OpenClaim := { program := "ytdeodcomlakpaaa", sum := "4eea6edf265bd78098c36fb15ea7fff15e0f5cf87a7f9d2bd3cb164cfa94a1a2", func := "glossator/glossatorkeep3.EvictRetainReadsNothing", spec := "evictRetainReadsNothing", unfollowed := true, recurses := true, plainKeys := false, apart := false }
def EvictRetainReadsNothingSaid : Prop := evictRetainReadsNothingRow.holds Try.pinned (OpenSpec.ofChange evictRetainReadsNothingSpec)

/-- ITS FALSE NEIGHBOUR: 'it returns false'. Refute it at one input. -/
def evictRetainReadsNothingWrong : ChangeSpec := { name := "evictRetainReadsNothing", fn := fun _ => fun
  | [d1, d2, d3] => { results := [.lit (.bool false)], args := [d1, d2, d3] }
  | _ => none }
def EvictRetainReadsNothingWrongFalsely : Prop := evictRetainReadsNothingRow.holds Try.pinned (OpenSpec.ofChange evictRetainReadsNothingWrong)

/-- 'glossatorkeep3.EvictCapacity': WHATEVER THE INPUT: true; the input reads as it did. -/
def evictCapacitySpec : ChangeSpec := { name := "evictCapacity", fn := fun _ => fun
  | [d1, d2, d3, d4] => { results := [.lit (.bool true)], args := [d1, d2, d3, d4] }
  | _ => none }
def evictCapacityRow : OpenClaim := { program := "ytdeodcomlakpaaa", sum := "4eea6edf265bd78098c36fb15ea7fff15e0f5cf87a7f9d2bd3cb164cfa94a1a2", func := "glossator/glossatorkeep3.EvictCapacity", spec := "evictCapacity", unfollowed := true, recurses := true, plainKeys := false, apart := false }
def EvictCapacitySaid : Prop := evictCapacityRow.holds Try.pinned (OpenSpec.ofChange evictCapacitySpec)

/-- ITS FALSE NEIGHBOUR: 'it returns false'. Refute it at one input. -/
def evictCapacityWrong : ChangeSpec := { name := "evictCapacity", fn := fun _ => fun
  | [d1, d2, d3, d4] => { results := [.lit (.bool false)], args := [d1, d2, d3, d4] }
  | _ => none }
def EvictCapacityWrongFalsely : Prop := evictCapacityRow.holds Try.pinned (OpenSpec.ofChange evictCapacityWrong)

/-- 'glossatorkeep3.MemoDependencies': WHATEVER THE INPUT: true; the input reads as it did. -/
def memoDependenciesSpec : ChangeSpec := { name := "memoDependencies", fn := fun _ => fun
  | [d1, d2, d3] => { results := [.lit (.bool true)], args := [d1, d2, d3] }
  | _ => none }
def memoDependenciesRow : OpenClaim := { program := "ytdeodcomlakpaaa", sum := "4eea6edf265bd78098c36fb15ea7fff15e0f5cf87a7f9d2bd3cb164cfa94a1a2", func := "glossator/glossatorkeep3.MemoDependencies", spec := "memoDependencies", unfollowed := true, recurses := true, plainKeys := false, apart := false }
def MemoDependenciesSaid : Prop := memoDependenciesRow.holds Try.pinned (OpenSpec.ofChange memoDependenciesSpec)

/-- ITS FALSE NEIGHBOUR: 'it returns false'. Refute it at one input. -/
def memoDependenciesWrong : ChangeSpec := { name := "memoDependencies", fn := fun _ => fun
  | [d1, d2, d3] => { results := [.lit (.bool false)], args := [d1, d2, d3] }
  | _ => none }
def MemoDependenciesWrongFalsely : Prop := memoDependenciesRow.holds Try.pinned (OpenSpec.ofChange memoDependenciesWrong)

/-- 'glossatorkeep3.MemoFork': WHATEVER THE INPUT: true; the input reads as it did. -/
def memoForkSpec : ChangeSpec := { name := "memoFork", fn := fun _ => fun
  | [d1, d2, d3, d4] => { results := [.lit (.bool true)], args := [d1, d2, d3, d4] }
  | _ => none }
def memoForkRow : OpenClaim := { program := "ytdeodcomlakpaaa", sum := "4eea6edf265bd78098c36fb15ea7fff15e0f5cf87a7f9d2bd3cb164cfa94a1a2", func := "glossator/glossatorkeep3.MemoFork", spec := "memoFork", inPlace := ["maps.clone"], unfollowed := true, recurses := true, plainKeys := false, apart := false }
def MemoForkSaid : Prop := memoForkRow.holds Try.pinned (OpenSpec.ofChange memoForkSpec)

/-- ITS FALSE NEIGHBOUR: 'it returns false'. Refute it at one input. -/
def memoForkWrong : ChangeSpec := { name := "memoFork", fn := fun _ => fun
  | [d1, d2, d3, d4] => { results := [.lit (.bool false)], args := [d1, d2, d3, d4] }
  | _ => none }
def MemoForkWrongFalsely : Prop := memoForkRow.holds Try.pinned (OpenSpec.ofChange memoForkWrong)

/-- 'glossatorkeep3.CancelResume': WHATEVER THE INPUT: true; the input reads as it did. -/
def cancelResumeSpec : ChangeSpec := { name := "cancelResume", fn := fun _ => fun
  | [d1, d2, d3, d4] => { results := [.lit (.bool true)], args := [d1, d2, d3, d4] }
  | _ => none }
def cancelResumeRow : OpenClaim := { program := "ytdeodcomlakpaaa", sum := "4eea6edf265bd78098c36fb15ea7fff15e0f5cf87a7f9d2bd3cb164cfa94a1a2", func := "glossator/glossatorkeep3.CancelResume", spec := "cancelResume", inPlace := ["maps.clone"], unfollowed := true, recurses := true, plainKeys := false, apart := false }
def CancelResumeSaid : Prop := cancelResumeRow.holds Try.pinned (OpenSpec.ofChange cancelResumeSpec)

/-- ITS FALSE NEIGHBOUR: 'it returns false'. Refute it at one input. -/
def cancelResumeWrong : ChangeSpec := { name := "cancelResume", fn := fun _ => fun
  | [d1, d2, d3, d4] => { results := [.lit (.bool false)], args := [d1, d2, d3, d4] }
  | _ => none }
def CancelResumeWrongFalsely : Prop := cancelResumeRow.holds Try.pinned (OpenSpec.ofChange cancelResumeWrong)

/- THE SECOND FORM. 'bulk': how many values and letters a reading holds, each counted each time it is reached (what is shared counts as often as it is met; a slice's spare places count too). A statement '..UptoSaid' is the law's where the arguments, and the package variables that the reading takes, are together of bulk at most 1048576: NARROWER than '..Said'. Prove '..Said' where nothing that the law and all that it calls make is longer than what came in: it says more and counts as full. Else prove '..UptoSaid'. A law counts once. -/
mutual
def uptoBulk {H : Type} : DataW H → Nat
  | .lit (.string bytes) => bytes.length + 1
  | .lit _ => 1
  | .nil => 1
  | .ptr d => uptoBulk d + 1
  | .slice elems spare => uptoBulkAll elems + uptoBulkAll spare + 1
  | .agg parts => uptoBulkAll parts + 1
  | .iface _ d => uptoBulk d + 1
  | .map entries => uptoBulkEntries entries + 1
  | .held _ => 1
def uptoBulkAll {H : Type} : List (DataW H) → Nat
  | [] => 0
  | d :: r => uptoBulk d + uptoBulkAll r
def uptoBulkEntries {H : Type} : List (Lit × DataW H) → Nat
  | [] => 0
  | x :: r => uptoBulkEntry x + uptoBulkEntries r
def uptoBulkEntry {H : Type} : Lit × DataW H → Nat
  | (.string bytes, d) => bytes.length + uptoBulk d + 1
  | (_, d) => uptoBulk d + 1
 end
def uptoSmall : (H : Type) → List (DataW H) → Bool := fun _ ds => decide (uptoBulkAll ds ≤ 1048576)
def OpenSpec.upto (s : _root_.Go.ChangeSpec) : _root_.Go.OpenSpec := { _root_.Go.OpenSpec.ofChange s with cond := some uptoSmall }

/-- 'glossatorkeep3.MemoCycle', WHERE WHAT IT READS IS OF BULK AT MOST 1048576: true; the input reads as it did. -/
def memoCycleUptoRow : OpenClaim := { program := "ytdeodcomlakpaaa", sum := "4eea6edf265bd78098c36fb15ea7fff15e0f5cf87a7f9d2bd3cb164cfa94a1a2", func := "glossator/glossatorkeep3.MemoCycle", spec := "memoCycle", unfollowed := true, recurses := true, plainKeys := false, apart := false, narrowed := true }
def MemoCycleUptoSaid : Prop := memoCycleUptoRow.holds Try.pinned (OpenSpec.upto memoCycleSpec)

/-- 'glossatorkeep3.MemoUnrelatedChange', WHERE WHAT IT READS IS OF BULK AT MOST 1048576: true; the input reads as it did. -/
def memoUnrelatedChangeUptoRow : OpenClaim := { program := "ytdeodcomlakpaaa", sum := "4eea6edf265bd78098c36fb15ea7fff15e0f5cf87a7f9d2bd3cb164cfa94a1a2", func := "glossator/glossatorkeep3.MemoUnrelatedChange", spec := "memoUnrelatedChange", unfollowed := true, recurses := true, plainKeys := false, apart := false, narrowed := true }
def MemoUnrelatedChangeUptoSaid : Prop := memoUnrelatedChangeUptoRow.holds Try.pinned (OpenSpec.upto memoUnrelatedChangeSpec)

/-- 'glossatorkeep3.MemoEarlyCutoff', WHERE WHAT IT READS IS OF BULK AT MOST 1048576: true; the input reads as it did. -/
def memoEarlyCutoffUptoRow : OpenClaim := { program := "ytdeodcomlakpaaa", sum := "4eea6edf265bd78098c36fb15ea7fff15e0f5cf87a7f9d2bd3cb164cfa94a1a2", func := "glossator/glossatorkeep3.MemoEarlyCutoff", spec := "memoEarlyCutoff", unfollowed := true, recurses := true, plainKeys := false, apart := false, narrowed := true }
def MemoEarlyCutoffUptoSaid : Prop := memoEarlyCutoffUptoRow.holds Try.pinned (OpenSpec.upto memoEarlyCutoffSpec)

/-- 'glossatorkeep3.MemoRepeatedGet', WHERE WHAT IT READS IS OF BULK AT MOST 1048576: true; the input reads as it did. -/
def memoRepeatedGetUptoRow : OpenClaim := { program := "ytdeodcomlakpaaa", sum := "4eea6edf265bd78098c36fb15ea7fff15e0f5cf87a7f9d2bd3cb164cfa94a1a2", func := "glossator/glossatorkeep3.MemoRepeatedGet", spec := "memoRepeatedGet", unfollowed := true, recurses := true, plainKeys := false, apart := false, narrowed := true }
def MemoRepeatedGetUptoSaid : Prop := memoRepeatedGetUptoRow.holds Try.pinned (OpenSpec.upto memoRepeatedGetSpec)

/-- 'glossatorkeep3.CancelToken', WHERE WHAT IT READS IS OF BULK AT MOST 1048576: true; the input reads as it did. -/
def cancelTokenUptoRow : OpenClaim := { program := "ytdeodcomlakpaaa", sum := "4eea6edf265bd78098c36fb15ea7fff15e0f5cf87a7f9d2bd3cb164cfa94a1a2", func := "glossator/glossatorkeep3.CancelToken", spec := "cancelToken", inPlace := ["sync/atomic.LoadUint32", "sync/atomic.StoreUint32"], unfollowed := true, recurses := true, plainKeys := false, apart := false, narrowed := true }
def CancelTokenUptoSaid : Prop := cancelTokenUptoRow.holds Try.pinned (OpenSpec.upto cancelTokenSpec)

/-- 'glossatorkeep3.MemoFromScratch', WHERE WHAT IT READS IS OF BULK AT MOST 1048576: true; the input reads as it did. -/
def memoFromScratchUptoRow : OpenClaim := { program := "ytdeodcomlakpaaa", sum := "4eea6edf265bd78098c36fb15ea7fff15e0f5cf87a7f9d2bd3cb164cfa94a1a2", func := "glossator/glossatorkeep3.MemoFromScratch", spec := "memoFromScratch", unfollowed := true, recurses := true, plainKeys := false, apart := false, narrowed := true }
def MemoFromScratchUptoSaid : Prop := memoFromScratchUptoRow.holds Try.pinned (OpenSpec.upto memoFromScratchSpec)

/-- 'glossatorkeep3.EvictRetainReadsNothing', WHERE WHAT IT READS IS OF BULK AT MOST 1048576: true; the input reads as it did. -/
def evictRetainReadsNothingUptoRow : OpenClaim := { program := "ytdeodcomlakpaaa", sum := "4eea6edf265bd78098c36fb15ea7fff15e0f5cf87a7f9d2bd3cb164cfa94a1a2", func := "glossator/glossatorkeep3.EvictRetainReadsNothing", spec := "evictRetainReadsNothing", unfollowed := true, recurses := true, plainKeys := false, apart := false, narrowed := true }
def EvictRetainReadsNothingUptoSaid : Prop := evictRetainReadsNothingUptoRow.holds Try.pinned (OpenSpec.upto evictRetainReadsNothingSpec)

/-- 'glossatorkeep3.EvictCapacity', WHERE WHAT IT READS IS OF BULK AT MOST 1048576: true; the input reads as it did. -/
def evictCapacityUptoRow : OpenClaim := { program := "ytdeodcomlakpaaa", sum := "4eea6edf265bd78098c36fb15ea7fff15e0f5cf87a7f9d2bd3cb164cfa94a1a2", func := "glossator/glossatorkeep3.EvictCapacity", spec := "evictCapacity", unfollowed := true, recurses := true, plainKeys := false, apart := false, narrowed := true }
def EvictCapacityUptoSaid : Prop := evictCapacityUptoRow.holds Try.pinned (OpenSpec.upto evictCapacitySpec)

/-- 'glossatorkeep3.MemoDependencies', WHERE WHAT IT READS IS OF BULK AT MOST 1048576: true; the input reads as it did. -/
def memoDependenciesUptoRow : OpenClaim := { program := "ytdeodcomlakpaaa", sum := "4eea6edf265bd78098c36fb15ea7fff15e0f5cf87a7f9d2bd3cb164cfa94a1a2", func := "glossator/glossatorkeep3.MemoDependencies", spec := "memoDependencies", unfollowed := true, recurses := true, plainKeys := false, apart := false, narrowed := true }
def MemoDependenciesUptoSaid : Prop := memoDependenciesUptoRow.holds Try.pinned (OpenSpec.upto memoDependenciesSpec)

/-- 'glossatorkeep3.MemoFork', WHERE WHAT IT READS IS OF BULK AT MOST 1048576: true; the input reads as it did. -/
def memoForkUptoRow : OpenClaim := { program := "ytdeodcomlakpaaa", sum := "4eea6edf265bd78098c36fb15ea7fff15e0f5cf87a7f9d2bd3cb164cfa94a1a2", func := "glossator/glossatorkeep3.MemoFork", spec := "memoFork", inPlace := ["maps.clone"], unfollowed := true, recurses := true, plainKeys := false, apart := false, narrowed := true }
def MemoForkUptoSaid : Prop := memoForkUptoRow.holds Try.pinned (OpenSpec.upto memoForkSpec)

/-- 'glossatorkeep3.CancelResume', WHERE WHAT IT READS IS OF BULK AT MOST 1048576: true; the input reads as it did. -/
def cancelResumeUptoRow : OpenClaim := { program := "ytdeodcomlakpaaa", sum := "4eea6edf265bd78098c36fb15ea7fff15e0f5cf87a7f9d2bd3cb164cfa94a1a2", func := "glossator/glossatorkeep3.CancelResume", spec := "cancelResume", inPlace := ["maps.clone"], unfollowed := true, recurses := true, plainKeys := false, apart := false, narrowed := true }
def CancelResumeUptoSaid : Prop := cancelResumeUptoRow.holds Try.pinned (OpenSpec.upto cancelResumeSpec)

end Rows
end Go.Proofs.Ytdeodcomlakpaaa
