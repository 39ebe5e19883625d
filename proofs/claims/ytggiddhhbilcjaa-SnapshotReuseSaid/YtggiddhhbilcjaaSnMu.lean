/- The locks' numbers: under which this dump holds the library's functions and types of sync.Mutex, and that it holds them. -/
import Derived.Test.YtggiddhhbilcjaaProg
import Derived.Conc.MuLone
import Derived.Conc.MuData
import Derived.KernelRfl
namespace Go.Proofs.Ytggiddhhbilcjaa
abbrev Try.muLink : Go.Conc.Locks.MuLink := { lock := 31, unlock := 32, ilock := 60, iunlock := 61, lockSlow := 84, unlockSlow := 87, disable := 80, enable := 82, acquire := 83, relMerge := 85, cas32 := 81, add32 := 86, tMutex := 76, tIMutex := 74, tPMutex := 127, tPIMutex := 158, tPI32 := 160, tUP := 162, tNoCopy := 71, tU32 := 72 }
theorem Try.muLib : Go.Conc.Locks.MuLib Try.prog Try.muLink :=
  ⟨Try.func31, Try.func32, Try.func60, Try.func61, Try.func80, Try.func82, Try.func83, Try.func85, Try.func81, Try.func86,
    Try.underlying74, Try.runUnderlying74, Try.sizeOf74, Try.isAgg74, Try.zeroValue74, Try.underlying76, Try.runUnderlying76, Try.sizeOf76, Try.isAgg76, Try.zeroValue76, Try.underlying127, Try.runUnderlying127, Try.sizeOf127, Try.isAgg127, Try.zeroValue127, Try.underlying158, Try.runUnderlying158, Try.sizeOf158, Try.isAgg158, Try.zeroValue158, Try.underlying160, Try.runUnderlying160, Try.sizeOf160, Try.isAgg160, Try.zeroValue160, Try.underlying162, Try.runUnderlying162, Try.sizeOf162, Try.isAgg162, Try.zeroValue162, Try.underlying71, Try.runUnderlying71, Try.sizeOf71, Try.isAgg71, Try.zeroValue71, Try.underlying21, Try.runUnderlying21, Try.sizeOf21, Try.isAgg21, Try.zeroValue21, (by kernel_rfl)⟩
theorem Try.muData : Go.Conc.Locks.MuData Try.prog Try.muLink := ⟨Try.underlying72, by kernel_rfl, by kernel_rfl, by kernel_rfl, by kernel_rfl, by kernel_rfl⟩
end Go.Proofs.Ytggiddhhbilcjaa
