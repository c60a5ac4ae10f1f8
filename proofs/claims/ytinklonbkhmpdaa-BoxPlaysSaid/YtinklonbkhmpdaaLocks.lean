/-
  The numbers under which this dump holds sync.Mutex's functions and types, and that it holds them. No condition.
-/
import Derived.Test.YtinklonbkhmpdaaProg
import Derived.Conc.MuLone
import Derived.KernelRfl
namespace Go.Proofs
abbrev Try.muLink : Go.Conc.Locks.MuLink := { lock := 39, unlock := 40, ilock := 41, iunlock := 42, lockSlow := 47, unlockSlow := 50, disable := 43, enable := 45, acquire := 46, relMerge := 48, cas32 := 44, add32 := 49, tMutex := 56, tIMutex := 54, tPMutex := 68, tPIMutex := 69, tPI32 := 71, tUP := 73, tNoCopy := 51, tU32 := 52 }
theorem Try.muLib : Go.Conc.Locks.MuLib Try.prog Try.muLink :=
  ⟨Try.func39, Try.func40, Try.func41, Try.func42, Try.func43, Try.func45, Try.func46, Try.func48, Try.func44, Try.func49,
   Try.underlying54, Try.runUnderlying54, Try.sizeOf54, Try.isAgg54, Try.zeroValue54, Try.underlying56, Try.runUnderlying56, Try.sizeOf56, Try.isAgg56, Try.zeroValue56,
   Try.underlying68, Try.runUnderlying68, Try.sizeOf68, Try.isAgg68, Try.zeroValue68, Try.underlying69, Try.runUnderlying69, Try.sizeOf69, Try.isAgg69, Try.zeroValue69,
   Try.underlying71, Try.runUnderlying71, Try.sizeOf71, Try.isAgg71, Try.zeroValue71, Try.underlying73, Try.runUnderlying73, Try.sizeOf73, Try.isAgg73, Try.zeroValue73,
   Try.underlying51, Try.runUnderlying51, Try.sizeOf51, Try.isAgg51, Try.zeroValue51, Try.underlying21, Try.runUnderlying21, Try.sizeOf21, Try.isAgg21, Try.zeroValue21, (by kernel_rfl)⟩
end Go.Proofs
