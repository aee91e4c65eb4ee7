/- Closed facts of this seat: two functions' numbers; the types' table. -/
import Derived.Test.YtklelmfgdgndaaaGreatDoorProg
import Derived.JoinedOf
import Derived.KernelRfl
namespace Go.Proofs.YtklelmfgdgndaaaGreatDoor
open Go
theorem vid : Tryz.prog.funcNamed "gosem.cut.vars" = some 587 := by kernel_rfl
theorem fid : Tryz.prog.funcNamed "burgess/burgesslaw28.WorldOfNothing" = some 3 := by kernel_rfl
theorem rowed : mapsRowed Tryz.prog = true := by kernel_rfl
theorem enters : Tryz.prog.mayEnter = true := by kernel_rfl
theorem heard : Tryz.prog.stopsHeard = true := by kernel_rfl
theorem laidOut : laidOutB Tryz.prog = true := by kernel_rfl
end Go.Proofs.YtklelmfgdgndaaaGreatDoor
