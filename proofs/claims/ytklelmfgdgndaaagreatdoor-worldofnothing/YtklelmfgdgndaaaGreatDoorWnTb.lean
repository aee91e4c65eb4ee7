/- The tie: what the text lays. -/
import Derived.Test.YtklelmfgdgndaaaGreatDoorWnTa
namespace Go.Proofs.YtklelmfgdgndaaaGreatDoor
open Go
set_option maxRecDepth 100000
theorem tn1 : varsNamedLaterB Tryz.prog 587 laid8 = true := by kernel_rfl
end Go.Proofs.YtklelmfgdgndaaaGreatDoor
