/- The tie: the run. -/
import Derived.Test.YtklelmfgdgndaaaGreatDoorWnTa
namespace Go.Proofs.YtklelmfgdgndaaaGreatDoor
open Go
set_option maxRecDepth 100000
noncomputable def doorAt (P : Program) (g : FuncId) (n fuel M : Nat) (laid : List (String × DataW Unit)) (os : Os) (tape : Tape) : Option (List (String × DataW Unit) × List (DataW (List UInt8))) :=
  match runN P n (Machine.entering P (World.unlaid P os) tape g ⟨#[], #[], []⟩) with
  | .ended (.done _) w =>
    (DataW.laidRun P w.memory fuel ((laid.filter fun x => x.2.handleName?.isNone).map (·.1))).bind fun x =>
      if nodupBits M x.2 0 && laidRowsB P w.memory x.2 && (laid.filter fun x => x.2.handleName?.isSome && x.2.funcsIn?.isNone).all (handleAtB P w.memory)
      then (funcsRun P w.memory fuel ((funcsListed laid).map (·.1))).map fun y => (x.1, y) else none
  | _ => none
theorem doorAt_eq (P : Program) (n fuel M : Nat) (laid : List (String × DataW Unit)) (os : Os) (tape : Tape) : doorLeaves P n fuel M laid os tape = doorAt P (varsId P) n fuel M laid os tape := rfl
theorem runs (os : Os) (tape : Tape) : doorAt Tryz.prog 587 96 8 257 laid8 os tape = some (laid8.filter fun x => x.2.handleName?.isNone, (funcsListed laid8).map (·.2.funcsOut)) := by kernel_rfl
end Go.Proofs.YtklelmfgdgndaaaGreatDoor
