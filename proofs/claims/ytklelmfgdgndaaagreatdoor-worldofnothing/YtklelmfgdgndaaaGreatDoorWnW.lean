/- A start that meets the row's premises. -/
import Derived.Test.YtklelmfgdgndaaaGreatDoorWnTa
import Derived.LaidMore
import Derived.Handed
import Derived.ChangeArms
namespace Go.Proofs.YtklelmfgdgndaaaGreatDoor
open Go
set_option maxRecDepth 100000
abbrev laid9 : List (String × DataW Unit) := Rows.worldOfNothingRow.laid
def litOf : DataW Unit → Value
  | .lit (.int k n) => .int k n
  | _ => undef
def rowOf : DataW Unit → Array Value
  | .agg l => (l.map litOf).toArray
  | _ => #[]
noncomputable def wit (os : Os) : World :=
  { World.holding Tryz.prog os ⟨#[], #[], []⟩ with heap := (varsWorld Tryz.prog 96 587 os (fun _ _ => 0)).heap.setIfInBounds 2 (.cells (rowOf Go.Pinned.utf8First) 565 (0, 0)) }
noncomputable def wit2 (os : Os) : World := (wit os).forCall (fun _ _ => 0) ⟨#[], #[.agg #[.int .i64 0, .int .i64 0, .int .i64 0, .slice none 0 0]], []⟩
abbrev wargs : Array Value := #[.agg #[.int .i64 0, .int .i64 0, .int .i64 0, .slice none 0 0]]
theorem ww_refs (os : Os) : (wit2 os).variablesRefB Tryz.prog = true := by kernel_rfl
theorem ww_rt (os : Os) : ((wit2 os).heap.toList.drop Tryz.prog.globals.size).take ((begin Tryz.prog (fun _ _ => 0) default).world.heap.size - Tryz.prog.globals.size) =
    (begin Tryz.prog (fun _ _ => 0) default).world.heap.toList.drop Tryz.prog.globals.size := by kernel_rfl
theorem ww_ok (os : Os) : Input.okWideB Tryz.prog (wit2 os) 3 ⟨#[], wargs, []⟩ = true := by kernel_rfl
theorem ww_pre (os : Os) (H : Type) (enc : TypeId × Value → H) : Rows.worldOfNothingSpec.preB enc Tryz.prog Tryz.f3 [] false (wit2 os).memory wargs 8 = true := by kernel_rfl
theorem ww_sz (os : Os) (H : Type) (enc : TypeId × Value → H) : Rows.worldOfNothingSpec.sizedB enc Tryz.prog Tryz.f3 false (wit2 os).memory wargs 8 = true := by kernel_rfl
theorem ww_fl : (laid9.filter fun x => x.2.handleName?.isNone) = laid9 := by kernel_rfl
theorem ww_l (os : Os) : ((DataW.laidRun Tryz.prog (wit2 os).memory 8 (laid9.map (·.1))).bind fun x => if nodupBits 513 x.2 0 && laidRowsB Tryz.prog (wit2 os).memory x.2 then some x.1 else none) = some laid9 := by kernel_rfl
theorem ww_h (os : Os) : (laid9.filter fun x => x.2.handleName?.isSome && x.2.funcsIn?.isNone).all (handleAtB Tryz.prog (wit2 os).memory) = true := by kernel_rfl
theorem ww_f (os : Os) : funcsRun Tryz.prog (wit2 os).memory 8 ((funcsListed laid9).map (·.1)) = some ((funcsListed laid9).map (·.2.funcsOut)) := by kernel_rfl
theorem wit_met (os : Os) : laidMetH Tryz.prog laid9 (wit2 os).memory := by
  refine laidMetH_of_parts3 (fuel := 8) ?_ (ww_h os) (ww_f os)
  rw [ww_fl]
  have h := ww_l os
  cases hx : DataW.laidRun Tryz.prog (wit2 os).memory 8 (laid9.map (·.1)) with
  | none => rw [hx] at h; cases h
  | some x =>
    rw [hx] at h
    simp only [Option.bind_some] at h
    split at h
    · rename_i hb
      simp only [Bool.and_eq_true] at hb
      refine laidMet_of_run (ps := x.2) 8 (by rw [hx, ← Option.some.inj h]) (decide_eq_true (nodupBits_sound hb.1).1) hb.2
    · cases h
end Go.Proofs.YtklelmfgdgndaaaGreatDoor
