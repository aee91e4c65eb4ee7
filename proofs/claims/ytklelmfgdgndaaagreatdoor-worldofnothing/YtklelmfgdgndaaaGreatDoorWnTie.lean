/- The program's tie and the row's, out of their closed facts. -/
import Derived.Test.YtklelmfgdgndaaaGreatDoorWnTb
import Derived.Test.YtklelmfgdgndaaaGreatDoorWnTc
import Derived.Test.YtklelmfgdgndaaaGreatDoorWnTd
namespace Go.Proofs.YtklelmfgdgndaaaGreatDoor
open Go
set_option maxRecDepth 100000
theorem tg1 : (Tryz.prog.funcNamed "gosem.cut.vars").isSome = true := by rw [vid]; rfl
theorem tn2 : varsNamedLaterB Tryz.prog (varsId Tryz.prog) laid8 = true := by rw [varsId_eq]; exact tn1
theorem tr1 (os : Os) (tape : Tape) : doorLeaves Tryz.prog 96 8 257 laid8 os tape = some (laid8.filter fun x => x.2.handleName?.isNone, (funcsListed laid8).map (·.2.funcsOut)) := by
  rw [doorAt_eq, varsId_eq]
  exact runs os tape
theorem tie : Tryz.prog.laidByTextLater laid8 [.data, .data, .data, .data, .data, .listed, .sentinel, .sentinel] true :=
  Program.laidByTextLater_by_one 96 8 257 tw1 tw2 tw3 tk1 tg1 tn2 tr1
theorem row_tie : Rows.worldOfNothingRow.laidByTextAt .later Tryz.pinned [.data, .data, .data, .pinned, .data, .data, .listed, .sentinel, .sentinel] true :=
  OpenClaim.laidByTextAt_pinned rfl rfl tie rfl rfl rfl rfl (fun y hy _e => by
    simp only [Rows.worldOfNothingRow, List.zip_cons_cons, List.zip_nil_right, List.mem_cons, List.mem_nil_iff, or_false] at hy
    rcases hy with rfl | rfl | rfl | rfl | rfl | rfl | rfl | rfl | rfl
    · cases _e
    · cases _e
    · cases _e
    · exact ⟨pin1, by kernel_rfl⟩
    · cases _e
    · cases _e
    · cases _e
    · cases _e
    · cases _e) fits1
end Go.Proofs.YtklelmfgdgndaaaGreatDoor
