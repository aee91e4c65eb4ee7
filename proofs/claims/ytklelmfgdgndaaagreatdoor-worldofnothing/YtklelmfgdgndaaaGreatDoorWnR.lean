/- For every input WorldOfNothing returns true: the row's statement, and its tied card. -/
import Derived.Test.YtklelmfgdgndaaaGreatDoorWnQ
import Derived.Test.YtklelmfgdgndaaaGreatDoorWnTie
import Derived.Test.YtklelmfgdgndaaaGreatDoorCards
import Derived.SevenTiedAt
namespace Go.Proofs.YtklelmfgdgndaaaGreatDoor
open Go Go.ChangeShapes Go.WideShapes Go.ChangeAt Go.WideMaps Go.WideElems Go.RowKit
theorem instB : (Tryz.f3.isInstance Tryz.prog wRow.origin wRow.targs) := of_decide_eq_true (by kernel_rfl)
theorem wrapB : Tryz.f3.isWrapper Tryz.prog wRow.wrapper wRow.mainSum := by
  unfold Func.isWrapper
  first | (rw [if_pos (by decide +kernel)]; kernel_rfl) | (rw [if_neg (by decide +kernel)]; exact ⟨rfl, rfl⟩)
theorem row_holds : Rows.WorldOfNothingSaid :=
  OpenClaim.holds_of_wide 3 Tryz.f3 rfl rfl rfl rfl rfl rfl rfl ⟨rfl, rfl, rfl, rfl, rfl⟩ rfl rfl rfl rfl rfl fid Tryz.func3 joined instB wrapB
    (fun os started H enc _ => lifted os started H enc)
theorem wfText : wRow.wfByText (OpenSpec.ofChange wSpec) = true := by kernel_rfl
theorem mainSaid : Tryz.prog.mainIs = some (true, "3c5506d7c2faa61d5adc65a689e75b7def5d07c0c92e3566ecf48636362e0b0d".toList) := by kernel_rfl
theorem looked : true = Tryz.prog.looks [] := by kernel_rfl
theorem noStand : Tryz.prog.wantsStandIn 24 = false := by kernel_rfl
theorem goesAll : Tryz.prog.funcs.any Func.goes = false := by kernel_rfl
theorem goesHere : (closL.any fun g => (Tryz.prog.funcs[g]?).any Func.goes) = false := by kernel_rfl
theorem goes3 : Tryz.prog.goes 3 = false := by
  unfold Program.goes
  rw [clos, goesAll, goesHere]
  simp
theorem fidR : Tryz.prog.funcNamed wRow.func = some 3 := fid
theorem goesF : Tryz.prog.goesFrom wRow.func = false := by
  unfold Program.goesFrom
  rw [fidR, Option.any_some, goes3]
set_option maxRecDepth 100000 in
theorem goesNot : false = wRow.goesBy Tryz.prog := by
  unfold OpenClaim.goesBy Program.goesAt
  rw [goesF]
  rfl
theorem worldOfNothing_holds : Rows.WorldOfNothingCardSaid :=
  Claim7.holds_tied_plain_at .later [] [.data, .data, .data, .pinned, .data, .data, .listed, .sentinel, .sentinel] true (true, "3c5506d7c2faa61d5adc65a689e75b7def5d07c0c92e3566ecf48636362e0b0d") true
    row_holds (fun _ h => by cases h) wfText (fun _ h => by cases h) row_tie rfl ⟨rfl, rfl⟩ mainSaid rfl
    (fun f fn hf hfn => by
      obtain rfl : f = 3 := Option.some.inj (fid.symm.trans hf) |>.symm
      obtain rfl : fn = Tryz.f3 := (Option.some.inj (Tryz.func3.symm.trans hfn)).symm
      exact ⟨looked, fun j t ht => by
        rw [Tryz.params3] at ht
        have h3 : t = 24 := by
          rcases j with _ | j
          · simpa using ht.symm
          · simp at ht
        subst h3
        exact noStand⟩)
    goesNot
#print axioms worldOfNothing_holds
end Go.Proofs.YtklelmfgdgndaaaGreatDoor
