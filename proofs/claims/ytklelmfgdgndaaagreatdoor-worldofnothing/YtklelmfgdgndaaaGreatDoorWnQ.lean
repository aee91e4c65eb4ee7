/- The row's statement: its closed facts put together. -/
import Derived.Test.YtklelmfgdgndaaaGreatDoorWnP
namespace Go.Proofs.YtklelmfgdgndaaaGreatDoor
open Go Go.ChangeShapes Go.WideShapes Go.ChangeAt Go.WideMaps Go.WideElems Go.RowKit
set_option maxRecDepth 100000
noncomputable abbrev wRow := Rows.worldOfNothingRow
noncomputable abbrev wSpec := Rows.worldOfNothingSpec
noncomputable abbrev wTs : List TypeId := Tryz.f3.params.toList ++ wSpec.plain.varTypes Tryz.prog
theorem j1 : wRow.wf (OpenSpec.ofChange wSpec) = true := by kernel_rfl
theorem j4 : Tryz.f3.params.all (Tryz.prog.readableRec ·) = true := by kernel_rfl
theorem j5 : namedTie Tryz.prog wRow.named wSpec.vars = true := by kernel_rfl
theorem j7 : (Tryz.prog.stops == []) = true := by kernel_rfl
theorem j9 : (Tryz.prog.stopKnobs == []) = true := by kernel_rfl
theorem j14 : (wRow.maps == wTs.any (Tryz.prog.mapsRec ·)) = true := by kernel_rfl
theorem j15 : (wRow.ifaces == wTs.any (Tryz.prog.ifacesRec ·)) = true := by kernel_rfl
theorem j16 : (wRow.mapsOut == Tryz.prog.mapsAmong Tryz.f3.resultTypes.toList) = true := by kernel_rfl
theorem j17 : (wRow.loops == wTs.any (Tryz.prog.loopsFrom ·)) = true := by kernel_rfl
theorem j17b : (wRow.wideKeys == (wTs ++ Tryz.f3.resultTypes.toList).any (Tryz.prog.wideKeysFrom ·)) = true := by kernel_rfl
theorem j18 : wSpec.vars.all (Tryz.prog.varReadable ·) = true := by kernel_rfl
theorem j19 : Tryz.f3.resultTypes.all (fun t => Tryz.prog.readableRec t && decide (t < Tryz.prog.types.size)) = true := by kernel_rfl
theorem j20 : (wRow.ifacesOut == Tryz.f3.resultTypes.toList.any (Tryz.prog.ifacesRec ·)) = true := by kernel_rfl
theorem j21 : (wRow.loopsOut == Tryz.f3.resultTypes.toList.any (Tryz.prog.loopsFrom ·)) = true := by kernel_rfl
theorem j22 : (wRow.plainKeys == Tryz.prog.plainKeys) = true := by kernel_rfl
theorem j24b : (wRow.lifted == Tryz.prog.liftsFinal) = true := by kernel_rfl
theorem j24c : (Tryz.prog.make == some wRow.make) = true := by kernel_rfl
theorem j25 : (wRow.kinds == (if wRow.domain.isEmpty then [] else Tryz.f3.params.toList.map fun t => match Tryz.prog.underlying t with | some (.int k) => some k | _ => none)) = true := by kernel_rfl
theorem j26 : (wRow.pinned == wRow.pinnedBy) = true := by kernel_rfl
theorem j27 : (wRow.veiled == (wTs ++ Tryz.f3.resultTypes.toList).any (Tryz.prog.veiledRec ·)) = true := by kernel_rfl
theorem j28 : wRow.veiledFits Tryz.prog Tryz.f3.params.toList (wTs ++ Tryz.f3.resultTypes.toList) = true := by kernel_rfl
theorem j10 : (wRow.inPlace == Tryz.prog.inPlace 3) = true := by rw [inPlaces]; kernel_rfl
theorem j11 : (wRow.unfollowed == Tryz.prog.unfollowed 3) = true := by rw [unfolloweds]; rfl
theorem j12 : (wRow.recurses == Tryz.prog.recurses 3) = true := by rw [recursess]; rfl
theorem j13 : (wRow.named == Tryz.prog.varsNamed 3) = true := by rw [nameds]; kernel_rfl
theorem joined : joinedFacts Tryz.prog 3 Tryz.f3 wSpec wRow = true := by
  unfold joinedFacts
  simp only [Bool.and_eq_true]
  exact ⟨⟨⟨⟨⟨⟨⟨⟨⟨⟨⟨⟨⟨⟨⟨⟨⟨⟨⟨⟨⟨⟨⟨⟨⟨⟨⟨⟨⟨⟨⟨j1, laidOut⟩, rowed⟩, j4⟩, j5⟩, rfl⟩, j7⟩, rfl⟩, j9⟩, j10⟩, j11⟩, j12⟩, j13⟩, j14⟩, j15⟩, j16⟩, j17⟩, j17b⟩, j18⟩, j19⟩, j20⟩, j21⟩, j22⟩, rfl⟩, heard⟩, enters⟩, j24b⟩, j24c⟩, j25⟩, j26⟩, j27⟩, j28⟩
end Go.Proofs.YtklelmfgdgndaaaGreatDoor
