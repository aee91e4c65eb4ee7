/- From the walk to the row's statement. -/
import Derived.Test.YtklelmfgdgndaaaGreatDoorDkE
import Derived.Test.YtklelmfgdgndaaaGreatDoorSepP
import Derived.Test.YtklelmfgdgndaaaGreatDoorWnW
import Derived.Test.YtklelmfgdgndaaaGreatDoorWnFb
import Derived.ProofKit
import Derived.OpenShut
import Derived.Stop.Joined
namespace Go.Proofs.YtklelmfgdgndaaaGreatDoor
open Go Go.Sep Burg Go.ChangeShapes Go.WideShapes Go.ChangeAt Go.WideMaps Go.WideElems Go.RowKit Go.Joins
theorem own : ownKnob Tryz.prog.godebug = none := by kernel_rfl
theorem noInit : Tryz.checked.prog.inits.idxOf? 3 = none := by kernel_rfl
theorem read24 : Tryz.prog.readableRec 24 = true := by kernel_rfl
theorem typesSize : 24 < Tryz.prog.types.size := of_decide_eq_true (by kernel_rfl)
theorem b5 : Tryz.prog.bytesOf 5 = 1 := by kernel_rfl
theorem c5 : Tryz.prog.cellsOf 5 = 1 := by kernel_rfl
theorem c3 : Tryz.prog.cellsOf 3 = 1 := by kernel_rfl
theorem c22 : Tryz.prog.cellsOf 22 = 1 := by kernel_rfl
set_option maxRecDepth 100000 in
theorem lifted (os : Os) (started : os.Started) (H : Type) (enc : TypeId × Value → H) :
    ReturnsInHanded {} Tryz.checked os 3 .any (fun w args => (Rows.worldOfNothingSpec.pre enc Tryz.prog Tryz.f3 [] false w args ∧ laidMetH Tryz.prog laid9 w) ∧ sizedMet enc Tryz.prog Tryz.f3 (OpenSpec.ofChange Rows.worldOfNothingSpec) false w args)
      (Rows.worldOfNothingSpec.post enc Tryz.prog Tryz.f3 false true false false) := by
  refine returnsInHanded_of_change_and (C := Tryz.checked) (X := fun w _ => laidMetH Tryz.prog laid9 w) (fun _ _ _ hh h => h.of_heap hh) own started noInit Tryz.func3
    (ChangeSpec.witness_shaped (enc := enc) (C := Tryz.checked) (os := os) (X := fun w _ => laidMetH Tryz.prog laid9 w) false (wit os) wargs 8 rfl (World.shaped_of_RefB (ww_refs os) (ww_rt os)) (ww_ok os) (ww_pre os H enc) (ww_sz os H enc) (wit_met os)) ?_
  intro W base args ds gs before hval0 hW _ hsz0 _ _
  have hsz : (DataW.weightsEach Tryz.prog (Tryz.f3.params.toList ++ Rows.worldOfNothingSpec.plain.varTypes Tryz.prog) (ds ++ gs)).all (· ≤ reachBytes) = true := hsz0
  have hval : ∀ (j : Nat) t v, Tryz.f3.params[j]? = some t → args[j]? = some v → Value.okWide Tryz.prog W .any base t v := hval0
  have hW' := hW
  obtain ⟨p, q, hA0, hV, rfl, _, _⟩ := hW
  have hA : DataW.TrodAll enc Tryz.prog W 0 (fun _ => true) true Tryz.f3.params.toList args.toList ds p := hA0
  rw [Tryz.params3] at hA hval hsz
  obtain ⟨v0, d0, rfl, rfl, h0⟩ := trodAll_one hA
  obtain ⟨rfl, rfl⟩ := trodVars_none hV
  clear hA0 hval0
  simp only [List.append_nil] at hW'
  have hlt : ∀ x ∈ p, x.block < W.heap.size := fun x hx => by simpa using hW'.lt x hx
  have hargs : ∀ (W' : World), Below W.heap.size W W' → DataW.Trod enc Tryz.prog W' 0 (fun b => decide (b < W.heap.size)) true 24 v0 d0 p :=
    fun W' hn => Below.trod laidOut read24 typesSize h0 hn hlt
  have fin : ∀ (W' : World), Below W.heap.size W W' → Rows.worldOfNothingSpec.post enc Tryz.checked.prog Tryz.f3 false true false false W #[v0] (.bool true) W' := by
    intro W' hnx
    refine ⟨_, _, _, [], p, [], hW', ?_, trodAll_mk1 (hargs _ hnx), rfl, hnx.frame _, fun h => by cases h⟩
    exact trodAll_mk1 (shut_bool Tryz.underlying4 _)
  obtain ⟨v1, v2, v3, v4, y0, y1, y2, y3, n, rfl, rfl, rfl, g0, g1, g2, g3⟩ := open_agg4 Tryz.underlying24 (by kernel_rfl) (by kernel_rfl) (hval 0 24 v0 rfl rfl) h0
  obtain ⟨k, e1, _, _⟩ := DataW.trod_int Tryz.underlying3 g0
  obtain ⟨c, e2, _, _⟩ := DataW.trod_int Tryz.underlying3 g1
  obtain ⟨m, e3, _, _⟩ := DataW.trod_int Tryz.underlying3 g2
  obtain rfl : v1 = .int .i64 k := by simpa using e1
  obtain rfl : v2 = .int .i64 c := by simpa using e2
  obtain rfl : v3 = .int .i64 m := by simpa using e3
  obtain ⟨bs, hb, sp, hd⟩ := bytes_held Tryz.underlying22 Tryz.underlying5 c5 g3
  have hbs : bs.length ≤ 140737488355328 := by
    rcases hd with ⟨_, rfl⟩ | ⟨el, hel, hll⟩
    · simp
    · have hm : (el.length + sp.length) * Tryz.prog.bytesOf 5 ∈ DataW.weights Tryz.prog 24 (.agg [y0.1, y1.1, y2.1, y3.1]) := by
        simp [DataW.weights, Tryz.underlying24, DataW.weightsEach, hel, Tryz.underlying22]
      have := List.all_eq_true.1 hsz _ (DataW.weights_mem_each (j := 0) (t := 24) rfl rfl _ hm)
      rw [b5] at this
      simp [reachBytes] at this
      omega
  refine ((worldOfNothing_con k c m v4 bs hbs).below W hb).mono fun e W' ⟨he, hnx⟩ => ?_
  subst he
  exact ⟨_, rfl, fin W' hnx⟩
end Go.Proofs.YtklelmfgdgndaaaGreatDoor
