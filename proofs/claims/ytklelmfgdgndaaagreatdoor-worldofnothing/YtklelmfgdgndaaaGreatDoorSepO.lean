/- From a contract to what stands behind the call: all that lay before lies there still. -/
import Derived.Test.YtklelmfgdgndaaaGreatDoorSepN
import Derived.Below
namespace Go.Sep
open Go.RowKit
/-- All that lies in a world. -/
def heapC (W : World) : Chunk := per ⟨fun Z => ∀ (b : Nat) (o : Obj), W.heap[b]? = some o → Z b = some o, fun l h b o hb => l _ _ (h b o hb)⟩
/-- At the beginning: nothing is one's own; what lies there is lasting. -/
theorem sat_start (W : World) {p : Per} (h : p.holds (fun b => W.heap[b]?)) : Sat ⟨W.os, W.tape, W.output⟩ W ([per p] ++ [heapC W]) :=
  by
  refine ⟨rfl, rfl, rfl, fun b => W.heap[b]?, Frag.emp, fun _ => Or.inr rfl, fun _ _ h => h, (show Frag.emp.In W from fun _ _ h => by cases h), ?_⟩
  exact ⟨Frag.emp, Frag.emp, fun _ => Or.inl rfl, fun _ _ h => h, fun _ _ h => h, h, Frag.emp, Frag.emp, fun _ => Or.inl rfl, fun _ _ h => h, fun _ _ h => h, fun _ _ h => h, trivial⟩
theorem sat_start0 (W : World) : Sat ⟨W.os, W.tape, W.output⟩ W ([] ++ [heapC W]) :=
  by
  refine ⟨rfl, rfl, rfl, fun b => W.heap[b]?, Frag.emp, fun _ => Or.inr rfl, fun _ _ h => h, (show Frag.emp.In W from fun _ _ h => by cases h), ?_⟩
  exact ⟨Frag.emp, Frag.emp, fun _ => Or.inl rfl, fun _ _ h => h, fun _ _ h => h, fun _ _ h => h, trivial⟩
theorem below_of {W W' : World} {cs : List Chunk} (h : Sat ⟨W.os, W.tape, W.output⟩ W' (cs ++ [heapC W])) : Below W.heap.size W W' := by
  obtain ⟨h1, h2, h3, Z, f, _, hz, _, s⟩ := h
  obtain ⟨_, _, _, _, _, x, _⟩ := Ent0.front cs.length (cs ++ [heapC W]) (heapC W) (by simp) Z f s
  have key : ∀ b, b < W.heap.size → W'.heap[b]? = W.heap[b]? := fun b hb => by
    have e : W.heap[b]? = some W.heap[b] := by simp [hb]
    rw [e]; exact hz _ _ (x b _ e)
  refine ⟨h1, h2, h3, ?_, key⟩
  rcases Nat.lt_or_ge W'.heap.size W.heap.size with hlt | hge
  · have := key W'.heap.size hlt
    simp at this
    omega
  · exact hge
/-- A call whose contract reads lasting memory alone. -/
theorem ConV.below {P : Program} {f : FuncId} {args : List Value} {p : Per} {r : Value} (h : ConV P f args [per p] r) (W : World) (hp : p.holds (fun b => W.heap[b]?)) :
    Calls P f args.toArray W fun e W' => e = .returned r ∧ Below W.heap.size W W' := by
  refine (h _ _ W (sat_start W hp)).mono fun e W' he => ?_
  cases e with
  | returned v => obtain ⟨cs', ⟨rfl, rfl⟩, hs⟩ := he; exact ⟨rfl, below_of hs⟩
  | panicked _ => exact he.elim
  | outgrown => exact he.elim
end Go.Sep
