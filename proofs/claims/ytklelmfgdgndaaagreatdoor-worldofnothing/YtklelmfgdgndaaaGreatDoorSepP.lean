/- What came in, as the walks want it. -/
import Derived.Test.YtklelmfgdgndaaaGreatDoorSepO
import Derived.ChangeSlices
import Derived.Lib.SmallJoins
namespace Go.Sep
open Go.ChangeShapes Go.WideShapes Go.WideElems
theorem plain_of_cell {w : World} {a : Addr} {v : Value} (h : w.cell? a = some v) : a.spot = none ∧ ∃ arr T fr, w.heap[a.block]? = some (.cells arr T fr) ∧ arr[a.off]? = some v := by
  unfold World.cell? at h
  split at h
  · rename_i c T fr hb
    split at h
    · cases h
    · rename_i hs
      exact ⟨by simpa using hs, c, T, fr, hb, h⟩
  · cases h
theorem bytes_held {H : Type} {enc : TypeId × Value → H} {P : Program} {w : World} {base : Nat} {held : Bool} {fuel : Nat} {t e : TypeId} {v : Value} {x : DataW H × List MemPlace}
    (ht : P.underlying t = some (.slice e)) (he : P.underlying e = some (.int .u8)) (hc : P.cellsOf e = 1) (h : DataW.trod enc P w base (fun _ => true) held fuel t [v] = some x) :
    ∃ bs : Str, repSl (fun b => w.heap[b]?) v bs ∧ ∃ sp : List (DataW H), (x.1 = .nil ∧ bs = []) ∨ ∃ el, x.1 = .slice el sp ∧ el.length = bs.length := by
  rcases open_ints ht he hc h with ⟨h1, rfl⟩ | ⟨a, len, cap, zs, h1, _, hl, hm, hz, rfl, hcell, hwf⟩
  · injection h1 with h1 _
    subst h1
    exact ⟨[], ⟨none, 0, rfl, by simp, by simp, fun h => by simp at h⟩, [], .inl ⟨rfl, rfl⟩⟩
  · injection h1 with h1 _
    subst h1
    simp only [if_true] at hz
    have hlen : (zs.take len).length = len := by rw [List.length_take]; omega
    refine ⟨(zs.take len).map fun z => UInt8.ofNat z.toNat, ⟨some a, cap, by rw [List.length_map, hlen], by rw [List.length_map, hlen]; exact hl, by simpa [maxLen] using hm, fun hp => ?_⟩, lits .u8 (zs.drop len), .inr ⟨_, rfl, by simp [lits]⟩⟩
    rw [List.length_map, hlen] at hp
    have h0 := hcell 0 (by omega)
    have e0 : a.add 0 = a := by simp [Addr.add]
    rw [e0] at h0
    obtain ⟨hs, arr, T, fr, hb, _⟩ := plain_of_cell h0
    obtain ⟨b, o, s⟩ := a
    simp only at hs
    subst hs
    refine ⟨b, o, arr, T, fr, rfl, hb, fun i y hy => ?_⟩
    rw [List.getElem?_map] at hy
    cases hq : (zs.take len)[i]? with
    | none => rw [hq] at hy; cases hy
    | some z =>
      rw [hq] at hy
      simp only [Option.map_some, Option.some.injEq] at hy
      have hi : i < len := by have := (List.getElem?_eq_some_iff.1 hq).1; omega
      have hzi : zs[i]? = some z := by rw [List.getElem?_take, if_pos hi] at hq; exact hq
      have hc2 := hcell i (by omega)
      have hgd : zs.getD i 0 = z := by simp [hzi]
      rw [hgd, add_plain] at hc2
      obtain ⟨_, arr', T', fr', hb', ha'⟩ := plain_of_cell hc2
      simp only at hb' ha'
      rw [hb] at hb'
      injection hb' with hb'
      injection hb' with hb' _ _
      subst hb'
      have hw := hwf z (List.mem_of_getElem? hzi)
      have hr : 0 ≤ z ∧ z ≤ 255 := by simpa [Lit.wf, IntKind.min, IntKind.max, IntKind.bits, IntKind.signed] using hw
      have hy2 : (y.toNat : Int) = z := by
        rw [← hy]
        have : (UInt8.ofNat z.toNat).toNat = z.toNat % 256 := rfl
        rw [this]; omega
      refine ⟨[.int .u8 (y.toNat : Int)], Flat.flat.2 rfl, fun j u hj => ?_⟩
      cases j with
      | zero =>
        simp only [List.getElem?_cons_zero, Option.some.injEq] at hj
        subst hj
        rw [hy2, ← ha']
        show arr[o + i * 1 + 0]? = arr[o + i]?
        simp
      | succ j => simp at hj
end Go.Sep
