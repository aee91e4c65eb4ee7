/- Steps of a world. -/
import Derived.Test.YtklelmfgdgndaaaGreatDoorDnSpec
import Derived.Test.YtklelmfgdgndaaaGreatDoorSepN
namespace Burg
open Go Go.Sep
structure StepD where
  kind : Int
  conn : Int
  n : Int
  data : Str
instance : Rep StepD where
  sz := 4
  bytes := 48
  rep := fun Z us x => ∃ v, us = [int x.kind, int x.conn, int x.n, v] ∧ repSl Z v x.data
  mono := fun l ⟨v, h, k⟩ => ⟨v, h, repSl.mono l k⟩
  len := fun ⟨v, h, _⟩ => by rw [h]; rfl
  one := fun ⟨v, h, a, c, hv, _⟩ u hu => by
    rw [h] at hu
    simp only [List.mem_cons, List.not_mem_nil, or_false] at hu
    rcases hu with rfl | rfl | rfl | rfl
    · rfl
    · rfl
    · rfl
    · rw [hv]; rfl
  pos := by omega
  bpos := by omega
section
variable {P : Program} {N : Nat} {E : Env0} {ops : Array Oper} {K : Env → List Chunk → Prop} {e : Env} {cs : List Chunk}
theorem wo_open_step {us : List Value} {z : StepD} (i : Nat) {l : List Oper} (hi : cs[i]? = some (repc us z)) (h : ∀ v, us = [int z.kind, int z.conn, int z.n, v] → WO P N E ops l K e (dat v z.data :: cs)) : WO P N E ops l K e cs :=
  fun Q ho hQ a w ha hw => by
    obtain ⟨Z, f, _, _, _, _, v, hv, _⟩ := hw.perAt hi
    refine h v hv Q ho hQ a w ha (hw.ent (Ent.perI fun Z f x => ?_))
    obtain ⟨f1, f2, d, l1, l2, ⟨v', hv', y⟩, r⟩ := Ent0.front i cs _ hi Z f x
    rw [hv] at hv'
    injection hv' with _ hv'
    injection hv' with _ hv'
    injection hv' with _ hv'
    injection hv' with hv' _
    subst hv'
    exact y
end
def longG : List StepD → Nat → Int → Bool
  | [], _, _ => false
  | x :: l, i, n => cond (decide ((i : Int) < 40)) (cond (decide (n + 1 + (x.data.length : Int) > 6000)) true (longG l (i + 1) (n + 1 + x.data.length))) false
def longB (l : List StepD) : Bool := longG l 0 0
theorem longG_at {xs : List StepD} {k : Nat} {z : StepD} {n : Int} (hz : xs[k]? = some z) : longG (xs.drop k) k n = cond (decide ((k : Int) < 40)) (cond (decide (n + 1 + (z.data.length : Int) > 6000)) true (longG (xs.drop (k + 1)) (k + 1) (n + 1 + z.data.length))) false := by
  obtain ⟨hlt, hx⟩ := List.getElem?_eq_some_iff.1 hz
  rw [List.drop_eq_getElem_cons hlt, hx]; rfl
theorem longG_end {xs : List StepD} {k i : Nat} {n : Int} (h : xs.length ≤ k) : longG (xs.drop k) i n = false := by rw [List.drop_eq_nil_of_le h]; rfl
structure LSt where
  k : Nat
  n : Int
/-- A row of bytes as an element. -/
structure Byt where
  b : List UInt8
instance : Rep Byt where
  sz := 1
  bytes := 24
  rep := fun Z us x => ∃ v, us = [v] ∧ repSl Z v x.b
  mono := fun l ⟨v, h, k⟩ => ⟨v, h, repSl.mono l k⟩
  len := fun ⟨v, h, _⟩ => by rw [h]; rfl
  one := fun ⟨v, h, a, c, hv, _⟩ u hu => by
    rw [h] at hu
    simp only [List.mem_cons, List.not_mem_nil, or_false] at hu
    subst hu; rw [hv]; rfl
  pos := by omega
  bpos := by omega
theorem repNil {α : Type} [Rep α] {Z : Frag} : repSl (α := α) Z (.slice none 0 0) [] := ⟨none, 0, rfl, by simp, by simp, fun h => by simp at h⟩
theorem satDat {α : Type} [Rep α] {cs : List Chunk} {v : Value} {xs : List α} (i : Nat) (h : cs[i]? = some (dat v xs)) {Z f : Frag} (x : satL Z f cs) : repSl Z v xs := by
  obtain ⟨f1, f2, d, l1, l2, y, z⟩ := Ent0.front i cs _ h Z f x
  exact y
theorem repl_succ {α : Type} {n : Nat} {x : α} : List.replicate n x ++ [x] = List.replicate (n + 1) x := by rw [List.replicate_succ', ]
end Burg
