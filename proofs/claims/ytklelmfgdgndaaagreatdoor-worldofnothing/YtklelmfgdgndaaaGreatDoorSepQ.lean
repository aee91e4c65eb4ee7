/- From a contract of another make (all that was there before is as it was; a new row) to one over chunks. -/
import Derived.Test.YtklelmfgdgndaaaGreatDoorSepO
import Derived.Sort.KeysCollected
namespace Go.Sep
open Go.RowKit Go.MapKept Go.WideElems
theorem Frag.In.below {f : Frag} {w w' : World} (h : f.In w) (hb : Below w.heap.size w w') : f.In w' := fun b o x => by
  rw [hb.block b (h.lt x)]; exact h b o x
theorem Sat.below {E : Env0} {w w' : World} {cs : List Chunk} (h : Sat E w cs) (hb : Below w.heap.size w w') : Sat E w' cs := by
  obtain ⟨a, b, c, Z, f, d, i, j, s⟩ := h
  exact ⟨hb.os.trans a, hb.tape.trans b, hb.output.trans c, Z, f, d, i.below hb, j.below hb, s⟩
/-- A row that a call has made. -/
theorem Sat.belowRow {α : Type} [Rep α] {E : Env0} {w w' : World} {cs : List Chunk} {T : TypeId} {v : Value} {xs : List α} {cells : List Value} (h : Sat E w cs) (hb : Below w.heap.size w w')
    (hr : w'.ownsRow w.heap.size T (Rep.sz α) v xs.length cells)
    (hel : ∀ Z f, satL Z f cs → ∀ (i : Nat) (x : α), xs[i]? = some x → ∃ us, Rep.rep Z us x ∧ ∀ (j : Nat) (u : Value), us[j]? = some u → cells[i * Rep.sz α + j]? = some u) : Sat E w' (row T v xs :: cs) := by
  obtain ⟨a, b, c, Z, f, d, i, j, s⟩ := h
  obtain ⟨_, hr⟩ := hr
  rcases hr with ⟨rfl, h0⟩ | ⟨g, cap, cur, rfl, hg, hh, h1, h2, h3, h4⟩
  · have hx : xs = [] := List.eq_nil_of_length_eq_zero h0
    subst hx
    exact ⟨hb.os.trans a, hb.tape.trans b, hb.output.trans c, Z, f, d, i.below hb, j.below hb, .emp, f, .emp _, .emp _, .refl _, .inl ⟨rfl, rfl⟩, s⟩
  · have nz : ∀ q : Frag, q.In w → q g = none := fun q hq => by
      cases hx : q g with
      | none => rfl
      | some o => have := hq.lt hx; omega
    have dz : (Frag.one g (.cells cur T (0, 0))).Dj Z := Frag.one_dj (nz Z i)
    have df : (Frag.one g (.cells cur T (0, 0))).Dj f := Frag.one_dj (nz f j)
    refine ⟨hb.os.trans a, hb.tape.trans b, hb.output.trans c, Z, (Frag.one g (.cells cur T (0, 0))).cup f, (Frag.cup_dj dz d.symm).symm, i.below hb, Frag.cup_in ?_ (j.below hb), Frag.one g (.cells cur T (0, 0)), f, df, Frag.le_cup_left _ _, Frag.le_cup_right df, .inr ⟨g, cap, cur, rfl, Frag.one_self _ _, h1, by simpa [maxLen] using h2, h3, fun k x hx => ?_⟩, s⟩
    · intro k y hy
      unfold Frag.one at hy
      split at hy
      · rename_i e; subst e; rw [hh]; exact hy
      · cases hy
    · obtain ⟨us, hu, hc⟩ := hel Z f s k x hx
      refine ⟨us, hu, fun q u hq => ?_⟩
      have := hc q u hq
      rw [← h4, List.getElem?_take] at this
      split at this
      · simpa using this
      · cases this
def sortK (ks : List Str) : List Str := ks.mergeSort (fun x y => decide (x ≤ y))
theorem sortK_of_perm {a b : List Str} (h : a.Perm b) : sortK a = sortK b := mergeSort_of_perm h
/-- How a map's block reads where its elements are not asked for. -/
def noElem (_ : Value) : Option (DataW Unit × List MemPlace) := some (.nil, [])
theorem owns_mp {P : Program} {K : TypeId} {w : World} {m : Nat} {es : Array MapEntry} {clock : Nat} {l : List (Str × Value)} (hK : P.underlying K = some .string) (hb : w.heap[m]? = some (.map es clock)) (hm : mapIs es clock l)
    (hn : l.length ≤ maxLen) (hk : ∀ p ∈ l, p.1.length ≤ maxLen) : ∃ D : DataW Unit, w.ownsMap P K noElem m l.length D ∧ (strKeys D).Perm (l.map Prod.fst) ∧ Maps.size D = l.length := by
  have hsz : es.size = l.length := by have := congrArg List.length hm.2; simpa using this
  have hrd : ∀ x ∈ es.toList, ∃ k : Str, x.key = str k ∧ k.length ≤ maxLen ∧ rd P K noElem x = some (.string k, .nil) := fun x hx => by
    have : (x.key, x.val) ∈ es.toList.map (fun e => (e.key, e.val)) := List.mem_map.2 ⟨x, hx, rfl⟩
    rw [hm.2] at this
    obtain ⟨p, hp, he⟩ := List.mem_map.1 this
    injection he with h1 h2
    have h3 : x.key = str p.1 := h1.symm
    have h4 := hk p hp
    refine ⟨p.1, h3, h4, ?_⟩
    have h5 : keyOf P K (str p.1) = some (.string p.1) := by
      have : (ByteArray.mk p.1.toArray).size = p.1.length := rfl
      simp [keyOf, hK, mapKey, this, h4]
    simp [rd, h3, h5, noElem]
  refine ⟨.map ((es.toList.map (rg P K noElem)).foldr DataW.insert []), ⟨es, clock, hb, ⟨by omega, hm.1, fun x hx => ?_⟩, by omega, rfl⟩, ?_, ?_⟩
  · obtain ⟨k, _, _, h⟩ := hrd x hx; exact ⟨_, h⟩
  · show ((_ : List (Lit × DataW Unit)).map fun p => strOf p.1).Perm _
    refine ((WideShapes.sorted_perm _).map _).trans ?_
    rw [List.map_map]
    refine List.Perm.of_eq ?_
    have h1 : l.map Prod.fst = (l.map fun p => ((Key.enc p.1 : Value), p.2)).map fun q => (match q.1 with | .string s => s.data.toList | _ => []) := by
      rw [List.map_map]; rfl
    rw [h1, ← hm.2, List.map_map]
    refine List.map_congr_left fun x hx => ?_
    obtain ⟨k, e1, _, h⟩ := hrd x hx
    simp [rg, h, strOf, e1]
  · show ((es.toList.map (rg P K noElem)).foldr DataW.insert []).length = _
    rw [(WideShapes.sorted_perm _).length_eq]; simp [hsz]
/-- slices.Sorted of what maps.Keys handed back. -/
theorem sorted_con {P : Program} {f g K M : Nat} (hK : P.underlying K = some .string)
    (H : ∀ (bm b nn : Nat) (D : DataW Unit) (w : World), bm < w.heap.size → w.cell? ⟨bm, 0, none⟩ = some (.map (some b)) → w.ownsMap P K noElem b nn D → Maps.size D ≤ maxLen → Maps.size D * 16 ≤ 140737488355328 →
      Calls P f #[.func (.func g) #[] #[.pointer (some ⟨bm, 0, none⟩)]] w fun e w' => ∃ (v : Value) (ss : List (List UInt8)), e = .returned v ∧ ss.Perm (strKeys D) ∧
        w'.ownsRow w.heap.size K 1 v ss.length ((ss.mergeSort (fun x y => decide (x ≤ y))).map Proofs.encStr) ∧ (v = .slice none 0 0 ↔ ss = []) ∧ Below w.heap.size w w')
    (bm m : Nat) (l : List (Str × Value)) (hn : l.length * 16 ≤ 140737488355328) (hk : ∀ p ∈ l, p.1.length ≤ maxLen) :
    ConX P f [.func (.func g) #[] #[.pointer (some ⟨bm, 0, none⟩)]] [cel bm M [.map (some m)], mp m l] (fun v : Value => v) (fun v => [row K v (sortK (l.map Prod.fst)), cel bm M [.map (some m)], mp m l]) := by
  intro E fr w hw
  have hc := hw.celAt (i := 0) rfl 0
  have hbm : bm < w.heap.size := (Array.getElem?_eq_some_iff.1 (hw.ownAtI (i := 0) rfl)).1
  obtain ⟨es, clock, hb, hm⟩ := hw.mpAt (i := 1) rfl
  obtain ⟨D, h1, h2, h3⟩ := owns_mp hK hb hm (by simp only [maxLen]; omega) hk
  refine (H bm m _ D w hbm hc h1 (by rw [h3]; simp only [maxLen]; omega) (by rw [h3]; exact hn)).mono ?_
  rintro e w' ⟨v, ss, rfl, hp, hr, _, hbl⟩
  refine ⟨_, ⟨v, rfl, rfl⟩, ?_⟩
  have hs : sortK (l.map Prod.fst) = ss.mergeSort (fun x y => decide (x ≤ y)) := (sortK_of_perm (hp.trans h2)).symm
  rw [hs]
  refine hw.belowRow hbl (cells := (ss.mergeSort (fun x y => decide (x ≤ y))).map Proofs.encStr) (by show w'.ownsRow _ K 1 v (ss.mergeSort _).length _; rw [List.length_mergeSort]; exact hr) ?_
  intro Z f' _ i x hx
  refine ⟨[str x], Flat.flat.2 rfl, fun j u hj => ?_⟩
  cases j with
  | succ j => simp at hj
  | zero =>
    simp only [List.getElem?_cons_zero, Option.some.injEq] at hj
    subst hj
    show (List.map Proofs.encStr _)[i * 1 + 0]? = _
    simp only [Nat.mul_one, Nat.add_zero, List.getElem?_map, hx, Option.map_some]
/-- maps.Keys. -/
theorem keys_con {P : Program} {f g M : Nat} (H : ∀ (mb : Option Nat) (w : World), Calls P f #[.map mb] w fun e w' => e = .returned (.func (.func g) #[] #[.pointer (some ⟨w.heap.size, 0, none⟩)]) ∧ w' = w.alloc (.cells #[.map mb] M)) (mb : Option Nat) :
    ConX P f [.map mb] [] (fun b : Nat => .func (.func g) #[] #[.pointer (some ⟨b, 0, none⟩)]) (fun b => [cel b M [.map mb]]) := by
  intro E fr w hw
  refine (H mb w).mono ?_
  rintro e w' ⟨rfl, rfl⟩
  exact ⟨_, ⟨_, rfl, rfl⟩, hw.alloc _⟩
end Go.Sep
