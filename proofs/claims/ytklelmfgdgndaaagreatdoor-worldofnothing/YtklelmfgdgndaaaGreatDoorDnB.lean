/- A part of the proof: the walk of some functions. -/
import Derived.Test.YtklelmfgdgndaaaGreatDoorDnA
open Go Go.Sep Burg
namespace Go.Proofs

theorem part_con (b : Nat) (s : Str) (k : Nat) (hs : s.length ≤ 1048576) (hk : k ≤ s.length) : ConX Tryz.prog 39 [.pointer (some ⟨b, 0, none⟩)] [cel b 114 [str s, int k]] (fun _ : Unit => .tuple #[.agg #[str (partF s k).1.1.ty, str (partF s k).1.1.val], .bool (partF s k).1.2]) (fun _ => [cel b 114 [str s, int (partF s k).2]]) := by
  have l1 : blanksF s k ≤ s.length := (skipF_le hk).2
  have l2 : kindF s (blanksF s k) ≤ s.length := (skipF_le l1).2
  have l3 : blanksF s (kindF s (blanksF s k)) ≤ s.length := (skipF_le l2).2
  have l4 := (nextK_le (c := 61) l3).2
  have l5 : blanksF s (nextK s (blanksF s (kindF s (blanksF s k))) 61) ≤ s.length := (skipF_le l4).2
  refine con_body Tryz.func39 rfl Tryz.ntmps39 rfl fun E fr => ?_
  refine ws_seq ?_
  refine ws_region ?_
  refine wo_alloc rfl Tryz.zeroValue93 rfl fun b1 => ?_
  refine wo_pures 1 rfl ?_
  refine wo_nil ?_
  refine ws_seq ?_
  refine ws_region ?_
  refine wo_pures 1 rfl ?_
  refine wo_callx (blanks_con _ _ _ (by omega)) rfl Tryz.call79 rfl (.cons 1 rfl (.refl _)) fun _ => ?_
  refine wo_nil ?_
  refine ws_seq ?_
  refine ws_seq ?_
  refine ws_region ?_
  refine wo_pures 1 rfl ?_
  refine wo_callx (kind_con _ _ _ (by omega) (by omega)) rfl Tryz.call80 rfl (.cons 0 rfl (.refl _)) fun _ => ?_
  refine wo_pures 3 rfl ?_
  refine wo_field rfl Tryz.underlying93 rfl Tryz.sizeOf9 rfl rfl ?_
  refine wo_store 1 rfl rfl rfl rfl Tryz.sizeOf9 rfl rfl rfl rfl ?_
  refine wo_pures 1 rfl ?_
  refine wo_nil ?_
  refine ws_seq ?_
  refine ws_region ?_
  refine wo_pures 2 rfl ?_
  refine wo_nil ?_
  refine ws_cond rfl (fun h13 => ?_) (fun h13 => ?_)
  · skip
    have e1 : typeB (kindT s (blanksF s k)) = false := by simpa using h13
    refine ws_seq ?_
    refine ws_region ?_
    refine wo_loadS 1 rfl Tryz.isAgg93 Tryz.sizeOf93 rfl rfl rfl rfl ?_
    refine wo_store 1 rfl rfl rfl rfl Tryz.sizeOf93 rfl rfl rfl rfl ?_
    refine wo_pures 1 rfl ?_
    refine wo_nil ?_
    refine ws_ret ?_
    exact ⟨_, [_], retE2 rfl (.row 1 rfl Tryz.isAgg93 Tryz.sizeOf93 rfl rfl rfl) (.slot rfl), ⟨(), by simp only [partF, e1, cond_false] <;> rfl, rfl⟩, (by simp only [partF, e1, cond_false]; exact .cons 0 rfl (Ent.dropN 1 rfl))⟩
  · skip
    have e1 : typeB (kindT s (blanksF s k)) = true := by simpa using h13
    refine ws_skip ?_
    refine ws_seq ?_
    refine ws_region ?_
    refine wo_pures 1 rfl ?_
    refine wo_callx (blanks_con _ _ _ (by omega)) rfl Tryz.call79 rfl (.cons 0 rfl (.refl _)) fun _ => ?_
    refine wo_nil ?_
    refine ws_seq ?_
    refine ws_seq ?_
    refine ws_region ?_
    refine wo_pures 1 rfl ?_
    refine wo_callx (takes_con _ _ _ 61 (by omega)) rfl Tryz.call38 rfl (.cons 0 rfl (.refl _)) fun _ => ?_
    refine wo_pures 1 rfl ?_
    refine wo_nil ?_
    refine ws_cond rfl (fun h19 => ?_) (fun h19 => ?_)
    · skip
      have e2 : nextB s (blanksF s (kindF s (blanksF s k))) 61 = false := by simpa using h19
      refine ws_seq ?_
      refine ws_region ?_
      refine wo_loadS 1 rfl Tryz.isAgg93 Tryz.sizeOf93 rfl rfl rfl rfl ?_
      refine wo_store 1 rfl rfl rfl rfl Tryz.sizeOf93 rfl rfl rfl rfl ?_
      refine wo_pures 1 rfl ?_
      refine wo_nil ?_
      refine ws_ret ?_
      exact ⟨_, [_], retE2 rfl (.row 1 rfl Tryz.isAgg93 Tryz.sizeOf93 rfl rfl rfl) (.slot rfl), ⟨(), by simp only [partF, e1, e2, cond_true, cond_false] <;> rfl, rfl⟩, (by simp only [partF, e1, e2, cond_true, cond_false]; exact .cons 0 rfl (Ent.dropN 1 rfl))⟩
    · skip
      have e2 : nextB s (blanksF s (kindF s (blanksF s k))) 61 = true := by simpa using h19
      refine ws_skip ?_
      refine ws_seq ?_
      refine ws_region ?_
      refine wo_pures 1 rfl ?_
      refine wo_callx (blanks_con _ _ _ (by omega)) rfl Tryz.call79 rfl (.cons 0 rfl (.refl _)) fun _ => ?_
      refine wo_nil ?_
      refine ws_seq ?_
      refine ws_region ?_
      refine wo_pures 1 rfl ?_
      refine wo_callx (value_con _ _ _ (by omega) (by omega)) rfl Tryz.call81 rfl (.cons 0 rfl (.refl _)) fun _ => ?_
      refine wo_pures 3 rfl ?_
      refine wo_field rfl Tryz.underlying93 rfl Tryz.sizeOf9 rfl rfl ?_
      refine wo_store 1 rfl rfl rfl rfl Tryz.sizeOf9 rfl rfl rfl rfl ?_
      refine wo_pures 1 rfl ?_
      refine wo_nil ?_
      refine ws_seq ?_
      refine ws_region ?_
      refine wo_loadS 1 rfl Tryz.isAgg93 Tryz.sizeOf93 rfl rfl rfl rfl ?_
      refine wo_pures 1 rfl ?_
      refine wo_store 1 rfl rfl rfl rfl Tryz.sizeOf93 rfl rfl rfl rfl ?_
      refine wo_pures 1 rfl ?_
      refine wo_nil ?_
      refine ws_ret ?_
      exact ⟨_, [_], retE2 rfl (.row 1 rfl Tryz.isAgg93 Tryz.sizeOf93 rfl rfl rfl) (.slot rfl), ⟨(), by simp only [partF, e1, e2, cond_true] <;> rfl, rfl⟩, (by simp only [partF, e1, e2, cond_true]; exact .cons 0 rfl (Ent.dropN 1 rfl))⟩
theorem isAva_con (a : Ava) (h1 : a.ty.length ≤ 1048576) (h2 : a.val.length ≤ 1048576) : ConV Tryz.prog 83 [.agg #[str a.ty, str a.val]] [] (.bool (badAva a)) := by
  refine con_body Tryz.func83 rfl Tryz.ntmps83 rfl fun E fr => ?_
  refine ws_seq ?_
  refine ws_region ?_
  refine wo_box rfl rfl rfl fun b1 => ?_
  refine wo_pures 1 rfl ?_
  refine wo_nil ?_
  refine ws_seq ?_
  refine ws_region ?_
  refine wo_field rfl Tryz.underlying93 rfl Tryz.sizeOf9 rfl rfl ?_
  refine wo_load 0 rfl Tryz.isAgg9 rfl rfl rfl ?_
  refine wo_callp (dnType_con _ (by first | omega | (simp only [List.length_take, List.length_drop, List.length_append]; omega))) rfl Tryz.call84 rfl ?_
  refine wo_pures 2 rfl ?_
  refine wo_or 3 4 rfl rfl rfl rfl rfl rfl rfl (fun hp11 => by
    refine wo_field rfl Tryz.underlying93 rfl Tryz.sizeOf9 rfl rfl ?_
    refine wo_load 0 rfl Tryz.isAgg9 rfl rfl rfl ?_
    refine wo_pures 1 rfl ?_
    exact wo_nil ⟨rfl, Env.Sub.news 3 rfl rfl, Ent.refl _⟩) ?_
  refine wo_pures 1 rfl ?_
  refine wo_or 4 9 rfl rfl rfl rfl rfl rfl rfl (fun hp17 => by
    refine wo_field rfl Tryz.underlying93 rfl Tryz.sizeOf9 rfl rfl ?_
    refine wo_load 0 rfl Tryz.isAgg9 rfl rfl rfl ?_
    refine wo_len_str rfl Tryz.underlying9 rfl ?_
    refine wo_pures 1 rfl ?_
    exact wo_nil ⟨rfl, Env.Sub.news 4 rfl rfl, Ent.refl _⟩) ?_
  refine wo_pures 1 rfl ?_
  refine wo_nil ?_
  refine ws_ret ?_
  exact ⟨_, _, ret1 rfl rfl, ⟨rfl, rfl⟩, Ent.dropN 1 rfl⟩
theorem indexAva_con (v : Value) (xs : List Ava) (hx : ∀ a ∈ xs, a.ty.length ≤ 1048576 ∧ a.val.length ≤ 1048576) : ConV Tryz.prog 164 [v, .func (.func 83) #[] #[]] [dat v xs] (int (findF badAva xs)) := by
  refine con_body Tryz.func164 rfl Tryz.ntmps164 rfl fun E fr => ?_
  refine ws_seq ?_
  refine ws_region ?_
  refine wo_pures 1 rfl ?_
  refine wo_nil ?_
  refine ws_seq ?_
  refine ws_seq ?_
  refine ws_region ?_
  refine wo_pures 1 rfl ?_
  refine wo_len_dat 0 rfl Tryz.underlying60 rfl rfl fun hl1 => ?_
  refine wo_pures 1 rfl ?_
  refine wo_nil ?_
  refine ws_block ?_
  refine ws_loopk (X := Nat) (fun k => [(8, int k)]) (fun k => [dat v xs]) (fun k => k ≤ xs.length ∧ (xs.take k).all (fun a => !badAva a) = true) (fun k => xs.length - k) 0 [0, 1, 7] rfl fr ⟨by omega, by simp⟩ (by repeat (first | exact .nil | refine .cons rfl ?_)) (Ent.refl _) fun k hok => ?_
  refine ws_seq ?_
  refine ws_region ?_
  refine wo_pures 1 rfl ?_
  refine wo_nil ?_
  refine ws_seq ?_
  refine ws_cond rfl (fun h9 => ?_) (fun h9 => ?_)
  · skip
    have hk : k < xs.length := lt_of_dec h9
    obtain ⟨z, hz⟩ : ∃ z, xs[k]? = some z := ⟨_, List.getElem?_eq_getElem hk⟩
    have hzz := hx z (List.mem_of_getElem? hz)
    refine ws_skip ?_
    refine ws_seq ?_
    refine ws_block ?_
    refine ws_seq ?_
    refine ws_region ?_
    refine wo_pures 2 rfl ?_
    refine wo_nil ?_
    refine ws_seq ?_
    refine ws_region ?_
    refine wo_pures 3 rfl ?_
    refine wo_indexAddrF 0 rfl Tryz.underlying60 Tryz.sizeOf93 rfl rfl rfl (by assumption) fun b2 o3 => ?_
    refine wo_iloadS (j := 0) 0 rfl Tryz.isAgg93 Tryz.sizeOf93 rfl rfl rfl rfl rfl ?_
    refine wo_fvr (isAva_con z (by omega) (by omega)) rfl rfl Tryz.call83 rfl rfl (.refl _) ?_
    refine wo_nil ?_
    refine ws_cond rfl (fun h16 => ?_) (fun h16 => ?_)
    · skip
      refine ws_seq ?_
      refine ws_region ?_
      refine wo_pures 2 rfl ?_
      refine wo_nil ?_
      refine ws_ret ?_
      have e1 := findF_at hok.2 hz h16
      exact ⟨_, _, ret1 rfl rfl, ⟨by rw [e1], rfl⟩, Ent.dropN 2 rfl⟩
    · skip
      refine ws_skip ?_
      refine ws_region ?_
      refine wo_add rfl rfl rfl rfl (by omega) ?_
      refine wo_pures 1 rfl ?_
      refine wo_nil ?_
      exact ⟨k + 1, ⟨by omega, all_take_succ hok.2 hz (by simpa using h16)⟩, (by first | omega | (dsimp only; omega)), (by repeat (first | exact .nil | refine .cons rfl ?_)), (by repeat (first | exact .nil | refine .cons rfl ?_)), Ent.dropN 1 rfl⟩
  · skip
    have hk : k = xs.length := by have h1 := hok.1; have h2 := of_decide_eq_false h9; omega
    refine ws_exit ?_
    refine ws_seq ?_
    refine ws_region ?_
    refine wo_pures 1 rfl ?_
    refine wo_nil ?_
    refine ws_ret ?_
    have h3 := hok.2
    rw [hk, List.take_length] at h3
    exact ⟨_, _, ret1 rfl rfl, ⟨by rw [findF_none h3], rfl⟩, Ent.dropN 1 rfl⟩
theorem containsAva_con (v : Value) (xs : List Ava) (hx : ∀ a ∈ xs, a.ty.length ≤ 1048576 ∧ a.val.length ≤ 1048576) : ConV Tryz.prog 82 [v, .func (.func 83) #[] #[]] [dat v xs] (.bool (xs.any badAva)) := by
  refine con_body Tryz.func82 rfl Tryz.ntmps82 rfl fun E fr => ?_
  refine ws_seq ?_
  refine ws_region ?_
  refine wo_pures 1 rfl ?_
  refine wo_nil ?_
  refine ws_seq ?_
  refine ws_region ?_
  refine wo_pures 2 rfl ?_
  refine wo_callr (indexAva_con _ _ (by assumption)) rfl Tryz.call164 rfl (.dup 0 rfl (.refl _)) ?_
  refine wo_pures 2 rfl ?_
  refine wo_nil ?_
  refine ws_ret ?_
  exact ⟨_, _, ret1 rfl rfl, ⟨by rw [← findF_any], rfl⟩, Ent.dropN 1 rfl⟩
theorem dnIs_con (v : Value) (xs : List Ava) (hx : ∀ a ∈ xs, a.ty.length ≤ 1048576 ∧ a.val.length ≤ 1048576) : ConV Tryz.prog 40 [v] [dat v xs] (.bool (nameOk xs)) := by
  refine con_body Tryz.func40 rfl Tryz.ntmps40 rfl fun E fr => ?_
  refine ws_seq ?_
  refine ws_region ?_
  refine wo_pures 1 rfl ?_
  refine wo_nil ?_
  refine ws_seq ?_
  refine ws_region ?_
  refine wo_pures 1 rfl ?_
  refine wo_len_dat 0 rfl Tryz.underlying60 rfl rfl fun hl1 => ?_
  refine wo_pures 2 rfl ?_
  refine wo_and 3 3 rfl rfl rfl rfl rfl rfl rfl (fun hp10 => by
    refine wo_pures 1 rfl ?_
    refine wo_callr (containsAva_con _ _ (by assumption)) rfl Tryz.call82 rfl (.dup 0 rfl (.refl _)) ?_
    refine wo_pures 1 rfl ?_
    exact wo_nil ⟨rfl, Env.Sub.news 3 rfl rfl, Ent.refl _⟩) ?_
  refine wo_pures 1 rfl ?_
  refine wo_nil ?_
  refine ws_ret ?_
  exact ⟨_, _, ret1 rfl rfl, ⟨rfl, rfl⟩, Ent.dropN 1 rfl⟩
theorem parse_con (s : Str) (hs : s.length ≤ 1048576) : ConX Tryz.prog 24 [str s] [] (fun v : Value => .tuple #[v, int (parseF s).2]) (fun v => [dat v (parseF s).1]) := by
  refine con_body Tryz.func24 rfl Tryz.ntmps24 rfl fun E fr => ?_
  refine ws_seq ?_
  refine ws_region ?_
  refine wo_pures 2 rfl ?_
  refine wo_nil ?_
  refine ws_seq ?_
  refine ws_seq ?_
  refine ws_region ?_
  refine wo_pures 2 rfl ?_
  refine wo_nil ?_
  refine ws_cond rfl (fun h10 => ?_) (fun h10 => ?_)
  · skip
    refine ws_seq ?_
    refine ws_region ?_
    refine wo_pures 2 rfl ?_
    refine wo_nil ?_
    refine ws_ret ?_
    have hv : parseF s = ([], 0) := by rw [parseF, h10]; rfl
    exact ⟨_, [_], ret2 rfl rfl rfl, ⟨_, by rw [hv], rfl⟩, (by rw [hv]; exact Ent.datNil _)⟩
  · skip
    refine ws_skip ?_
    refine ws_seq ?_
    refine ws_region ?_
    refine wo_pures 1 rfl ?_
    refine wo_nil ?_
    refine ws_seq ?_
    refine ws_region ?_
    refine wo_pures 1 rfl ?_
    refine wo_build (us := [str s, int 0]) rfl rfl (by kernel_rfl) ?_
    refine wo_box rfl rfl rfl fun b1 => ?_
    refine wo_pures 1 rfl ?_
    refine wo_nil ?_
    refine ws_seq ?_
    refine ws_seq ?_
    refine ws_region ?_
    refine wo_pures 1 rfl ?_
    refine wo_nil ?_
    refine ws_block ?_
    refine ws_loopk (X := PSt) (fun x => [(4, x.v), (6, .bool x.m)]) (fun x => [cel b1 114 [str s, int x.j], row 93 x.v x.l]) (fun x => parseL s x.n x.j x.l x.m = parseL s (s.length + 2) 0 [] true ∧ s.length + 2 ≤ x.j + x.n ∧ x.j ≤ s.length ∧ x.l.length ≤ x.j ∧ ∀ a ∈ x.l, a.ty.length ≤ 1048576 ∧ a.val.length ≤ 1048576) (fun x => x.n) ⟨0, .slice none 0 0, [], true, s.length + 2⟩ [5] rfl fr ⟨rfl, by dsimp only; omega, Nat.zero_le _, Nat.zero_le _, fun _ h => by cases h⟩ (by repeat (first | exact .nil | refine .cons rfl ?_)) ((Ent.rowNil 93 _).trans (Ent.swap _ _ _)) fun x hok => ?_
    obtain ⟨o1, o2, o3, o5, o4⟩ := hok
    obtain ⟨m, hm⟩ : ∃ m, x.n = m + 1 := ⟨x.n - 1, by omega⟩
    rw [hm, parseL] at o1
    refine ws_seq ?_
    refine ws_seq ?_
    refine ws_region ?_
    refine wo_pures 1 rfl ?_
    refine wo_nil ?_
    refine ws_cond rfl (fun h14 => ?_) (fun h14 => ?_)
    · skip
      rw [h14, cond_true] at o1
      have hp := partF_le o3
      have hlen := partF_len (s := s) (k := x.j)
      refine ws_skip ?_
      refine ws_seq ?_
      refine ws_block ?_
      refine ws_seq ?_
      refine ws_region ?_
      refine wo_pures 1 rfl ?_
      refine wo_callx (part_con _ _ _ (by omega) (by omega)) rfl Tryz.call39 rfl (.cons 0 rfl (.refl _)) fun _ => ?_
      refine wo_pures 3 rfl ?_
      refine wo_alloc rfl Tryz.zeroValue93 rfl fun b2 => ?_
      refine wo_store 0 rfl rfl rfl rfl Tryz.sizeOf93 rfl rfl rfl rfl ?_
      refine wo_pures 1 rfl ?_
      refine wo_nil ?_
      refine ws_seq ?_
      refine ws_seq ?_
      refine ws_region ?_
      refine wo_pures 2 rfl ?_
      refine wo_nil ?_
      refine ws_cond rfl (fun h23 => ?_) (fun h23 => ?_)
      · skip
        have h23 : (partF s x.j).1.2 = false := by simpa using h23
        rw [h23, cond_false] at o1
        refine ws_seq ?_
        refine ws_region ?_
        refine wo_pures 2 rfl ?_
        refine wo_nil ?_
        refine ws_ret ?_
        have hv : parseF s = _ := (parseF_ne h10).trans o1.symm
        exact ⟨_, [_], ret2 rfl rfl rfl, ⟨_, by rw [hv], rfl⟩, (by rw [hv]; exact (Ent.datNil _).trans (.cons 0 rfl (Ent.dropN 3 rfl)))⟩
      · skip
        have h23 : (partF s x.j).1.2 = true := by simpa using h23
        rw [h23, cond_true] at o1
        have hp2 := hp.2 h23
        have hnk := nextK_le (c := 44) hp.1
        have okAll : ∀ a ∈ x.l ++ [(partF s x.j).1.1], a.ty.length ≤ 1048576 ∧ a.val.length ≤ 1048576 := fun a ha => (List.mem_append.1 ha).elim (o4 a) (fun hb => by rw [List.mem_singleton.1 hb]; omega)
        refine ws_skip ?_
        refine ws_region ?_
        refine wo_pures 1 rfl ?_
        refine wo_loadS 0 rfl Tryz.isAgg93 Tryz.sizeOf93 rfl rfl rfl rfl ?_
        refine wo_buildSlice [(partF s x.j).1.1] elt_60 rfl rfl rfl rfl rfl rfl rfl (fun _ _ _ => flats rfl) fun v3 => ?_
        refine wo_append_row elt_60 rfl rfl rfl (room_of (k := 32) rfl (by first | omega | (simp only [List.length_append, List.length_cons, List.length_nil]; omega))) (.cons 3 rfl (.cons 0 rfl (.refl _))) fun v4 => ?_
        refine wo_pures 1 rfl ?_
        refine wo_nil ?_
        refine ws_region ?_
        refine wo_pures 1 rfl ?_
        refine wo_callx (takes_con _ _ _ 44 (by omega)) rfl Tryz.call38 rfl (.cons 2 rfl (.refl _)) fun _ => ?_
        refine wo_pures 1 rfl ?_
        refine wo_nil ?_
        exact ⟨⟨nextK s (partF s x.j).2 44, v4, x.l ++ [(partF s x.j).1.1], nextB s (partF s x.j).2 44, m⟩, ⟨o1, by dsimp only; omega, by dsimp only; omega, by dsimp only; simp only [List.length_append, List.length_cons, List.length_nil]; omega, okAll⟩, (by first | omega | (dsimp only; omega)), (by repeat (first | exact .nil | refine .cons rfl ?_)), (by repeat (first | exact .nil | refine .cons rfl ?_)), (.cons 0 rfl (.cons 0 rfl (Ent.dropN 1 rfl)))⟩
    · skip
      rw [h14, cond_false] at o1
      refine ws_exit ?_
      refine ws_seq ?_
      refine ws_seq ?_
      refine ws_region ?_
      refine wo_pures 1 rfl ?_
      refine WO.ent (Ent.rowDatI 1 rfl) ?_
      refine wo_callr (dnIs_con _ _ (by assumption)) rfl Tryz.call40 rfl (.dup 0 rfl (.refl _)) ?_
      refine wo_pures 1 rfl ?_
      refine wo_nil ?_
      refine ws_cond rfl (fun h30 => ?_) (fun h30 => ?_)
      · skip
        have h30 : nameOk x.l = false := by simpa using h30
        rw [h30, cond_false] at o1
        refine ws_seq ?_
        refine ws_region ?_
        refine wo_pures 2 rfl ?_
        refine wo_nil ?_
        refine ws_ret ?_
        have hv : parseF s = _ := (parseF_ne h10).trans o1.symm
        exact ⟨_, [_], ret2 rfl rfl rfl, ⟨_, by rw [hv], rfl⟩, (by rw [hv]; exact (Ent.datNil _).trans (.cons 0 rfl (Ent.dropN 2 rfl)))⟩
      · skip
        have h30 : nameOk x.l = true := by simpa using h30
        rw [h30, cond_true] at o1
        refine ws_skip ?_
        refine ws_seq ?_
        refine ws_region ?_
        refine wo_pures 3 rfl ?_
        refine wo_nil ?_
        refine ws_ret ?_
        have hv : parseF s = _ := (parseF_ne h10).trans o1.symm
        exact ⟨_, [_], ret2 rfl rfl rfl, ⟨_, by rw [hv], rfl⟩, (by rw [hv]; exact .cons 0 rfl (Ent.dropN 1 rfl))⟩
end Go.Proofs
