/- A part of the proof: the walk of some functions. -/
import Derived.Test.YtklelmfgdgndaaaGreatDoorDnB
import Derived.Test.YtklelmfgdgndaaaGreatDoorSepN
import Derived.Test.YtklelmfgdgndaaaGreatDoorIter
open Go Go.Sep Burg
namespace Go.Proofs
theorem elt_44 : ElT Tryz.prog Str 44 9 := .of Tryz.underlying44 (by kernel_rfl)
theorem elt_248 : ElT Tryz.prog Cell1 248 50 := .of Tryz.underlying248 (by kernel_rfl)

theorem diskNew_con (room : Int) (h0 : 0 ≤ room) (h1 : room ≤ 1073741824) : ConX Tryz.prog 22 [int room] [] (fun x : Nat × Nat => .tuple #[.pointer (some ⟨x.1, 0, none⟩), int 0]) (fun x => [cel x.1 76 [int room, .map (some x.2), .bool false, int 0], mp x.2 ([] : List (Str × Value))]) := by
  refine con_body Tryz.func22 rfl Tryz.ntmps22 rfl fun E fr => ?_
  refine ws_seq ?_
  refine ws_region ?_
  refine wo_pures 2 rfl ?_
  refine wo_nil ?_
  refine ws_seq ?_
  refine ws_seq ?_
  refine ws_region ?_
  refine wo_pures 3 rfl ?_
  refine wo_or 2 2 rfl rfl rfl rfl rfl rfl rfl (fun hp9 => by
    refine wo_pures 2 rfl ?_
    exact wo_nil ⟨rfl, Env.Sub.news 2 rfl rfl, Ent.refl _⟩) ?_
  refine wo_nil ?_
  refine ws_cond rfl (fun h9 => ?_) (fun h9 => ?_)
  · skip
    exfalso; simp at h9; omega
  · skip
    refine ws_skip ?_
    refine ws_seq ?_
    refine ws_region ?_
    refine wo_pures 1 rfl ?_
    refine wo_makeMap (List UInt8) rfl fun m1 => ?_
    refine wo_build (us := [int room, .map (some m1), .bool false, int 0]) rfl rfl (by kernel_rfl) ?_
    refine wo_box rfl rfl rfl fun b2 => ?_
    refine wo_pures 2 rfl ?_
    refine wo_nil ?_
    refine ws_ret ?_
    exact ⟨_, [_, _], ret2 rfl rfl rfl, ⟨(b2, m1), rfl, rfl⟩, Ent.refl _⟩
theorem diskRead_con (d m : Nat) (room : Int) (s : Str) : ConR Tryz.prog 237 [.pointer (some ⟨d, 0, none⟩), str s] [cel d 76 [int room, .map (some m), .bool false, int 0], mp m ([] : List (Str × Value))] (.tuple #[.slice none 0 0, int 7]) := by
  refine con_body Tryz.func237 rfl Tryz.ntmps237 rfl fun E fr => ?_
  refine ws_seq ?_
  refine ws_region ?_
  refine wo_pures 2 rfl ?_
  refine wo_nil ?_
  refine ws_seq ?_
  refine ws_seq ?_
  refine ws_region ?_
  refine wo_pures 1 rfl ?_
  refine wo_ptr_nil rfl Tryz.underlying42 rfl rfl rfl ?_
  refine wo_pures 1 rfl ?_
  refine wo_pures 2 rfl ?_
  refine wo_field rfl Tryz.underlying76 rfl Tryz.sizeOf74 rfl rfl ?_
  refine wo_load 0 rfl Tryz.isAgg74 rfl rfl rfl ?_
  refine wo_pures 1 rfl ?_
  refine wo_lookup 1 rfl Tryz.underlying74 Tryz.underlying9 Tryz.zeroValue77 rfl rfl rfl ?_
  refine wo_ptr_nil rfl Tryz.underlying77 rfl rfl rfl ?_
  refine wo_pures 1 rfl ?_
  refine wo_nil ?_
  refine ws_cond1 rfl ?_
  refine ws_seq ?_
  refine ws_region ?_
  refine wo_pures 2 rfl ?_
  refine wo_nil ?_
  refine ws_ret ?_
  exact ⟨_, _, ret2 rfl rfl rfl, ⟨rfl, rfl⟩, Ent.refl _⟩
theorem diskList_con (d m : Nat) (room : Int) (x y : Value) (l : List (Str × Value)) (hn : l.length * 16 ≤ 140737488355328) (hk : ∀ p ∈ l, p.1.length ≤ maxLen) : ConX Tryz.prog 158 [.pointer (some ⟨d, 0, none⟩)] [cel d 76 [int room, .map (some m), x, y], mp m l] (fun v : Value => v) (fun v => [dat v (sortK (l.map Prod.fst)), cel d 76 [int room, .map (some m), x, y], mp m l]) := by
  refine con_body Tryz.func158 rfl Tryz.ntmps158 rfl fun E fr => ?_
  refine ws_seq ?_
  refine ws_region ?_
  refine wo_pures 1 rfl ?_
  refine wo_nil ?_
  refine ws_seq ?_
  refine ws_seq ?_
  refine ws_region ?_
  refine wo_pures 1 rfl ?_
  refine wo_ptr_nil rfl Tryz.underlying42 rfl rfl rfl ?_
  refine wo_nil ?_
  refine ws_cond0 rfl ?_
  refine ws_skip ?_
  refine ws_seq ?_
  refine ws_region ?_
  refine wo_pures 2 rfl ?_
  refine wo_field rfl Tryz.underlying76 rfl Tryz.sizeOf74 rfl rfl ?_
  refine wo_load 0 rfl Tryz.isAgg74 rfl rfl rfl ?_
  refine wo_callx (keys253_con _) rfl Tryz.call253 rfl (.refl _) fun b1 => ?_
  refine wo_callx (sortedKeys253_con _ _ _ hn hk) rfl Tryz.call252 rfl (.cons 0 rfl (.cons 1 rfl (.refl _))) fun v2 => ?_
  refine wo_pures 1 rfl ?_
  refine wo_nil ?_
  refine ws_ret ?_
  exact ⟨_, [_, _, _], ret1 rfl rfl, ⟨_, rfl, rfl⟩, (Ent.rowDatI 0 rfl).trans (.cons 0 rfl (.cons 2 rfl (.cons 1 rfl (Ent.dropN 1 rfl))))⟩
theorem diskList0_con (d m : Nat) (room : Int) : ConX Tryz.prog 158 [.pointer (some ⟨d, 0, none⟩)] [cel d 76 [int room, .map (some m), .bool false, int 0], mp m ([] : List (Str × Value))] (fun v : Value => v) (fun v => [dat v ([] : List Str), cel d 76 [int room, .map (some m), .bool false, int 0], mp m ([] : List (Str × Value))]) := by
  have h := diskList_con d m room (.bool false) (int 0) [] (by decide) (fun _ h => by cases h)
  simpa only [sortK, List.map_nil, List.mergeSort_nil] using h
theorem indexStr_con (v : Value) (xs : List Str) (s : Str) : ConV Tryz.prog 193 [v, str s] [dat v xs] (int (findF (fun x => decide (s = x)) xs)) := by
  refine con_body Tryz.func193 rfl Tryz.ntmps193 rfl fun E fr => ?_
  refine ws_seq ?_
  refine ws_region ?_
  refine wo_pures 1 rfl ?_
  refine wo_nil ?_
  refine ws_seq ?_
  refine ws_seq ?_
  refine ws_region ?_
  refine wo_pures 1 rfl ?_
  refine wo_len_dat 0 rfl Tryz.underlying44 rfl rfl fun hl1 => ?_
  refine wo_pures 1 rfl ?_
  refine wo_nil ?_
  refine ws_block ?_
  refine ws_loopk (X := Nat) (fun k => [(8, int k)]) (fun k => [dat v xs]) (fun k => k ≤ xs.length ∧ (xs.take k).all (fun x => !decide (s = x)) = true) (fun k => xs.length - k) 0 [0, 1, 7] rfl fr ⟨by omega, by simp⟩ (by repeat (first | exact .nil | refine .cons rfl ?_)) (Ent.refl _) fun k hok => ?_
  refine ws_seq ?_
  refine ws_region ?_
  refine wo_pures 1 rfl ?_
  refine wo_nil ?_
  refine ws_seq ?_
  refine ws_cond rfl (fun h9 => ?_) (fun h9 => ?_)
  · skip
    have hk : k < xs.length := lt_of_dec h9
    obtain ⟨z, hz⟩ : ∃ z, xs[k]? = some z := ⟨_, List.getElem?_eq_getElem hk⟩
    refine ws_skip ?_
    refine ws_seq ?_
    refine ws_block ?_
    refine ws_seq ?_
    refine ws_region ?_
    refine wo_pures 2 rfl ?_
    refine wo_nil ?_
    refine ws_seq ?_
    refine ws_region ?_
    refine wo_pures 3 rfl ?_
    refine wo_indexAddrF 0 rfl Tryz.underlying44 Tryz.sizeOf9 rfl rfl rfl (by assumption) fun b2 o3 => ?_
    refine wo_iload (j := 0) 0 rfl Tryz.isAgg9 rfl rfl rfl rfl ?_
    refine wo_pures 1 rfl ?_
    refine wo_nil ?_
    refine ws_cond rfl (fun h16 => ?_) (fun h16 => ?_)
    · skip
      refine ws_seq ?_
      refine ws_region ?_
      refine wo_pures 2 rfl ?_
      refine wo_nil ?_
      refine ws_ret ?_
      have e1 := findF_at (p := fun x => decide (s = x)) hok.2 hz h16
      exact ⟨_, _, ret1 rfl rfl, ⟨by rw [e1], rfl⟩, Ent.dropN 2 rfl⟩
    · skip
      refine ws_skip ?_
      refine ws_region ?_
      refine wo_add rfl rfl rfl rfl (by omega) ?_
      refine wo_pures 1 rfl ?_
      refine wo_nil ?_
      exact ⟨k + 1, ⟨by omega, all_take_succ (p := fun x => !decide (s = x)) hok.2 hz (by rw [h16]; rfl)⟩, (by first | omega | (dsimp only; omega)), (by repeat (first | exact .nil | refine .cons rfl ?_)), (by repeat (first | exact .nil | refine .cons rfl ?_)), Ent.dropN 1 rfl⟩
  · skip
    have hk : k = xs.length := by have h1 := hok.1; have h2 := of_decide_eq_false h9; omega
    refine ws_exit ?_
    refine ws_seq ?_
    refine ws_region ?_
    refine wo_pures 1 rfl ?_
    refine wo_nil ?_
    refine ws_ret ?_
    have h3 := hok.2
    rw [hk, List.take_length] at h3
    exact ⟨_, _, ret1 rfl rfl, ⟨by rw [findF_none h3], rfl⟩, Ent.dropN 1 rfl⟩
theorem containsStr_con (v : Value) (xs : List Str) (s : Str) : ConV Tryz.prog 106 [v, str s] [dat v xs] (.bool (xs.any fun x => decide (s = x))) := by
  refine con_body Tryz.func106 rfl Tryz.ntmps106 rfl fun E fr => ?_
  refine ws_seq ?_
  refine ws_region ?_
  refine wo_pures 1 rfl ?_
  refine wo_nil ?_
  refine ws_seq ?_
  refine ws_region ?_
  refine wo_pures 2 rfl ?_
  refine wo_callr (indexStr_con _ _ _) rfl Tryz.call193 rfl (.dup 0 rfl (.refl _)) ?_
  refine wo_pures 2 rfl ?_
  refine wo_nil ?_
  refine ws_ret ?_
  exact ⟨_, _, ret1 rfl rfl, ⟨by rw [← findF_any], rfl⟩, Ent.dropN 1 rfl⟩
theorem has0_con (d m : Nat) (room : Int) (s : Str) : ConR Tryz.prog 235 [.pointer (some ⟨d, 0, none⟩), str s] [cel d 76 [int room, .map (some m), .bool false, int 0], mp m ([] : List (Str × Value))] (.bool false) := by
  refine con_body Tryz.func235 rfl Tryz.ntmps235 rfl fun E fr => ?_
  refine ws_seq ?_
  refine ws_region ?_
  refine wo_pures 1 rfl ?_
  refine wo_nil ?_
  refine ws_seq ?_
  refine ws_region ?_
  refine wo_pures 1 rfl ?_
  refine wo_callx (diskList0_con _ _ _) rfl Tryz.call158 rfl (.cons 0 rfl (.cons 0 rfl (.refl _))) fun v1 => ?_
  refine wo_pures 1 rfl ?_
  refine wo_callr (containsStr_con _ _ _) rfl Tryz.call106 rfl (.dup 0 rfl (.refl _)) ?_
  refine wo_pures 1 rfl ?_
  refine wo_nil ?_
  refine ws_ret ?_
  exact ⟨_, _, ret1 rfl rfl, ⟨rfl, rfl⟩, Ent.dropN 1 rfl⟩
theorem removes0_con (d m : Nat) (room : Int) (v : Value) (xs : List Str) : ConR Tryz.prog 232 [.pointer (some ⟨d, 0, none⟩), v] [cel d 76 [int room, .map (some m), .bool false, int 0], mp m ([] : List (Str × Value)), dat v xs] (int 0) := by
  refine con_body Tryz.func232 rfl Tryz.ntmps232 rfl fun E fr => ?_
  refine ws_seq ?_
  refine ws_region ?_
  refine wo_pures 1 rfl ?_
  refine wo_nil ?_
  refine ws_seq ?_
  refine ws_seq ?_
  refine ws_region ?_
  refine wo_pures 1 rfl ?_
  refine wo_len_dat 2 rfl Tryz.underlying44 rfl rfl fun hl1 => ?_
  refine wo_pures 1 rfl ?_
  refine wo_nil ?_
  refine ws_block ?_
  refine ws_loopk (X := Nat) (fun k => [(10, int k)]) (fun k => [cel d 76 [int room, .map (some m), .bool false, int 0], mp m ([] : List (Str × Value)), dat v xs]) (fun k => k ≤ xs.length) (fun k => xs.length - k) 0 [0, 1, 8, 9] rfl fr (Nat.zero_le _) (by repeat (first | exact .nil | refine .cons rfl ?_)) (Ent.refl _) fun k hok => ?_
  refine ws_seq ?_
  refine ws_region ?_
  refine wo_pures 1 rfl ?_
  refine wo_nil ?_
  refine ws_seq ?_
  refine ws_cond rfl (fun h11 => ?_) (fun h11 => ?_)
  · skip
    have hk : k < xs.length := lt_of_dec h11
    obtain ⟨z, hz⟩ : ∃ z, xs[k]? = some z := ⟨_, List.getElem?_eq_getElem hk⟩
    refine ws_skip ?_
    refine ws_seq ?_
    refine ws_block ?_
    refine ws_seq ?_
    refine ws_region ?_
    refine wo_indexAddrF 2 rfl Tryz.underlying44 Tryz.sizeOf9 rfl rfl rfl (by assumption) fun b2 o3 => ?_
    refine wo_iload (j := 0) 0 rfl Tryz.isAgg9 rfl rfl rfl rfl ?_
    refine wo_pures 1 rfl ?_
    refine wo_nil ?_
    refine ws_seq ?_
    refine ws_seq ?_
    refine ws_region ?_
    refine wo_pures 2 rfl ?_
    refine wo_callk (has0_con _ _ _ _) rfl Tryz.call235 rfl (.cons 1 rfl (.cons 1 rfl (.refl _))) (.cons 2 rfl (.cons 0 rfl (.cons 0 rfl (.cons 0 rfl (.refl _))))) ?_
    refine wo_pures 1 rfl ?_
    refine wo_nil ?_
    refine ws_cond1 rfl ?_
    refine ws_exit ?_
    refine ws_region ?_
    refine wo_add rfl rfl rfl rfl (by omega) ?_
    refine wo_pures 1 rfl ?_
    refine wo_nil ?_
    exact ⟨k + 1, (show k + 1 ≤ xs.length by omega), (by first | omega | (dsimp only; omega)), (by repeat (first | exact .nil | refine .cons rfl ?_)), (by repeat (first | exact .nil | refine .cons rfl ?_)), Ent.dropN 1 rfl⟩
  · skip
    have hk : k = xs.length := by have h2 := of_decide_eq_false h11; omega
    refine ws_exit ?_
    refine ws_seq ?_
    refine ws_region ?_
    refine wo_pures 1 rfl ?_
    refine wo_nil ?_
    refine ws_ret ?_
    exact ⟨_, _, ret1 rfl rfl, ⟨rfl, rfl⟩, Ent.refl _⟩
theorem imageName_con (l : Nat) (q : Value) (p : Str) (i : Int) (a b x : Value) (hp : p.length ≤ 1048576) : ConR Tryz.prog 233 [.pointer (some ⟨l, 0, none⟩)] [cel l 247 [q, str p, int i, a, b, x]] (str (p ++ [45, 105, 109, 103])) := by
  refine con_body Tryz.func233 rfl Tryz.ntmps233 rfl fun E fr => ?_
  refine ws_seq ?_
  refine ws_region ?_
  refine wo_pures 1 rfl ?_
  refine wo_nil ?_
  refine ws_seq ?_
  refine ws_region ?_
  refine wo_pures 2 rfl ?_
  refine wo_field rfl Tryz.underlying247 rfl Tryz.sizeOf9 rfl rfl ?_
  refine wo_load 0 rfl Tryz.isAgg9 rfl rfl rfl ?_
  refine wo_concat rfl rfl rfl (by simp; omega) ?_
  refine wo_pures 1 rfl ?_
  refine wo_nil ?_
  refine ws_ret ?_
  exact ⟨_, _, ret1 rfl rfl, ⟨rfl, rfl⟩, Ent.refl _⟩
theorem logName_con (l : Nat) (q : Value) (p : Str) (i : Int) (a b x : Value) (hp : p.length ≤ 1048576) : ConR Tryz.prog 236 [.pointer (some ⟨l, 0, none⟩)] [cel l 247 [q, str p, int i, a, b, x]] (str (p ++ [45, 108, 111, 103])) := by
  refine con_body Tryz.func236 rfl Tryz.ntmps236 rfl fun E fr => ?_
  refine ws_seq ?_
  refine ws_region ?_
  refine wo_pures 1 rfl ?_
  refine wo_nil ?_
  refine ws_seq ?_
  refine ws_region ?_
  refine wo_pures 2 rfl ?_
  refine wo_field rfl Tryz.underlying247 rfl Tryz.sizeOf9 rfl rfl ?_
  refine wo_load 0 rfl Tryz.isAgg9 rfl rfl rfl ?_
  refine wo_concat rfl rfl rfl (by simp; omega) ?_
  refine wo_pures 1 rfl ?_
  refine wo_nil ?_
  refine ws_ret ?_
  exact ⟨_, _, ret1 rfl rfl, ⟨rfl, rfl⟩, Ent.refl _⟩
theorem clears0_con (l d m : Nat) (room : Int) (p : Str) (hp : p.length ≤ 20) : ConR Tryz.prog 142 [.pointer (some ⟨l, 0, none⟩)] [cel l 247 [.pointer (some ⟨d, 0, none⟩), str p, int 0, .slice none 0 0, .slice none 0 0, .bool false], cel d 76 [int room, .map (some m), .bool false, int 0], mp m ([] : List (Str × Value))] (int 0) := by
  refine con_body Tryz.func142 rfl Tryz.ntmps142 rfl fun E fr => ?_
  refine ws_seq ?_
  refine ws_region ?_
  refine wo_pures 1 rfl ?_
  refine wo_nil ?_
  refine ws_seq ?_
  refine ws_forget [2] rfl ?_
  refine ws_draw mixed (by kernel_rfl) (by first | rfl | kernel_rfl) ?_
  refine wd_pures [0, 1, 4] (by kernel_rfl) rfl ?_
  refine .quiet 2 rfl rfl rfl (by kernel_rfl) (by
    refine wo_field rfl Tryz.underlying247 rfl Tryz.sizeOf42 rfl rfl ?_
    exact wo_nil ⟨rfl, Ent.refl _⟩) ?_
  refine .quiet 3 rfl rfl rfl (by kernel_rfl) (by
    refine wo_load 0 rfl Tryz.isAgg42 rfl rfl rfl ?_
    exact wo_nil ⟨rfl, Ent.refl _⟩) ?_
  refine .quiet 5 rfl rfl rfl (by kernel_rfl) (by
    refine wo_callk (imageName_con _ _ _ _ _ _ _ (by omega)) rfl Tryz.call233 rfl (.cons 0 rfl (.cons 0 rfl (.cons 0 rfl (.refl _)))) (.cons 0 rfl (.cons 0 rfl (.cons 0 rfl (.refl _)))) ?_
    exact wo_nil ⟨rfl, Ent.refl _⟩) ?_
  refine .quiet 6 rfl rfl rfl (by kernel_rfl) (by
    refine wo_concat rfl rfl rfl (by simp; omega) ?_
    exact wo_nil ⟨rfl, Ent.refl _⟩) ?_
  refine wd_main 7 [3, 2] rfl (by kernel_rfl) (by kernel_rfl) ?_
  refine wo_buildSlice [p ++ [45, 105, 109, 103] ++ [126]] elt_44 rfl rfl rfl rfl rfl rfl rfl (fun _ _ _ => flats rfl) fun v1 => ?_
  refine WO.ent (Ent.rowDatI 0 rfl) ?_
  refine wo_nil ⟨_, rfl, ?_, ?_⟩
  · refine ⟨⟨_, _, _, rfl, rfl, rfl, ?_⟩, ⟨_, _, _, rfl, rfl, rfl, ?_⟩, trivial⟩
    · skip
      refine wo_load 1 rfl Tryz.isAgg42 rfl rfl rfl ?_
      exact wo_nil ⟨rfl, Ent.refl _⟩
    · skip
      refine wo_field rfl Tryz.underlying247 rfl Tryz.sizeOf42 rfl rfl ?_
      exact wo_nil ⟨rfl, Ent.refl _⟩
  refine .quiet 8 rfl rfl rfl (by kernel_rfl) (by
    refine wo_callk (removes0_con _ _ _ _ _) rfl Tryz.call232 rfl (.cons 2 rfl (.cons 2 rfl (.cons 0 rfl (.refl _)))) (.cons 2 rfl (.cons 2 rfl (.cons 0 rfl (.cons 0 rfl (.refl _))))) ?_
    exact wo_nil ⟨rfl, Ent.refl _⟩) ?_
  refine wd_pures [9] (by kernel_rfl) rfl ?_
  refine .done (by kernel_rfl) ?_
  refine ws_ret ?_
  exact ⟨_, _, ret1 rfl rfl, ⟨rfl, rfl⟩, Ent.dropN 1 rfl⟩
theorem load0_con (d m : Nat) (room : Int) (s : Str) : ConR Tryz.prog 149 [.pointer (some ⟨d, 0, none⟩), str s] [cel d 76 [int room, .map (some m), .bool false, int 0], mp m ([] : List (Str × Value))] (.tuple #[.slice none 0 0, int 7]) := by
  refine con_body Tryz.func149 rfl Tryz.ntmps149 rfl fun E fr => ?_
  refine ws_seq ?_
  refine ws_region ?_
  refine wo_pures 2 rfl ?_
  refine wo_nil ?_
  refine ws_seq ?_
  refine ws_seq ?_
  refine ws_region ?_
  refine wo_pures 1 rfl ?_
  refine wo_ptr_nil rfl Tryz.underlying42 rfl rfl rfl ?_
  refine wo_nil ?_
  refine ws_cond0 rfl ?_
  refine ws_skip ?_
  refine ws_seq ?_
  refine ws_region ?_
  refine wo_pures 2 rfl ?_
  refine wo_callk (diskRead_con _ _ _ _) rfl Tryz.call237 rfl (.cons 0 rfl (.cons 0 rfl (.refl _))) (.cons 0 rfl (.cons 0 rfl (.refl _))) ?_
  refine wo_pures 5 rfl ?_
  refine wo_nil ?_
  refine ws_seq ?_
  refine ws_seq ?_
  refine ws_region ?_
  refine wo_pures 2 rfl ?_
  refine wo_nil ?_
  refine ws_cond1 rfl ?_
  refine ws_seq ?_
  refine ws_region ?_
  refine wo_pures 3 rfl ?_
  refine wo_nil ?_
  refine ws_ret ?_
  exact ⟨_, _, ret2 rfl rfl rfl, ⟨rfl, rfl⟩, Ent.refl _⟩
theorem image0_con (l d m : Nat) (room : Int) (p : Str) (hp : p.length ≤ 20) : ConR Tryz.prog 143 [.pointer (some ⟨l, 0, none⟩)] [cel l 247 [.pointer (some ⟨d, 0, none⟩), str p, int 0, .slice none 0 0, .slice none 0 0, .bool false], cel d 76 [int room, .map (some m), .bool false, int 0], mp m ([] : List (Str × Value))] (int 0) := by
  refine con_body Tryz.func143 rfl Tryz.ntmps143 rfl fun E fr => ?_
  refine ws_seq ?_
  refine ws_region ?_
  refine wo_pures 1 rfl ?_
  refine wo_nil ?_
  refine ws_seq ?_
  refine ws_draw mixed (by kernel_rfl) (by first | rfl | kernel_rfl) ?_
  refine wd_pures [0, 1, 4] (by kernel_rfl) rfl ?_
  refine .quiet 2 rfl rfl rfl (by kernel_rfl) (by
    refine wo_field rfl Tryz.underlying247 rfl Tryz.sizeOf42 rfl rfl ?_
    exact wo_nil ⟨rfl, Ent.refl _⟩) ?_
  refine .quiet 3 rfl rfl rfl (by kernel_rfl) (by
    refine wo_load 0 rfl Tryz.isAgg42 rfl rfl rfl ?_
    exact wo_nil ⟨rfl, Ent.refl _⟩) ?_
  refine .quiet 5 rfl rfl rfl (by kernel_rfl) (by
    refine wo_callk (imageName_con _ _ _ _ _ _ _ (by omega)) rfl Tryz.call233 rfl (.cons 0 rfl (.cons 0 rfl (.cons 0 rfl (.refl _)))) (.cons 0 rfl (.cons 0 rfl (.cons 0 rfl (.refl _)))) ?_
    exact wo_nil ⟨rfl, Ent.refl _⟩) ?_
  refine .quiet 6 rfl rfl rfl (by kernel_rfl) (by
    refine wo_callk (load0_con _ _ _ _) rfl Tryz.call149 rfl (.cons 1 rfl (.cons 1 rfl (.refl _))) (.cons 2 rfl (.cons 0 rfl (.cons 0 rfl (.refl _)))) ?_
    exact wo_nil ⟨rfl, Ent.refl _⟩) ?_
  refine wd_pures [7, 8, 9, 10, 11] (by kernel_rfl) rfl ?_
  refine .done (by kernel_rfl) ?_
  refine ws_seq ?_
  refine ws_seq ?_
  refine ws_region ?_
  refine wo_pures 2 rfl ?_
  refine wo_nil ?_
  refine ws_cond1 rfl ?_
  refine ws_seq ?_
  refine ws_region ?_
  refine wo_pures 1 rfl ?_
  refine wo_nil ?_
  refine ws_ret ?_
  exact ⟨_, _, ret1 rfl rfl, ⟨rfl, rfl⟩, Ent.refl _⟩
theorem log0_con (l d m : Nat) (room : Int) (p : Str) (hp : p.length ≤ 20) : ConR Tryz.prog 144 [.pointer (some ⟨l, 0, none⟩)] [cel l 247 [.pointer (some ⟨d, 0, none⟩), str p, int 0, .slice none 0 0, .slice none 0 0, .bool false], cel d 76 [int room, .map (some m), .bool false, int 0], mp m ([] : List (Str × Value))] (int 0) := by
  refine con_body Tryz.func144 rfl Tryz.ntmps144 rfl fun E fr => ?_
  refine ws_seq ?_
  refine ws_region ?_
  refine wo_pures 1 rfl ?_
  refine wo_nil ?_
  refine ws_seq ?_
  refine ws_seq ?_
  refine ws_draw mixed (by kernel_rfl) (by first | rfl | kernel_rfl) ?_
  refine wd_pures [0, 1, 4] (by kernel_rfl) rfl ?_
  refine .quiet 2 rfl rfl rfl (by kernel_rfl) (by
    refine wo_field rfl Tryz.underlying247 rfl Tryz.sizeOf42 rfl rfl ?_
    exact wo_nil ⟨rfl, Ent.refl _⟩) ?_
  refine .quiet 3 rfl rfl rfl (by kernel_rfl) (by
    refine wo_load 0 rfl Tryz.isAgg42 rfl rfl rfl ?_
    exact wo_nil ⟨rfl, Ent.refl _⟩) ?_
  refine .quiet 5 rfl rfl rfl (by kernel_rfl) (by
    refine wo_callk (logName_con _ _ _ _ _ _ _ (by omega)) rfl Tryz.call236 rfl (.cons 0 rfl (.cons 0 rfl (.cons 0 rfl (.refl _)))) (.cons 0 rfl (.cons 0 rfl (.cons 0 rfl (.refl _)))) ?_
    exact wo_nil ⟨rfl, Ent.refl _⟩) ?_
  refine .quiet 6 rfl rfl rfl (by kernel_rfl) (by
    refine wo_callk (has0_con _ _ _ _) rfl Tryz.call235 rfl (.cons 1 rfl (.cons 1 rfl (.refl _))) (.cons 2 rfl (.cons 0 rfl (.cons 0 rfl (.refl _)))) ?_
    exact wo_nil ⟨rfl, Ent.refl _⟩) ?_
  refine wd_pures [7] (by kernel_rfl) rfl ?_
  refine .done (by kernel_rfl) ?_
  refine ws_cond1 rfl ?_
  refine ws_seq ?_
  refine ws_region ?_
  refine wo_pures 1 rfl ?_
  refine wo_nil ?_
  refine ws_ret ?_
  exact ⟨_, _, ret1 rfl rfl, ⟨rfl, rfl⟩, Ent.refl _⟩
theorem ledgerOpen0_con (d m : Nat) (room : Int) (p : Str) (hp : p.length ≤ 20) (h1 : 1 ≤ p.length) : ConX Tryz.prog 69 [.pointer (some ⟨d, 0, none⟩), str p] [cel d 76 [int room, .map (some m), .bool false, int 0], mp m ([] : List (Str × Value))] (fun l : Nat => .tuple #[.pointer (some ⟨l, 0, none⟩), int 0]) (fun l => [cel l 247 [.pointer (some ⟨d, 0, none⟩), str p, int 0, .slice none 0 0, .slice none 0 0, .bool false], cel d 76 [int room, .map (some m), .bool false, int 0], mp m ([] : List (Str × Value))]) := by
  refine con_body Tryz.func69 rfl Tryz.ntmps69 rfl fun E fr => ?_
  refine ws_seq ?_
  refine ws_region ?_
  refine wo_pures 2 rfl ?_
  refine wo_nil ?_
  refine ws_seq ?_
  refine ws_seq ?_
  refine ws_region ?_
  refine wo_pures 1 rfl ?_
  refine wo_ptr_nil rfl Tryz.underlying42 rfl rfl rfl ?_
  refine wo_pures 1 rfl ?_
  refine wo_pures 1 rfl ?_
  refine wo_len_str rfl Tryz.underlying9 rfl ?_
  refine wo_pures 3 rfl ?_
  refine wo_or 3 7 rfl rfl rfl rfl rfl rfl rfl (fun hp21 => by
    refine wo_pures 1 rfl ?_
    refine wo_len_str rfl Tryz.underlying9 rfl ?_
    refine wo_pures 1 rfl ?_
    exact wo_nil ⟨rfl, Env.Sub.news 3 rfl rfl, Ent.refl _⟩) ?_
  refine wo_nil ?_
  refine ws_cond rfl (fun h21 => ?_) (fun h21 => ?_)
  · skip
    exfalso; simp at h21; omega
  · skip
    refine ws_skip ?_
    refine ws_seq ?_
    refine ws_region ?_
    refine wo_pures 2 rfl ?_
    refine wo_build (us := [.pointer (some ⟨d, 0, none⟩), str p, int 0, .slice none 0 0, .slice none 0 0, .bool false]) rfl rfl (by kernel_rfl) ?_
    refine wo_box rfl rfl rfl fun b1 => ?_
    refine wo_pures 1 rfl ?_
    refine wo_nil ?_
    refine ws_seq ?_
    refine ws_seq ?_
    refine ws_region ?_
    refine wo_pures 6 rfl ?_
    refine wo_buildSlice ([⟨.func (.func 142) #[.pointer (some ⟨b1, 0, none⟩)] #[], rfl⟩, ⟨.func (.func 143) #[.pointer (some ⟨b1, 0, none⟩)] #[], rfl⟩, ⟨.func (.func 144) #[.pointer (some ⟨b1, 0, none⟩)] #[], rfl⟩] : List Cell1) elt_248 rfl rfl rfl rfl rfl rfl rfl (fun _ _ _ => flats rfl) fun v2 => ?_
    refine WO.ent (Ent.rowDatI 0 rfl) ?_
    refine wo_len_dat 0 rfl Tryz.underlying248 rfl rfl fun hl3 => ?_
    refine wo_pures 1 rfl ?_
    refine wo_nil ?_
    refine ws_block ?_
    refine ws_loopk (X := Nat) (fun k => [(34, int k)]) (fun k => [cel b1 247 [.pointer (some ⟨d, 0, none⟩), str p, int 0, .slice none 0 0, .slice none 0 0, .bool false], cel d 76 [int room, .map (some m), .bool false, int 0], mp m ([] : List (Str × Value)), dat v2 ([⟨.func (.func 142) #[.pointer (some ⟨b1, 0, none⟩)] #[], rfl⟩, ⟨.func (.func 143) #[.pointer (some ⟨b1, 0, none⟩)] #[], rfl⟩, ⟨.func (.func 144) #[.pointer (some ⟨b1, 0, none⟩)] #[], rfl⟩] : List Cell1)]) (fun k => k ≤ 3) (fun k => 3 - k) 0 [0, 1, 6, 32, 33] rfl fr (by omega) (by repeat (first | exact .nil | refine .cons rfl ?_)) ((.cons 1 rfl (.cons 1 rfl (.cons 1 rfl (.cons 0 rfl (.refl _)))))) fun k hok => ?_
    refine ws_seq ?_
    refine ws_region ?_
    refine wo_pures 1 rfl ?_
    refine wo_nil ?_
    refine ws_seq ?_
    refine ws_cond rfl (fun h35 => ?_) (fun h35 => ?_)
    · skip
      have hk : k < 3 := by have h := of_decide_eq_true h35; simp only [List.length_cons, List.length_nil] at h; omega
      obtain ⟨z, hz⟩ : ∃ z, ([⟨.func (.func 142) #[.pointer (some ⟨b1, 0, none⟩)] #[], rfl⟩, ⟨.func (.func 143) #[.pointer (some ⟨b1, 0, none⟩)] #[], rfl⟩, ⟨.func (.func 144) #[.pointer (some ⟨b1, 0, none⟩)] #[], rfl⟩] : List Cell1)[k]? = some z := ⟨_, List.getElem?_eq_getElem hk⟩
      refine ws_skip ?_
      refine ws_seq ?_
      refine ws_block ?_
      refine ws_seq ?_
      refine ws_region ?_
      refine wo_indexAddrF 3 rfl Tryz.underlying248 Tryz.sizeOf50 rfl rfl rfl (by assumption) fun b4 o5 => ?_
      refine wo_iload (j := 0) 0 rfl Tryz.isAgg50 rfl rfl rfl rfl ?_
      refine wo_pures 1 rfl ?_
      refine wo_nil ?_
      refine ws_seq ?_
      rcases three hz with rfl | rfl | rfl
      · skip
        refine ws_region ?_
        refine wo_pures 1 rfl ?_
        refine wo_fvk (clears0_con _ _ _ _ _ (by omega)) rfl rfl Tryz.call142 rfl rfl (.cons 1 rfl (.cons 1 rfl (.cons 1 rfl (.refl _)))) (.cons 3 rfl (.cons 0 rfl (.cons 0 rfl (.cons 0 rfl (.cons 0 rfl (.refl _)))))) ?_
        refine wo_pures 1 rfl ?_
        refine wo_nil ?_
        refine ws_seq ?_
        refine ws_region ?_
        refine wo_pures 2 rfl ?_
        refine wo_nil ?_
        refine ws_cond0 rfl ?_
        refine ws_skip ?_
        refine ws_region ?_
        refine wo_add rfl rfl rfl rfl (by omega) ?_
        refine wo_pures 1 rfl ?_
        refine wo_nil ?_
        exact ⟨k + 1, (show k + 1 ≤ 3 by omega), (by first | omega | (dsimp only; omega)), (by repeat (first | exact .nil | refine .cons rfl ?_)), (by repeat (first | exact .nil | refine .cons rfl ?_)), Ent.dropN 1 rfl⟩
      · skip
        refine ws_region ?_
        refine wo_pures 1 rfl ?_
        refine wo_fvk (image0_con _ _ _ _ _ (by omega)) rfl rfl Tryz.call143 rfl rfl (.cons 1 rfl (.cons 1 rfl (.cons 1 rfl (.refl _)))) (.cons 3 rfl (.cons 0 rfl (.cons 0 rfl (.cons 0 rfl (.cons 0 rfl (.refl _)))))) ?_
        refine wo_pures 1 rfl ?_
        refine wo_nil ?_
        refine ws_seq ?_
        refine ws_region ?_
        refine wo_pures 2 rfl ?_
        refine wo_nil ?_
        refine ws_cond0 rfl ?_
        refine ws_skip ?_
        refine ws_region ?_
        refine wo_add rfl rfl rfl rfl (by omega) ?_
        refine wo_pures 1 rfl ?_
        refine wo_nil ?_
        exact ⟨k + 1, (show k + 1 ≤ 3 by omega), (by first | omega | (dsimp only; omega)), (by repeat (first | exact .nil | refine .cons rfl ?_)), (by repeat (first | exact .nil | refine .cons rfl ?_)), Ent.dropN 1 rfl⟩
      · skip
        refine ws_region ?_
        refine wo_pures 1 rfl ?_
        refine wo_fvk (log0_con _ _ _ _ _ (by omega)) rfl rfl Tryz.call144 rfl rfl (.cons 1 rfl (.cons 1 rfl (.cons 1 rfl (.refl _)))) (.cons 3 rfl (.cons 0 rfl (.cons 0 rfl (.cons 0 rfl (.cons 0 rfl (.refl _)))))) ?_
        refine wo_pures 1 rfl ?_
        refine wo_nil ?_
        refine ws_seq ?_
        refine ws_region ?_
        refine wo_pures 2 rfl ?_
        refine wo_nil ?_
        refine ws_cond0 rfl ?_
        refine ws_skip ?_
        refine ws_region ?_
        refine wo_add rfl rfl rfl rfl (by omega) ?_
        refine wo_pures 1 rfl ?_
        refine wo_nil ?_
        exact ⟨k + 1, (show k + 1 ≤ 3 by omega), (by first | omega | (dsimp only; omega)), (by repeat (first | exact .nil | refine .cons rfl ?_)), (by repeat (first | exact .nil | refine .cons rfl ?_)), Ent.dropN 1 rfl⟩
    · skip
      refine ws_exit ?_
      refine ws_seq ?_
      refine ws_region ?_
      refine wo_pures 3 rfl ?_
      refine wo_nil ?_
      refine ws_ret ?_
      exact ⟨_, [_, _, _], ret2 rfl rfl rfl, ⟨_, rfl, rfl⟩, (.cons 0 rfl (.cons 0 rfl (.cons 0 rfl (Ent.dropN 1 rfl))))⟩
end Go.Proofs
