/- A part of the proof: the walk of some functions. -/
import Derived.Test.YtklelmfgdgndaaaGreatDoorDkA
open Go Go.Sep Burg
namespace Go.Proofs

theorem cloneAva_con (v : Value) (xs : List Ava) (hlen : xs.length ≤ 1048576) : ConX Tryz.prog 37 [v] [dat v xs] (fun u : Value => u) (fun u => [dat u xs]) := by
  refine con_body Tryz.func37 rfl Tryz.ntmps37 rfl fun E fr => ?_
  refine ws_seq ?_
  refine ws_region ?_
  refine wo_pures 1 rfl ?_
  refine wo_nil ?_
  refine ws_seq ?_
  refine ws_seq ?_
  refine ws_region ?_
  refine wo_pures 1 rfl ?_
  refine wo_formN 0 rfl fun a1 ca1 hva1 hla1 hna1 => ?_
  subst hva1
  refine wo_slice_nil rfl Tryz.underlying60 rfl rfl rfl ?_
  refine wo_nil ?_
  refine ws_cond rfl (fun h4 => ?_) (fun h4 => ?_)
  · skip
    have hnil : a1 = none := by cases a1 with | none => rfl | some _ => cases h4
    have hx0 : xs = [] := hna1 hnil
    subst hnil
    refine ws_seq ?_
    refine ws_region ?_
    refine wo_pures 1 rfl ?_
    refine wo_nil ?_
    refine ws_ret ?_
    exact ⟨_, [_], ret1 rfl rfl, ⟨_, rfl, rfl⟩, by rw [hx0]; exact (Ent.datNil _).trans (.cons 0 rfl (Ent.dropN 1 rfl))⟩
  · skip
    refine ws_skip ?_
    refine ws_seq ?_
    refine ws_region ?_
    refine wo_buildSlice0 elt_60 rfl fun v2 => ?_
    refine wo_pures 1 rfl ?_
    refine wo_append_dat elt_60 rfl rfl rfl (room_of (k := 32) rfl (by first | omega | (simp only [List.length_append, List.length_cons, List.length_nil]; omega))) (.cons 0 rfl (.cons 0 rfl (.refl _))) fun v3 => ?_
    refine wo_pures 1 rfl ?_
    refine wo_nil ?_
    refine ws_ret ?_
    exact ⟨_, [_], ret1 rfl rfl, ⟨_, rfl, rfl⟩, (Ent.rowDatI 0 rfl).trans (.cons 0 rfl (Ent.dropN 1 rfl))⟩
theorem cloneNilU_con : ConV Tryz.prog 145 [.slice none 0 0] [] (.slice none 0 0) := by
  refine con_body Tryz.func145 rfl Tryz.ntmps145 rfl fun E fr => ?_
  refine ws_seq ?_
  refine ws_region ?_
  refine wo_pures 1 rfl ?_
  refine wo_nil ?_
  refine ws_seq ?_
  refine ws_seq ?_
  refine ws_region ?_
  refine wo_pures 1 rfl ?_
  refine wo_slice_nil rfl Tryz.underlying249 rfl rfl rfl ?_
  refine wo_nil ?_
  refine ws_cond1 rfl ?_
  refine ws_seq ?_
  refine ws_region ?_
  refine wo_pures 1 rfl ?_
  refine wo_nil ?_
  refine ws_ret ?_
  exact ⟨_, _, ret1 rfl rfl, ⟨rfl, rfl⟩, Ent.dropN 0 rfl⟩
theorem cloneNilB_con : ConV Tryz.prog 99 [.slice none 0 0] [] (.slice none 0 0) := by
  refine con_body Tryz.func99 rfl Tryz.ntmps99 rfl fun E fr => ?_
  refine ws_seq ?_
  refine ws_region ?_
  refine wo_pures 1 rfl ?_
  refine wo_nil ?_
  refine ws_seq ?_
  refine ws_seq ?_
  refine ws_region ?_
  refine wo_pures 1 rfl ?_
  refine wo_slice_nil rfl Tryz.underlying22 rfl rfl rfl ?_
  refine wo_nil ?_
  refine ws_cond1 rfl ?_
  refine ws_seq ?_
  refine ws_region ?_
  refine wo_pures 1 rfl ?_
  refine wo_nil ?_
  refine ws_ret ?_
  exact ⟨_, _, ret1 rfl rfl, ⟨rfl, rfl⟩, Ent.dropN 0 rfl⟩
theorem base0_con (l d m : Nat) (room : Int) (p : Str) : ConR Tryz.prog 71 [.pointer (some ⟨l, 0, none⟩)] [cel l 247 [.pointer (some ⟨d, 0, none⟩), str p, int 0, .slice none 0 0, .slice none 0 0, .bool false], cel d 76 [int room, .map (some m), .bool false, int 0], mp m ([] : List (Str × Value))] (.tuple #[int 0, .slice none 0 0]) := by
  refine con_body Tryz.func71 rfl Tryz.ntmps71 rfl fun E fr => ?_
  refine ws_seq ?_
  refine ws_region ?_
  refine wo_pures 2 rfl ?_
  refine wo_nil ?_
  refine ws_seq ?_
  refine ws_seq ?_
  refine ws_region ?_
  refine wo_pures 1 rfl ?_
  refine wo_ptr_nil rfl Tryz.underlying158 rfl rfl rfl ?_
  refine wo_nil ?_
  refine ws_cond0 rfl ?_
  refine ws_skip ?_
  refine ws_seq ?_
  refine ws_forget [2, 3] rfl ?_
  refine ws_draw mixed (by kernel_rfl) (by first | rfl | kernel_rfl) ?_
  refine wd_pures [0, 1, 4, 5] (by kernel_rfl) rfl ?_
  refine .quiet 2 rfl rfl rfl (by kernel_rfl) (by
    refine wo_field rfl Tryz.underlying247 rfl Tryz.sizeOf3 rfl rfl ?_
    exact wo_nil ⟨rfl, Ent.refl _⟩) ?_
  refine .quiet 3 rfl rfl rfl (by kernel_rfl) (by
    refine wo_load 0 rfl Tryz.isAgg3 rfl rfl rfl ?_
    exact wo_nil ⟨rfl, Ent.refl _⟩) ?_
  refine .quiet 6 rfl rfl rfl (by kernel_rfl) (by
    refine wo_field rfl Tryz.underlying247 rfl Tryz.sizeOf22 rfl rfl ?_
    exact wo_nil ⟨rfl, Ent.refl _⟩) ?_
  refine .quiet 7 rfl rfl rfl (by kernel_rfl) (by
    refine wo_load 0 rfl Tryz.isAgg22 rfl rfl rfl ?_
    exact wo_nil ⟨rfl, Ent.refl _⟩) ?_
  refine .quiet 8 rfl rfl rfl (by kernel_rfl) (by
    refine wo_callp cloneNilB_con rfl Tryz.call99 rfl ?_
    exact wo_nil ⟨rfl, Ent.refl _⟩) ?_
  refine wd_pures [9, 10] (by kernel_rfl) rfl ?_
  refine .done (by kernel_rfl) ?_
  refine ws_ret ?_
  exact ⟨_, _, ret2 rfl rfl rfl, ⟨rfl, rfl⟩, Ent.refl _⟩
theorem last0_con (l d m : Nat) (room : Int) (p : Str) : ConR Tryz.prog 154 [.pointer (some ⟨l, 0, none⟩)] [cel l 247 [.pointer (some ⟨d, 0, none⟩), str p, int 0, .slice none 0 0, .slice none 0 0, .bool false], cel d 76 [int room, .map (some m), .bool false, int 0], mp m ([] : List (Str × Value))] (int 0) := by
  refine con_body Tryz.func154 rfl Tryz.ntmps154 rfl fun E fr => ?_
  refine ws_seq ?_
  refine ws_region ?_
  refine wo_pures 1 rfl ?_
  refine wo_nil ?_
  refine ws_seq ?_
  refine ws_seq ?_
  refine ws_region ?_
  refine wo_pures 1 rfl ?_
  refine wo_ptr_nil rfl Tryz.underlying158 rfl rfl rfl ?_
  refine wo_nil ?_
  refine ws_cond0 rfl ?_
  refine ws_skip ?_
  refine ws_seq ?_
  refine ws_forget [2] rfl ?_
  refine ws_draw mixed (by kernel_rfl) (by first | rfl | kernel_rfl) ?_
  refine wd_pures [0, 1, 4, 5] (by kernel_rfl) rfl ?_
  refine .quiet 2 rfl rfl rfl (by kernel_rfl) (by
    refine wo_field rfl Tryz.underlying247 rfl Tryz.sizeOf3 rfl rfl ?_
    exact wo_nil ⟨rfl, Ent.refl _⟩) ?_
  refine .quiet 3 rfl rfl rfl (by kernel_rfl) (by
    refine wo_load 0 rfl Tryz.isAgg3 rfl rfl rfl ?_
    exact wo_nil ⟨rfl, Ent.refl _⟩) ?_
  refine .quiet 6 rfl rfl rfl (by kernel_rfl) (by
    refine wo_field rfl Tryz.underlying247 rfl Tryz.sizeOf37 rfl rfl ?_
    exact wo_nil ⟨rfl, Ent.refl _⟩) ?_
  refine .quiet 7 rfl rfl rfl (by kernel_rfl) (by
    refine wo_load 0 rfl Tryz.isAgg37 rfl rfl rfl ?_
    exact wo_nil ⟨rfl, Ent.refl _⟩) ?_
  refine .quiet 8 rfl rfl rfl (by kernel_rfl) (by
    refine wo_len_slice rfl Tryz.underlying37 rfl ?_
    exact wo_nil ⟨rfl, Ent.refl _⟩) ?_
  refine .quiet 9 rfl rfl rfl (by kernel_rfl) (by
    refine wo_add rfl rfl rfl rfl (by omega) ?_
    exact wo_nil ⟨rfl, Ent.refl _⟩) ?_
  refine wd_pures [10] (by kernel_rfl) rfl ?_
  refine .done (by kernel_rfl) ?_
  refine ws_ret ?_
  exact ⟨_, _, ret1 rfl rfl, ⟨rfl, rfl⟩, Ent.refl _⟩
theorem clear0_con (d m : Nat) (room : Int) (p : Str) (v : Value) : ConR Tryz.prog 76 [.pointer (some ⟨d, 0, none⟩), str p, v] [cel d 76 [int room, .map (some m), .bool false, int 0], mp m ([] : List (Str × Value))] (int 0) := by
  refine con_body Tryz.func76 rfl Tryz.ntmps76 rfl fun E fr => ?_
  refine ws_seq ?_
  refine ws_region ?_
  refine wo_pures 1 rfl ?_
  refine wo_nil ?_
  refine ws_seq ?_
  refine ws_seq ?_
  refine ws_region ?_
  refine wo_pures 1 rfl ?_
  refine wo_ptr_nil rfl Tryz.underlying42 rfl rfl rfl ?_
  refine wo_nil ?_
  refine ws_cond0 rfl ?_
  refine ws_skip ?_
  refine ws_seq ?_
  refine ws_seq ?_
  refine ws_region ?_
  refine wo_pures 1 rfl ?_
  refine wo_callx (diskList0_con _ _ _) rfl Tryz.call158 rfl (.cons 0 rfl (.cons 0 rfl (.refl _))) fun v1 => ?_
  refine wo_len_dat 0 rfl Tryz.underlying44 rfl rfl fun hl2 => ?_
  refine wo_pures 1 rfl ?_
  refine wo_nil ?_
  refine ws_block ?_
  refine ws_once ?_
  refine ws_seq ?_
  refine ws_region ?_
  refine wo_pures 1 rfl ?_
  refine wo_nil ?_
  refine ws_seq ?_
  refine ws_cond0 rfl ?_
  refine ws_exit ?_
  refine ws_seq ?_
  refine ws_region ?_
  refine wo_pures 1 rfl ?_
  refine wo_nil ?_
  refine ws_ret ?_
  exact ⟨_, _, ret1 rfl rfl, ⟨rfl, rfl⟩, Ent.dropN 1 rfl⟩
theorem memNew_con : ConX Tryz.prog 70 [.slice none 0 0] [] (fun b : Nat => .pointer (some ⟨b, 0, none⟩)) (fun _ => []) := by
  refine con_body Tryz.func70 rfl Tryz.ntmps70 rfl fun E fr => ?_
  refine ws_seq ?_
  refine ws_region ?_
  refine wo_pures 1 rfl ?_
  refine wo_nil ?_
  refine ws_seq ?_
  refine ws_forget [2] rfl ?_
  refine ws_draw mixed (by kernel_rfl) (by first | rfl | kernel_rfl) ?_
  refine wd_pures [3] (by kernel_rfl) rfl ?_
  refine .quiet 4 rfl rfl rfl (by kernel_rfl) (by
    refine wo_callp cloneNilU_con rfl Tryz.call145 rfl ?_
    exact wo_nil ⟨rfl, Ent.refl _⟩) ?_
  refine wd_main 0 [4] rfl (by kernel_rfl) (by kernel_rfl) ?_
  refine wo_makeSliceW (n := 12) (c := 12) Tryz.underlying197 (by kernel_rfl) rfl rfl rfl rfl rfl fun v1 => ?_
  refine wo_nil ⟨_, rfl, ?_, ?_⟩
  · refine ⟨⟨_, _, _, rfl, rfl, rfl, ?_⟩, trivial⟩
    · skip
      refine wo_callp cloneNilU_con rfl Tryz.call145 rfl ?_
      exact wo_nil ⟨rfl, Ent.refl _⟩
  refine .quiet 1 rfl rfl rfl (by kernel_rfl) (by
    refine wo_build (us := [str [], str [], .bool false, int 0, .slice (some ⟨v1, 0, none⟩) 12 12]) rfl rfl (by kernel_rfl) ?_
    exact wo_nil ⟨rfl, Ent.refl _⟩) ?_
  refine wd_main 2 [4] rfl (by kernel_rfl) (by kernel_rfl) ?_
  refine wo_buildSliceW Tryz.underlying252 (by kernel_rfl) rfl rfl rfl rfl rfl (fun i hi v hv => sizes_one (n := 5) (by kernel_rfl) hi hv rfl) fun v2 => ?_
  refine wo_nil ⟨_, rfl, ?_, ?_⟩
  · refine ⟨⟨_, _, _, rfl, rfl, rfl, ?_⟩, trivial⟩
    · skip
      refine wo_callp cloneNilU_con rfl Tryz.call145 rfl ?_
      exact wo_nil ⟨rfl, Ent.refl _⟩
  refine .quiet 5 rfl rfl rfl (by kernel_rfl) (by
    refine wo_build (us := [.slice (some ⟨v2, 0, none⟩) 1 1, .slice none 0 0, int 0, int 0]) rfl rfl (by kernel_rfl) ?_
    exact wo_nil ⟨rfl, Ent.refl _⟩) ?_
  refine wd_main 6 [] rfl (by kernel_rfl) (by kernel_rfl) ?_
  refine wo_box rfl rfl rfl fun b3 => ?_
  refine wo_nil ⟨_, rfl, ?_, ?_⟩
  · trivial
  refine wd_pures [7] (by kernel_rfl) rfl ?_
  refine .done (by kernel_rfl) ?_
  refine ws_ret ?_
  exact ⟨_, [], ret1 rfl rfl, ⟨_, rfl, rfl⟩, Ent.dropN 1 rfl⟩
theorem replays0_con (s l d m : Nat) (room : Int) (p : Str) (x y : Value) : ConR Tryz.prog 75 [.pointer (some ⟨s, 0, none⟩)] [cel s 165 [.pointer (some ⟨d, 0, none⟩), .pointer (some ⟨l, 0, none⟩), int 1, .slice none 0 0, x, y, .bool false], cel d 76 [int room, .map (some m), .bool false, int 0], mp m ([] : List (Str × Value)), cel l 247 [.pointer (some ⟨d, 0, none⟩), str p, int 0, .slice none 0 0, .slice none 0 0, .bool false]] (int 0) := by
  refine con_body Tryz.func75 rfl Tryz.ntmps75 rfl fun E fr => ?_
  refine ws_seq ?_
  refine ws_region ?_
  refine wo_pures 1 rfl ?_
  refine wo_nil ?_
  refine ws_seq ?_
  refine ws_region ?_
  refine wo_pures 2 rfl ?_
  refine wo_field rfl Tryz.underlying165 rfl Tryz.sizeOf158 rfl rfl ?_
  refine wo_load 0 rfl Tryz.isAgg158 rfl rfl rfl ?_
  refine wo_callk (base0_con _ _ _ _ _) rfl Tryz.call71 rfl (.cons 3 rfl (.cons 1 rfl (.cons 1 rfl (.refl _)))) (.cons 3 rfl (.cons 1 rfl (.cons 1 rfl (.cons 0 rfl (.refl _))))) ?_
  refine wo_pures 5 rfl ?_
  refine wo_nil ?_
  refine ws_seq ?_
  refine ws_seq ?_
  refine ws_region ?_
  refine wo_pures 1 rfl ?_
  refine wo_add rfl rfl rfl rfl (by omega) ?_
  refine wo_pures 1 rfl ?_
  refine wo_nil ?_
  refine ws_block ?_
  refine ws_once ?_
  refine ws_seq ?_
  refine ws_seq ?_
  refine ws_region ?_
  refine wo_pures 3 rfl ?_
  refine wo_field rfl Tryz.underlying165 rfl Tryz.sizeOf158 rfl rfl ?_
  refine wo_load 0 rfl Tryz.isAgg158 rfl rfl rfl ?_
  refine wo_callk (last0_con _ _ _ _ _) rfl Tryz.call154 rfl (.cons 3 rfl (.cons 1 rfl (.cons 1 rfl (.refl _)))) (.cons 3 rfl (.cons 1 rfl (.cons 1 rfl (.cons 0 rfl (.refl _))))) ?_
  refine wo_pures 1 rfl ?_
  refine wo_nil ?_
  refine ws_cond0 rfl ?_
  refine ws_exit ?_
  refine ws_seq ?_
  refine ws_region ?_
  refine wo_pures 1 rfl ?_
  refine wo_nil ?_
  refine ws_ret ?_
  exact ⟨_, _, ret1 rfl rfl, ⟨rfl, rfl⟩, Ent.refl _⟩
theorem lsmOpen0_con (d m : Nat) (room : Int) : ConX Tryz.prog 35 [.pointer (some ⟨d, 0, none⟩)] [cel d 76 [int room, .map (some m), .bool false, int 0], mp m ([] : List (Str × Value))] (fun s : Nat => .tuple #[.pointer (some ⟨s, 0, none⟩), int 0]) (fun _ => [cel d 76 [int room, .map (some m), .bool false, int 0], mp m ([] : List (Str × Value))]) := by
  refine con_body Tryz.func35 rfl Tryz.ntmps35 rfl fun E fr => ?_
  refine ws_seq ?_
  refine ws_region ?_
  refine wo_pures 2 rfl ?_
  refine wo_nil ?_
  refine ws_seq ?_
  refine ws_seq ?_
  refine ws_region ?_
  refine wo_pures 1 rfl ?_
  refine wo_ptr_nil rfl Tryz.underlying42 rfl rfl rfl ?_
  refine wo_nil ?_
  refine ws_cond0 rfl ?_
  refine ws_skip ?_
  refine ws_seq ?_
  refine ws_region ?_
  refine wo_pures 1 rfl ?_
  refine wo_callx (ledgerOpen0_con _ _ _ [115] (by decide) (by decide)) rfl Tryz.call69 rfl (.cons 0 rfl (.cons 0 rfl (.refl _))) fun l1 => ?_
  refine wo_pures 5 rfl ?_
  refine wo_nil ?_
  refine ws_seq ?_
  refine ws_seq ?_
  refine ws_region ?_
  refine wo_pures 2 rfl ?_
  refine wo_nil ?_
  refine ws_cond0 rfl ?_
  refine ws_skip ?_
  refine ws_seq ?_
  refine ws_region ?_
  refine wo_pures 2 rfl ?_
  refine wo_build (us := [int 1, .slice none 0 0]) rfl rfl (by kernel_rfl) ?_
  refine wo_makeMapO rfl fun m2 => ?_
  refine wo_callx memNew_con rfl Tryz.call70 rfl (.refl _) fun b3 => ?_
  refine wo_build (us := [.pointer (some ⟨d, 0, none⟩), .pointer (some ⟨l1, 0, none⟩), int 1, .slice none 0 0, .map (some m2), .pointer (some ⟨b3, 0, none⟩), .bool false]) rfl rfl (by kernel_rfl) ?_
  refine wo_box rfl rfl rfl fun b4 => ?_
  refine wo_pures 1 rfl ?_
  refine wo_nil ?_
  refine ws_seq ?_
  refine ws_seq ?_
  refine ws_region ?_
  refine wo_pures 1 rfl ?_
  refine wo_callk (base0_con _ _ _ _ _) rfl Tryz.call71 rfl (.cons 2 rfl (.cons 2 rfl (.cons 2 rfl (.refl _)))) (.cons 3 rfl (.cons 3 rfl (.cons 0 rfl (.cons 0 rfl (.cons 0 rfl (.refl _)))))) ?_
  refine wo_pures 5 rfl ?_
  refine wo_nil ?_
  refine ws_seq ?_
  refine ws_region ?_
  refine wo_pures 3 rfl ?_
  refine wo_pures 1 rfl ?_
  refine wo_len_slice rfl Tryz.underlying22 rfl ?_
  refine wo_pures 2 rfl ?_
  refine wo_nil ?_
  refine ws_cond0 rfl ?_
  refine ws_skip ?_
  refine ws_seq ?_
  refine ws_region ?_
  refine wo_pures 1 rfl ?_
  refine wo_nil ?_
  refine ws_seq ?_
  refine ws_seq ?_
  refine ws_region ?_
  refine wo_pures 2 rfl ?_
  refine wo_field rfl Tryz.underlying165 rfl Tryz.sizeOf154 rfl rfl ?_
  refine wo_field rfl Tryz.underlying154 rfl Tryz.sizeOf150 rfl rfl ?_
  refine wo_load 0 rfl Tryz.isAgg150 rfl rfl rfl ?_
  refine wo_len_slice rfl Tryz.underlying150 rfl ?_
  refine wo_pures 1 rfl ?_
  refine wo_nil ?_
  refine ws_block ?_
  refine ws_once ?_
  refine ws_seq ?_
  refine ws_region ?_
  refine wo_pures 1 rfl ?_
  refine wo_nil ?_
  refine ws_seq ?_
  refine ws_cond0 rfl ?_
  refine ws_exit ?_
  refine ws_seq ?_
  refine ws_seq ?_
  refine ws_region ?_
  refine wo_pures 1 rfl ?_
  refine wo_callk (replays0_con _ _ _ _ _ _ _ _) rfl Tryz.call75 rfl (.cons 0 rfl (.cons 2 rfl (.cons 2 rfl (.cons 1 rfl (.cons 0 rfl (.refl _)))))) (.cons 0 rfl (.cons 3 rfl (.cons 2 rfl (.cons 0 rfl (.cons 0 rfl (.refl _)))))) ?_
  refine wo_pures 1 rfl ?_
  refine wo_nil ?_
  refine ws_seq ?_
  refine ws_region ?_
  refine wo_pures 2 rfl ?_
  refine wo_nil ?_
  refine ws_cond0 rfl ?_
  refine ws_skip ?_
  refine ws_seq ?_
  refine ws_seq ?_
  refine ws_region ?_
  refine wo_pures 2 rfl ?_
  refine wo_callk (clear0_con _ _ _ [116] _) rfl Tryz.call76 rfl (.cons 3 rfl (.cons 3 rfl (.refl _))) (.cons 2 rfl (.cons 2 rfl (.cons 2 rfl (.cons 0 rfl (.cons 0 rfl (.refl _)))))) ?_
  refine wo_pures 1 rfl ?_
  refine wo_nil ?_
  refine ws_seq ?_
  refine ws_region ?_
  refine wo_pures 2 rfl ?_
  refine wo_nil ?_
  refine ws_cond0 rfl ?_
  refine ws_skip ?_
  refine ws_seq ?_
  refine ws_region ?_
  refine wo_pures 3 rfl ?_
  refine wo_nil ?_
  refine ws_ret ?_
  exact ⟨_, [_, _], ret2 rfl rfl rfl, ⟨_, rfl, rfl⟩, (.cons 3 rfl (.cons 3 rfl (Ent.dropN 3 rfl)))⟩
theorem isName_con (v : Value) (xs : List Ava) (hx : ∀ a ∈ xs, a.ty.length ≤ 1048576 ∧ a.val.length ≤ 1048576) : ConV Tryz.prog 77 [v] [dat v xs] (.bool (nameOk xs && decide ((xs.length : Int) > 0))) := by
  refine con_body Tryz.func77 rfl Tryz.ntmps77 rfl fun E fr => ?_
  refine ws_seq ?_
  refine ws_region ?_
  refine wo_pures 1 rfl ?_
  refine wo_nil ?_
  refine ws_seq ?_
  refine ws_region ?_
  refine wo_pures 1 rfl ?_
  refine wo_callr (dnIs_con _ _ (by assumption)) rfl Tryz.call40 rfl (.dup 0 rfl (.refl _)) ?_
  refine wo_pures 1 rfl ?_
  refine wo_and 3 2 rfl rfl rfl rfl rfl rfl rfl (fun hp9 => by
    refine wo_pures 1 rfl ?_
    refine wo_len_dat 0 rfl Tryz.underlying60 rfl rfl fun hl1 => ?_
    refine wo_pures 1 rfl ?_
    exact wo_nil ⟨rfl, Env.Sub.news 3 rfl rfl, Ent.refl _⟩) ?_
  refine wo_pures 1 rfl ?_
  refine wo_nil ?_
  refine ws_ret ?_
  exact ⟨_, _, ret1 rfl rfl, ⟨rfl, rfl⟩, Ent.dropN 1 rfl⟩
theorem treeNew_con (s : Nat) (v : Value) (xs : List Ava) (hx : ∀ a ∈ xs, a.ty.length ≤ 1048576 ∧ a.val.length ≤ 1048576) (hok : (nameOk xs && decide ((xs.length : Int) > 0)) = true) : ConX Tryz.prog 36 [.pointer (some ⟨s, 0, none⟩), v] [dat v xs] (fun t : Nat => .tuple #[.pointer (some ⟨t, 0, none⟩), int 0]) (fun _ => []) := by
  refine con_body Tryz.func36 rfl Tryz.ntmps36 rfl fun E fr => ?_
  refine ws_seq ?_
  refine ws_region ?_
  refine wo_pures 2 rfl ?_
  refine wo_nil ?_
  refine ws_seq ?_
  refine ws_seq ?_
  refine ws_region ?_
  refine wo_pures 1 rfl ?_
  refine wo_ptr_nil rfl Tryz.underlying106 rfl rfl rfl ?_
  refine wo_pures 1 rfl ?_
  refine wo_pures 1 rfl ?_
  refine wo_callr (isName_con _ _ (by assumption)) rfl Tryz.call77 rfl (.dup 0 rfl (.refl _)) ?_
  refine wo_pures 2 rfl ?_
  refine wo_nil ?_
  refine ws_cond rfl (fun h12 => ?_) (fun h12 => ?_)
  · skip
    rw [hok] at h12; cases h12
  · skip
    refine ws_skip ?_
    refine ws_seq ?_
    refine ws_region ?_
    refine wo_pures 2 rfl ?_
    refine wo_callx (cloneAva_con _ _ (by have := nameOk_len hok; omega)) rfl Tryz.call37 rfl (.cons 0 rfl (.refl _)) fun v1 => ?_
    refine wo_formN 0 rfl fun aq cq hvq hlq hnq => ?_
    subst hvq
    refine wo_build (us := [.pointer (some ⟨s, 0, none⟩), .slice aq xs.length cq]) rfl rfl (by kernel_rfl) ?_
    refine wo_box rfl rfl rfl fun b2 => ?_
    refine wo_pures 2 rfl ?_
    refine wo_nil ?_
    refine ws_ret ?_
    exact ⟨_, [], ret2 rfl rfl rfl, ⟨_, rfl, rfl⟩, (Ent.dropN 2 rfl)⟩
theorem indexRuleNil_con (f : Value) : ConV Tryz.prog 141 [.slice none 0 0, f] [] (int (-1)) := by
  refine con_body Tryz.func141 rfl Tryz.ntmps141 rfl fun E fr => ?_
  refine ws_seq ?_
  refine ws_region ?_
  refine wo_pures 1 rfl ?_
  refine wo_nil ?_
  refine ws_seq ?_
  refine ws_seq ?_
  refine ws_region ?_
  refine wo_pures 1 rfl ?_
  refine wo_len_slice rfl Tryz.underlying33 rfl ?_
  refine wo_pures 1 rfl ?_
  refine wo_nil ?_
  refine ws_block ?_
  refine ws_once ?_
  refine ws_seq ?_
  refine ws_region ?_
  refine wo_pures 1 rfl ?_
  refine wo_nil ?_
  refine ws_seq ?_
  refine ws_cond0 rfl ?_
  refine ws_exit ?_
  refine ws_seq ?_
  refine ws_region ?_
  refine wo_pures 1 rfl ?_
  refine wo_nil ?_
  refine ws_ret ?_
  exact ⟨_, _, ret1 rfl rfl, ⟨rfl, rfl⟩, Ent.dropN 0 rfl⟩
theorem containsRuleNil_con (f : Value) : ConV Tryz.prog 66 [.slice none 0 0, f] [] (.bool false) := by
  refine con_body Tryz.func66 rfl Tryz.ntmps66 rfl fun E fr => ?_
  refine ws_seq ?_
  refine ws_region ?_
  refine wo_pures 1 rfl ?_
  refine wo_nil ?_
  refine ws_seq ?_
  refine ws_region ?_
  refine wo_pures 2 rfl ?_
  refine wo_callp (indexRuleNil_con _) rfl Tryz.call141 rfl ?_
  refine wo_pures 2 rfl ?_
  refine wo_nil ?_
  refine ws_ret ?_
  exact ⟨_, _, ret1 rfl rfl, ⟨rfl, rfl⟩, Ent.dropN 0 rfl⟩
theorem aclNil_con : ConV Tryz.prog 34 [.slice none 0 0] [] (.bool true) := by
  refine con_body Tryz.func34 rfl Tryz.ntmps34 rfl fun E fr => ?_
  refine ws_seq ?_
  refine ws_region ?_
  refine wo_pures 1 rfl ?_
  refine wo_nil ?_
  refine ws_seq ?_
  refine ws_region ?_
  refine wo_pures 1 rfl ?_
  refine wo_len_slice rfl Tryz.underlying33 rfl ?_
  refine wo_pures 2 rfl ?_
  refine wo_pures 1 rfl ?_
  refine wo_callp (containsRuleNil_con _) rfl Tryz.call66 rfl ?_
  refine wo_pures 3 rfl ?_
  refine wo_nil ?_
  refine ws_ret ?_
  exact ⟨_, _, ret1 rfl rfl, ⟨rfl, rfl⟩, Ent.dropN 0 rfl⟩
end Go.Proofs
