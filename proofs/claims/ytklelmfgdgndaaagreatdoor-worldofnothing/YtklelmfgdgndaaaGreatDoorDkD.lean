/- A part of the proof: the walk of some functions. -/
import Derived.Test.YtklelmfgdgndaaaGreatDoorDkC
open Go Go.Sep Burg
namespace Go.Proofs

theorem worldNew0_con (room : Int) (h0 : 0 ≤ room) (h1 : room ≤ 1073741824) (suf rt pw : Str) (hs1 : suf.length ≤ 1048576) (hs2 : rt.length ≤ 1048576) (e1 : (parseF suf).2 = 0) (e2 : (parseF rt).2 = 0) (k1 : (nameOk (parseF suf).1 && decide (((parseF suf).1.length : Int) > 0)) = true) (k2 : (parseF rt).1.length ≠ 0) (hpw : pw ≠ []) : ConX Tryz.prog 6 [int room, .agg #[str suf, str rt, str pw, .slice none 0 0]] [] (fun x : Wd => .tuple #[.pointer (some ⟨x.w, 0, none⟩), int 0]) (fun x => [cel x.w 48 [.pointer (some ⟨x.d, 0, none⟩), str suf, str rt, str pw, .slice none 0 0, .pointer (some ⟨x.s, 0, none⟩)], cel x.d 76 [int room, .map (some x.m), .bool false, int 0], mp x.m ([] : List (Str × Value)), cel x.s 82 [.pointer (some ⟨x.t, 0, none⟩), x.v, str pw, .slice none 0 0, .map (some x.k)], mp x.k ([] : List (Int × Value))]) := by
  refine con_body Tryz.func6 rfl Tryz.ntmps6 rfl fun E fr => ?_
  refine ws_seq ?_
  refine ws_region ?_
  refine wo_box rfl rfl rfl fun b1 => ?_
  refine wo_pures 2 rfl ?_
  refine wo_nil ?_
  refine ws_seq ?_
  refine ws_region ?_
  refine wo_pures 1 rfl ?_
  refine wo_callx (diskNew_con _ (by omega) (by omega)) rfl Tryz.call22 rfl (.refl _) fun x2 => ?_
  refine wo_pures 5 rfl ?_
  refine wo_nil ?_
  refine ws_seq ?_
  refine ws_seq ?_
  refine ws_region ?_
  refine wo_pures 2 rfl ?_
  refine wo_nil ?_
  refine ws_cond0 rfl ?_
  refine ws_skip ?_
  refine ws_seq ?_
  refine ws_region ?_
  refine wo_pures 1 rfl ?_
  refine wo_loadS 2 rfl Tryz.isAgg35 Tryz.sizeOf35 rfl rfl rfl rfl ?_
  refine wo_callx (serverNew0_con _ _ _ _ _ _ (by assumption) (by assumption) (by assumption) (by assumption) (by assumption) (by assumption) (by assumption)) rfl Tryz.call23 rfl (.cons 0 rfl (.cons 0 rfl (.refl _))) fun x3 => ?_
  refine wo_pures 5 rfl ?_
  refine wo_nil ?_
  refine ws_seq ?_
  refine ws_seq ?_
  refine ws_region ?_
  refine wo_pures 2 rfl ?_
  refine wo_nil ?_
  refine ws_cond0 rfl ?_
  refine ws_skip ?_
  refine ws_seq ?_
  refine ws_region ?_
  refine wo_field rfl Tryz.underlying35 rfl Tryz.sizeOf33 rfl rfl ?_
  refine wo_load 4 rfl Tryz.isAgg33 rfl rfl rfl ?_
  refine wo_append_nn Tryz.underlying33 (by kernel_rfl) rfl rfl rfl ?_
  refine wo_field rfl Tryz.underlying35 rfl Tryz.sizeOf33 rfl rfl ?_
  refine wo_store 4 rfl rfl rfl rfl Tryz.sizeOf33 rfl rfl rfl rfl ?_
  refine wo_nil ?_
  refine ws_seq ?_
  refine ws_seq ?_
  refine ws_region ?_
  refine wo_field rfl Tryz.underlying35 rfl Tryz.sizeOf33 rfl rfl ?_
  refine wo_load 4 rfl Tryz.isAgg33 rfl rfl rfl ?_
  refine wo_len_slice rfl Tryz.underlying33 rfl ?_
  refine wo_pures 1 rfl ?_
  refine wo_nil ?_
  refine ws_block ?_
  refine ws_once ?_
  refine ws_seq ?_
  refine ws_region ?_
  refine wo_pures 1 rfl ?_
  refine wo_nil ?_
  refine ws_seq ?_
  refine ws_cond0 rfl ?_
  refine ws_exit ?_
  refine ws_seq ?_
  refine ws_region ?_
  refine wo_pures 1 rfl ?_
  refine wo_loadS 4 rfl Tryz.isAgg35 Tryz.sizeOf35 rfl rfl rfl rfl ?_
  refine wo_pures 1 rfl ?_
  refine wo_build (us := [.pointer (some ⟨x2.1, 0, none⟩), str suf, str rt, str pw, .slice none 0 0, .pointer (some ⟨x3.s, 0, none⟩)]) rfl rfl (by kernel_rfl) ?_
  refine wo_box rfl rfl rfl fun b4 => ?_
  refine wo_pures 2 rfl ?_
  refine wo_nil ?_
  refine ws_ret ?_
  exact ⟨_, [_, _, _, _, _], ret2 rfl rfl rfl, ⟨⟨b4, x2.1, x2.2, x3.s, x3.k, x3.t, x3.v⟩, rfl, rfl⟩, (.cons 0 rfl (.cons 2 rfl (.cons 2 rfl (.cons 0 rfl (.cons 0 rfl (Ent.dropN 1 rfl))))))⟩
theorem doNil_con (k c n : Int) (dta : Value) : ConV Tryz.prog 5 [.pointer none, .agg #[int k, int c, int n, dta]] [] (.tuple #[.slice none 0 0, int 1]) := by
  refine con_body Tryz.func5 rfl Tryz.ntmps5 rfl fun E fr => ?_
  refine ws_seq ?_
  refine ws_region ?_
  refine wo_box rfl rfl rfl fun b1 => ?_
  refine wo_pures 2 rfl ?_
  refine wo_nil ?_
  refine ws_seq ?_
  refine ws_seq ?_
  refine ws_region ?_
  refine wo_pures 1 rfl ?_
  refine wo_ptr_nil rfl Tryz.underlying27 rfl rfl rfl ?_
  refine wo_nil ?_
  refine ws_cond1 rfl ?_
  refine ws_seq ?_
  refine ws_region ?_
  refine wo_pures 2 rfl ?_
  refine wo_nil ?_
  refine ws_ret ?_
  exact ⟨_, _, ret2 rfl rfl rfl, ⟨rfl, rfl⟩, Ent.dropN 1 rfl⟩
theorem upNil_con : ConV Tryz.prog 9 [.pointer none] [] (.bool false) := by
  refine con_body Tryz.func9 rfl Tryz.ntmps9 rfl fun E fr => ?_
  refine ws_seq ?_
  refine ws_region ?_
  refine wo_pures 1 rfl ?_
  refine wo_nil ?_
  refine ws_seq ?_
  refine ws_region ?_
  refine wo_pures 1 rfl ?_
  refine wo_ptr_nil rfl Tryz.underlying27 rfl rfl rfl ?_
  refine wo_pures 1 rfl ?_
  refine wo_and (qv := false) 5 2 rfl rfl rfl rfl rfl rfl rfl (fun hp => absurd hp (by decide)) ?_
  refine wo_pures 1 rfl ?_
  refine wo_nil ?_
  refine ws_ret ?_
  exact ⟨_, _, ret1 rfl rfl, ⟨rfl, rfl⟩, Ent.dropN 0 rfl⟩
theorem serverNil_con : ConV Tryz.prog 10 [.pointer none] [] (.pointer none) := by
  refine con_body Tryz.func10 rfl Tryz.ntmps10 rfl fun E fr => ?_
  refine ws_seq ?_
  refine ws_region ?_
  refine wo_pures 1 rfl ?_
  refine wo_nil ?_
  refine ws_seq ?_
  refine ws_seq ?_
  refine ws_region ?_
  refine wo_pures 1 rfl ?_
  refine wo_ptr_nil rfl Tryz.underlying27 rfl rfl rfl ?_
  refine wo_nil ?_
  refine ws_cond1 rfl ?_
  refine ws_seq ?_
  refine ws_region ?_
  refine wo_pures 1 rfl ?_
  refine wo_nil ?_
  refine ws_ret ?_
  exact ⟨_, _, ret1 rfl rfl, ⟨rfl, rfl⟩, Ent.dropN 0 rfl⟩
theorem diskNil_con : ConV Tryz.prog 11 [.pointer none] [] (.pointer none) := by
  refine con_body Tryz.func11 rfl Tryz.ntmps11 rfl fun E fr => ?_
  refine ws_seq ?_
  refine ws_region ?_
  refine wo_pures 1 rfl ?_
  refine wo_nil ?_
  refine ws_seq ?_
  refine ws_seq ?_
  refine ws_region ?_
  refine wo_pures 1 rfl ?_
  refine wo_ptr_nil rfl Tryz.underlying27 rfl rfl rfl ?_
  refine wo_nil ?_
  refine ws_cond1 rfl ?_
  refine ws_seq ?_
  refine ws_region ?_
  refine wo_pures 1 rfl ?_
  refine wo_nil ?_
  refine ws_ret ?_
  exact ⟨_, _, ret1 rfl rfl, ⟨rfl, rfl⟩, Ent.dropN 0 rfl⟩
theorem entriesNil_con : ConV Tryz.prog 12 [.pointer none] [] (.slice none 0 0) := by
  refine con_body Tryz.func12 rfl Tryz.ntmps12 rfl fun E fr => ?_
  refine ws_seq ?_
  refine ws_region ?_
  refine wo_pures 1 rfl ?_
  refine wo_nil ?_
  refine ws_seq ?_
  refine ws_seq ?_
  refine ws_region ?_
  refine wo_pures 1 rfl ?_
  refine wo_callp upNil_con rfl Tryz.call9 rfl ?_
  refine wo_pures 1 rfl ?_
  refine wo_nil ?_
  refine ws_cond1 rfl ?_
  refine ws_seq ?_
  refine ws_region ?_
  refine wo_pures 1 rfl ?_
  refine wo_nil ?_
  refine ws_ret ?_
  exact ⟨_, _, ret1 rfl rfl, ⟨rfl, rfl⟩, Ent.dropN 0 rfl⟩
theorem up0_con (w d m : Nat) (room : Int) (suf rt pw : Str) : ConR Tryz.prog 9 [.pointer (some ⟨w, 0, none⟩)] [cel w 48 [.pointer (some ⟨d, 0, none⟩), str suf, str rt, str pw, .slice none 0 0, .pointer none], cel d 76 [int room, .map (some m), .bool false, int 0], mp m ([] : List (Str × Value))] (.bool false) := by
  refine con_body Tryz.func9 rfl Tryz.ntmps9 rfl fun E fr => ?_
  refine ws_seq ?_
  refine ws_region ?_
  refine wo_pures 1 rfl ?_
  refine wo_nil ?_
  refine ws_seq ?_
  refine ws_region ?_
  refine wo_pures 1 rfl ?_
  refine wo_ptr_nil rfl Tryz.underlying27 rfl rfl rfl ?_
  refine wo_pures 1 rfl ?_
  refine wo_pures 2 rfl ?_
  refine wo_field rfl Tryz.underlying48 rfl Tryz.sizeOf40 rfl rfl ?_
  refine wo_load 0 rfl Tryz.isAgg40 rfl rfl rfl ?_
  refine wo_ptr_nil rfl Tryz.underlying40 rfl rfl rfl ?_
  refine wo_pures 2 rfl ?_
  refine wo_nil ?_
  refine ws_ret ?_
  exact ⟨_, _, ret1 rfl rfl, ⟨rfl, rfl⟩, Ent.refl _⟩
theorem up1_con (w d m : Nat) (room : Int) (suf rt pw : Str) (s : Nat) : ConR Tryz.prog 9 [.pointer (some ⟨w, 0, none⟩)] [cel w 48 [.pointer (some ⟨d, 0, none⟩), str suf, str rt, str pw, .slice none 0 0, .pointer (some ⟨s, 0, none⟩)], cel d 76 [int room, .map (some m), .bool false, int 0], mp m ([] : List (Str × Value))] (.bool true) := by
  refine con_body Tryz.func9 rfl Tryz.ntmps9 rfl fun E fr => ?_
  refine ws_seq ?_
  refine ws_region ?_
  refine wo_pures 1 rfl ?_
  refine wo_nil ?_
  refine ws_seq ?_
  refine ws_region ?_
  refine wo_pures 1 rfl ?_
  refine wo_ptr_nil rfl Tryz.underlying27 rfl rfl rfl ?_
  refine wo_pures 1 rfl ?_
  refine wo_pures 2 rfl ?_
  refine wo_field rfl Tryz.underlying48 rfl Tryz.sizeOf40 rfl rfl ?_
  refine wo_load 0 rfl Tryz.isAgg40 rfl rfl rfl ?_
  refine wo_ptr_nil rfl Tryz.underlying40 rfl rfl rfl ?_
  refine wo_pures 2 rfl ?_
  refine wo_nil ?_
  refine ws_ret ?_
  exact ⟨_, _, ret1 rfl rfl, ⟨rfl, rfl⟩, Ent.refl _⟩
theorem crash0_con (d m : Nat) (room n : Int) : ConR Tryz.prog 15 [.pointer (some ⟨d, 0, none⟩), int n] [cel d 76 [int room, .map (some m), .bool false, int 0], mp m ([] : List (Str × Value))] (.tuple #[]) := by
  refine con_body Tryz.func15 rfl Tryz.ntmps15 rfl fun E fr => ?_
  refine ws_seq ?_
  refine ws_seq ?_
  refine ws_region ?_
  refine wo_pures 1 rfl ?_
  refine wo_ptr_nil rfl Tryz.underlying42 rfl rfl rfl ?_
  refine wo_nil ?_
  refine ws_cond0 rfl ?_
  refine ws_skip ?_
  refine ws_seq ?_
  refine ws_seq ?_
  refine ws_region ?_
  refine wo_pures 2 rfl ?_
  refine wo_field rfl Tryz.underlying76 rfl Tryz.sizeOf74 rfl rfl ?_
  refine wo_load 0 rfl Tryz.isAgg74 rfl rfl rfl ?_
  refine wo_range 1 rfl Tryz.underlying74 rfl rfl fun r1 => ?_
  refine wo_nil ?_
  refine ws_block ?_
  refine ws_once ?_
  refine ws_seq ?_
  refine ws_region ?_
  refine wo_next_none 2 0 rfl rfl rfl rfl ?_
  refine wo_pures 1 rfl ?_
  refine wo_nil ?_
  refine ws_seq ?_
  refine ws_cond0 rfl ?_
  refine ws_exit ?_
  refine ws_region ?_
  refine wo_pures 2 rfl ?_
  refine wo_field rfl Tryz.underlying76 rfl Tryz.sizeOf4 rfl rfl ?_
  refine wo_store 1 rfl rfl rfl rfl Tryz.sizeOf4 rfl rfl rfl rfl ?_
  refine wo_nil ?_
  exact ⟨_, _, ret0 rfl, ⟨rfl, rfl⟩, (Ent.dropN 1 rfl)⟩
theorem doCrash_con (w d m : Nat) (room : Int) (suf rt pw : Str) (s : Nat) (c n : Int) (dta : Value) : ConX Tryz.prog 5 [.pointer (some ⟨w, 0, none⟩), .agg #[int 5, int c, int n, dta]] [cel w 48 [.pointer (some ⟨d, 0, none⟩), str suf, str rt, str pw, .slice none 0 0, .pointer (some ⟨s, 0, none⟩)], cel d 76 [int room, .map (some m), .bool false, int 0], mp m ([] : List (Str × Value))] (fun _ : Unit => .tuple #[.slice none 0 0, int 0]) (fun _ => [cel w 48 [.pointer (some ⟨d, 0, none⟩), str suf, str rt, str pw, .slice none 0 0, .pointer none], cel d 76 [int room, .map (some m), .bool false, int 0], mp m ([] : List (Str × Value))]) := by
  refine con_body Tryz.func5 rfl Tryz.ntmps5 rfl fun E fr => ?_
  refine ws_seq ?_
  refine ws_region ?_
  refine wo_box rfl rfl rfl fun b1 => ?_
  refine wo_pures 2 rfl ?_
  refine wo_nil ?_
  refine ws_seq ?_
  refine ws_seq ?_
  refine ws_region ?_
  refine wo_pures 1 rfl ?_
  refine wo_ptr_nil rfl Tryz.underlying27 rfl rfl rfl ?_
  refine wo_nil ?_
  refine ws_cond0 rfl ?_
  refine ws_skip ?_
  refine ws_seq ?_
  refine ws_seq ?_
  refine ws_region ?_
  refine wo_field rfl Tryz.underlying24 rfl Tryz.sizeOf3 rfl rfl ?_
  refine wo_load 0 rfl Tryz.isAgg3 rfl rfl rfl ?_
  refine wo_nil ?_
  refine ws_block ?_
  refine ws_seq ?_
  refine ws_region ?_
  refine wo_pures 2 rfl ?_
  refine wo_nil ?_
  refine ws_cond0 rfl ?_
  refine ws_seq ?_
  refine ws_region ?_
  refine wo_pures 2 rfl ?_
  refine wo_nil ?_
  refine ws_cond1 rfl ?_
  refine ws_seq ?_
  refine ws_draw mixed (by kernel_rfl) (by first | rfl | kernel_rfl) ?_
  refine wd_pures [0, 1] (by kernel_rfl) rfl ?_
  refine .quiet 2 rfl rfl rfl (by kernel_rfl) (by
    refine wo_field rfl Tryz.underlying48 rfl Tryz.sizeOf42 rfl rfl ?_
    exact wo_nil ⟨rfl, Ent.refl _⟩) ?_
  refine .quiet 3 rfl rfl rfl (by kernel_rfl) (by
    refine wo_load 1 rfl Tryz.isAgg42 rfl rfl rfl ?_
    exact wo_nil ⟨rfl, Ent.refl _⟩) ?_
  refine .quiet 4 rfl rfl rfl (by kernel_rfl) (by
    refine wo_field rfl Tryz.underlying24 rfl Tryz.sizeOf3 rfl rfl ?_
    exact wo_nil ⟨rfl, Ent.refl _⟩) ?_
  refine .quiet 5 rfl rfl rfl (by kernel_rfl) (by
    refine wo_load 0 rfl Tryz.isAgg3 rfl rfl rfl ?_
    exact wo_nil ⟨rfl, Ent.refl _⟩) ?_
  refine .quiet 6 rfl rfl rfl (by kernel_rfl) (by
    refine wo_callk (crash0_con _ _ _ _) rfl Tryz.call15 rfl (.cons 2 rfl (.cons 2 rfl (.refl _))) (.cons 2 rfl (.cons 2 rfl (.cons 0 rfl (.cons 0 rfl (.refl _))))) ?_
    exact wo_nil ⟨rfl, Ent.refl _⟩) ?_
  refine .done (by kernel_rfl) ?_
  refine ws_seq ?_
  refine ws_region ?_
  refine wo_pures 2 rfl ?_
  refine wo_field rfl Tryz.underlying48 rfl Tryz.sizeOf40 rfl rfl ?_
  refine wo_store 1 rfl rfl rfl rfl Tryz.sizeOf40 rfl rfl rfl rfl ?_
  refine wo_nil ?_
  refine ws_seq ?_
  refine ws_region ?_
  refine wo_pures 2 rfl ?_
  refine wo_nil ?_
  refine ws_ret ?_
  exact ⟨_, [_, _, _], ret2 rfl rfl rfl, ⟨(), rfl, rfl⟩, Ent.dropN 1 rfl⟩
theorem doSend0_con (w d m : Nat) (room : Int) (suf rt pw : Str) (c n : Int) (dta : Value) : ConR Tryz.prog 5 [.pointer (some ⟨w, 0, none⟩), .agg #[int 2, int c, int n, dta]] [cel w 48 [.pointer (some ⟨d, 0, none⟩), str suf, str rt, str pw, .slice none 0 0, .pointer none], cel d 76 [int room, .map (some m), .bool false, int 0], mp m ([] : List (Str × Value))] (.tuple #[.slice none 0 0, int 1]) := by
  refine con_body Tryz.func5 rfl Tryz.ntmps5 rfl fun E fr => ?_
  refine ws_seq ?_
  refine ws_region ?_
  refine wo_box rfl rfl rfl fun b1 => ?_
  refine wo_pures 2 rfl ?_
  refine wo_nil ?_
  refine ws_seq ?_
  refine ws_seq ?_
  refine ws_region ?_
  refine wo_pures 1 rfl ?_
  refine wo_ptr_nil rfl Tryz.underlying27 rfl rfl rfl ?_
  refine wo_nil ?_
  refine ws_cond0 rfl ?_
  refine ws_skip ?_
  refine ws_seq ?_
  refine ws_seq ?_
  refine ws_region ?_
  refine wo_field rfl Tryz.underlying24 rfl Tryz.sizeOf3 rfl rfl ?_
  refine wo_load 0 rfl Tryz.isAgg3 rfl rfl rfl ?_
  refine wo_nil ?_
  refine ws_block ?_
  refine ws_seq ?_
  refine ws_region ?_
  refine wo_pures 2 rfl ?_
  refine wo_nil ?_
  refine ws_cond0 rfl ?_
  refine ws_seq ?_
  refine ws_region ?_
  refine wo_pures 2 rfl ?_
  refine wo_nil ?_
  refine ws_cond0 rfl ?_
  refine ws_seq ?_
  refine ws_region ?_
  refine wo_pures 2 rfl ?_
  refine wo_nil ?_
  refine ws_cond0 rfl ?_
  refine ws_skip ?_
  refine ws_seq ?_
  refine ws_seq ?_
  refine ws_region ?_
  refine wo_pures 1 rfl ?_
  refine wo_callk (up0_con _ _ _ _ _ _ _) rfl Tryz.call9 rfl (.cons 1 rfl (.cons 1 rfl (.cons 1 rfl (.refl _)))) (.cons 3 rfl (.cons 0 rfl (.cons 0 rfl (.cons 0 rfl (.refl _))))) ?_
  refine wo_pures 1 rfl ?_
  refine wo_nil ?_
  refine ws_cond1 rfl ?_
  refine ws_seq ?_
  refine ws_region ?_
  refine wo_pures 2 rfl ?_
  refine wo_nil ?_
  refine ws_ret ?_
  exact ⟨_, _, ret2 rfl rfl rfl, ⟨rfl, rfl⟩, Ent.dropN 1 rfl⟩
theorem worldOpen0_con (w d m : Nat) (room : Int) (suf rt pw : Str) (hs1 : suf.length ≤ 1048576) (hs2 : rt.length ≤ 1048576) (e1 : (parseF suf).2 = 0) (e2 : (parseF rt).2 = 0) (k1 : (nameOk (parseF suf).1 && decide (((parseF suf).1.length : Int) > 0)) = true) (k2 : (parseF rt).1.length ≠ 0) (hpw : pw ≠ []) : ConX Tryz.prog 16 [.pointer (some ⟨w, 0, none⟩)] [cel w 48 [.pointer (some ⟨d, 0, none⟩), str suf, str rt, str pw, .slice none 0 0, .pointer none], cel d 76 [int room, .map (some m), .bool false, int 0], mp m ([] : List (Str × Value))] (fun x : Sv => int 0) (fun x => [cel w 48 [.pointer (some ⟨d, 0, none⟩), str suf, str rt, str pw, .slice none 0 0, .pointer (some ⟨x.s, 0, none⟩)], cel d 76 [int room, .map (some m), .bool false, int 0], mp m ([] : List (Str × Value)), cel x.s 82 [.pointer (some ⟨x.t, 0, none⟩), x.v, str pw, .slice none 0 0, .map (some x.k)], mp x.k ([] : List (Int × Value))]) := by
  refine con_body Tryz.func16 rfl Tryz.ntmps16 rfl fun E fr => ?_
  refine ws_seq ?_
  refine ws_region ?_
  refine wo_pures 1 rfl ?_
  refine wo_nil ?_
  refine ws_seq ?_
  refine ws_seq ?_
  refine ws_region ?_
  refine wo_pures 1 rfl ?_
  refine wo_callk (up0_con _ _ _ _ _ _ _) rfl Tryz.call9 rfl (.cons 0 rfl (.cons 0 rfl (.cons 0 rfl (.refl _)))) (.cons 0 rfl (.cons 0 rfl (.cons 0 rfl (.refl _)))) ?_
  refine wo_nil ?_
  refine ws_cond0 rfl ?_
  refine ws_skip ?_
  refine ws_seq ?_
  refine ws_draw mixed (by kernel_rfl) (by first | rfl | kernel_rfl) ?_
  refine wd_pures [0, 1, 4, 5] (by kernel_rfl) rfl ?_
  refine .quiet 2 rfl rfl rfl (by kernel_rfl) (by
    refine wo_field rfl Tryz.underlying48 rfl Tryz.sizeOf42 rfl rfl ?_
    exact wo_nil ⟨rfl, Ent.refl _⟩) ?_
  refine .quiet 3 rfl rfl rfl (by kernel_rfl) (by
    refine wo_load 0 rfl Tryz.isAgg42 rfl rfl rfl ?_
    exact wo_nil ⟨rfl, Ent.refl _⟩) ?_
  refine .quiet 6 rfl rfl rfl (by kernel_rfl) (by
    refine wo_field rfl Tryz.underlying48 rfl Tryz.sizeOf35 rfl rfl ?_
    exact wo_nil ⟨rfl, Ent.refl _⟩) ?_
  refine .quiet 7 rfl rfl rfl (by kernel_rfl) (by
    refine wo_loadS 0 rfl Tryz.isAgg35 Tryz.sizeOf35 rfl rfl rfl rfl ?_
    exact wo_nil ⟨rfl, Ent.refl _⟩) ?_
  refine wd_main 8 [] rfl (by kernel_rfl) (by kernel_rfl) ?_
  refine wo_callx (serverNew0_con _ _ _ _ _ _ (by assumption) (by assumption) (by assumption) (by assumption) (by assumption) (by assumption) (by assumption)) rfl Tryz.call23 rfl (.cons 1 rfl (.cons 1 rfl (.refl _))) fun x1 => ?_
  refine wo_nil ⟨_, rfl, ?_, ?_⟩
  · trivial
  refine wd_pures [9, 10, 11, 12, 13] (by kernel_rfl) rfl ?_
  refine .done (by kernel_rfl) ?_
  refine ws_seq ?_
  refine ws_seq ?_
  refine ws_region ?_
  refine wo_pures 2 rfl ?_
  refine wo_nil ?_
  refine ws_cond1 rfl ?_
  refine ws_region ?_
  refine wo_pures 3 rfl ?_
  refine wo_field rfl Tryz.underlying48 rfl Tryz.sizeOf40 rfl rfl ?_
  refine wo_store 4 rfl rfl rfl rfl Tryz.sizeOf40 rfl rfl rfl rfl ?_
  refine wo_nil ?_
  refine ws_seq ?_
  refine ws_region ?_
  refine wo_pures 2 rfl ?_
  refine wo_nil ?_
  refine ws_ret ?_
  exact ⟨_, [_, _, _, _, _], ret1 rfl rfl, ⟨x1, rfl, rfl⟩, (.cons 4 rfl (.cons 2 rfl (.cons 2 rfl (.cons 0 rfl (.cons 0 rfl (.refl _))))))⟩
theorem doOpen0_con (w d m : Nat) (room : Int) (suf rt pw : Str) (hs1 : suf.length ≤ 1048576) (hs2 : rt.length ≤ 1048576) (e1 : (parseF suf).2 = 0) (e2 : (parseF rt).2 = 0) (k1 : (nameOk (parseF suf).1 && decide (((parseF suf).1.length : Int) > 0)) = true) (k2 : (parseF rt).1.length ≠ 0) (hpw : pw ≠ []) (c n : Int) (dta : Value) : ConX Tryz.prog 5 [.pointer (some ⟨w, 0, none⟩), .agg #[int 6, int c, int n, dta]] [cel w 48 [.pointer (some ⟨d, 0, none⟩), str suf, str rt, str pw, .slice none 0 0, .pointer none], cel d 76 [int room, .map (some m), .bool false, int 0], mp m ([] : List (Str × Value))] (fun x : Sv => .tuple #[.slice none 0 0, int 0]) (fun x => [cel w 48 [.pointer (some ⟨d, 0, none⟩), str suf, str rt, str pw, .slice none 0 0, .pointer (some ⟨x.s, 0, none⟩)], cel d 76 [int room, .map (some m), .bool false, int 0], mp m ([] : List (Str × Value)), cel x.s 82 [.pointer (some ⟨x.t, 0, none⟩), x.v, str pw, .slice none 0 0, .map (some x.k)], mp x.k ([] : List (Int × Value))]) := by
  refine con_body Tryz.func5 rfl Tryz.ntmps5 rfl fun E fr => ?_
  refine ws_seq ?_
  refine ws_region ?_
  refine wo_box rfl rfl rfl fun b1 => ?_
  refine wo_pures 2 rfl ?_
  refine wo_nil ?_
  refine ws_seq ?_
  refine ws_seq ?_
  refine ws_region ?_
  refine wo_pures 1 rfl ?_
  refine wo_ptr_nil rfl Tryz.underlying27 rfl rfl rfl ?_
  refine wo_nil ?_
  refine ws_cond0 rfl ?_
  refine ws_skip ?_
  refine ws_seq ?_
  refine ws_seq ?_
  refine ws_region ?_
  refine wo_field rfl Tryz.underlying24 rfl Tryz.sizeOf3 rfl rfl ?_
  refine wo_load 0 rfl Tryz.isAgg3 rfl rfl rfl ?_
  refine wo_nil ?_
  refine ws_block ?_
  refine ws_seq ?_
  refine ws_region ?_
  refine wo_pures 2 rfl ?_
  refine wo_nil ?_
  refine ws_cond0 rfl ?_
  refine ws_seq ?_
  refine ws_region ?_
  refine wo_pures 2 rfl ?_
  refine wo_nil ?_
  refine ws_cond0 rfl ?_
  refine ws_seq ?_
  refine ws_region ?_
  refine wo_pures 2 rfl ?_
  refine wo_nil ?_
  refine ws_cond1 rfl ?_
  refine ws_seq ?_
  refine ws_region ?_
  refine wo_pures 1 rfl ?_
  refine wo_callx (worldOpen0_con _ _ _ _ _ _ _ (by assumption) (by assumption) (by assumption) (by assumption) (by assumption) (by assumption) (by assumption)) rfl Tryz.call16 rfl (.cons 1 rfl (.cons 1 rfl (.cons 1 rfl (.refl _)))) fun x2 => ?_
  refine wo_pures 2 rfl ?_
  refine wo_nil ?_
  refine ws_ret ?_
  exact ⟨_, [_, _, _, _, _], ret2 rfl rfl rfl, ⟨x2, rfl, rfl⟩, (.cons 0 rfl (.cons 0 rfl (.cons 0 rfl (.cons 0 rfl (.cons 0 rfl (Ent.dropN 1 rfl))))))⟩
theorem doConnect0_con (w d m : Nat) (room : Int) (suf rt pw : Str) (s k : Nat) (a b c r : Value) (i j : Int) (dta : Value) : ConX Tryz.prog 5 [.pointer (some ⟨w, 0, none⟩), .agg #[int 1, int i, int j, dta]] [cel w 48 [.pointer (some ⟨d, 0, none⟩), str suf, str rt, str pw, .slice none 0 0, .pointer (some ⟨s, 0, none⟩)], cel d 76 [int room, .map (some m), .bool false, int 0], mp m ([] : List (Str × Value)), cel s 82 [a, b, c, r, .map (some k)], mp k ([] : List (Int × Value))] (fun v : Value => .tuple #[v, int 0]) (fun v => [row 5 v [byteI 1], cel w 48 [.pointer (some ⟨d, 0, none⟩), str suf, str rt, str pw, .slice none 0 0, .pointer (some ⟨s, 0, none⟩)], cel d 76 [int room, .map (some m), .bool false, int 0], mp m ([] : List (Str × Value))]) := by
  refine con_body Tryz.func5 rfl Tryz.ntmps5 rfl fun E fr => ?_
  refine ws_seq ?_
  refine ws_region ?_
  refine wo_box rfl rfl rfl fun b1 => ?_
  refine wo_pures 2 rfl ?_
  refine wo_nil ?_
  refine ws_seq ?_
  refine ws_seq ?_
  refine ws_region ?_
  refine wo_pures 1 rfl ?_
  refine wo_ptr_nil rfl Tryz.underlying27 rfl rfl rfl ?_
  refine wo_nil ?_
  refine ws_cond0 rfl ?_
  refine ws_skip ?_
  refine ws_seq ?_
  refine ws_seq ?_
  refine ws_region ?_
  refine wo_field rfl Tryz.underlying24 rfl Tryz.sizeOf3 rfl rfl ?_
  refine wo_load 0 rfl Tryz.isAgg3 rfl rfl rfl ?_
  refine wo_nil ?_
  refine ws_block ?_
  refine ws_seq ?_
  refine ws_region ?_
  refine wo_pures 2 rfl ?_
  refine wo_nil ?_
  refine ws_cond0 rfl ?_
  refine ws_seq ?_
  refine ws_region ?_
  refine wo_pures 2 rfl ?_
  refine wo_nil ?_
  refine ws_cond0 rfl ?_
  refine ws_seq ?_
  refine ws_region ?_
  refine wo_pures 2 rfl ?_
  refine wo_nil ?_
  refine ws_cond0 rfl ?_
  refine ws_skip ?_
  refine ws_seq ?_
  refine ws_seq ?_
  refine ws_region ?_
  refine wo_pures 1 rfl ?_
  refine wo_callk (up1_con _ _ _ _ _ _ _ _) rfl Tryz.call9 rfl (.cons 1 rfl (.cons 1 rfl (.cons 1 rfl (.cons 1 rfl (.cons 1 rfl (.refl _)))))) (.cons 5 rfl (.cons 0 rfl (.cons 0 rfl (.cons 0 rfl (.cons 0 rfl (.cons 0 rfl (.refl _))))))) ?_
  refine wo_pures 1 rfl ?_
  refine wo_nil ?_
  refine ws_cond0 rfl ?_
  refine ws_skip ?_
  refine ws_seq ?_
  refine ws_seq ?_
  refine ws_region ?_
  refine wo_field rfl Tryz.underlying24 rfl Tryz.sizeOf3 rfl rfl ?_
  refine wo_load 0 rfl Tryz.isAgg3 rfl rfl rfl ?_
  refine wo_nil ?_
  refine ws_block ?_
  refine ws_seq ?_
  refine ws_region ?_
  refine wo_pures 2 rfl ?_
  refine wo_nil ?_
  refine ws_cond1 rfl ?_
  refine ws_seq ?_
  refine ws_region ?_
  refine wo_pures 2 rfl ?_
  refine wo_field rfl Tryz.underlying48 rfl Tryz.sizeOf40 rfl rfl ?_
  refine wo_load 1 rfl Tryz.isAgg40 rfl rfl rfl ?_
  refine wo_callx (connect0_con _ _ _ _ _ _) rfl Tryz.call17 rfl (.cons 4 rfl (.cons 4 rfl (.refl _))) fun x2 => ?_
  refine wo_conv_byte rfl Tryz.underlying3 Tryz.underlying5 rfl ?_
  refine wo_buildSlice [byteI 1] elt_22 rfl rfl rfl rfl rfl rfl rfl (fun _ _ _ => flats rfl) fun v3 => ?_
  refine wo_pures 2 rfl ?_
  refine wo_nil ?_
  refine ws_ret ?_
  exact ⟨_, [_, _, _, _], ret2 rfl rfl rfl, ⟨_, rfl, rfl⟩, (.cons 0 rfl (.cons 3 rfl (.cons 3 rfl (.cons 3 rfl (Ent.dropN 3 rfl)))))⟩
end Go.Proofs
