/- A part of the proof: the walk of some functions. -/
import Derived.Test.YtklelmfgdgndaaaGreatDoorDkB
open Go Go.Sep Burg
namespace Go.Proofs

theorem serverNew0_con (d m : Nat) (room : Int) (suf rt pw : Str) (hs1 : suf.length ≤ 1048576) (hs2 : rt.length ≤ 1048576) (e1 : (parseF suf).2 = 0) (e2 : (parseF rt).2 = 0) (k1 : (nameOk (parseF suf).1 && decide (((parseF suf).1.length : Int) > 0)) = true) (k2 : (parseF rt).1.length ≠ 0) (hpw : pw ≠ []) : ConX Tryz.prog 23 [.pointer (some ⟨d, 0, none⟩), .agg #[str suf, str rt, str pw, .slice none 0 0]] [cel d 76 [int room, .map (some m), .bool false, int 0], mp m ([] : List (Str × Value))] (fun x : Sv => .tuple #[.pointer (some ⟨x.s, 0, none⟩), int 0]) (fun x => [cel x.s 82 [.pointer (some ⟨x.t, 0, none⟩), x.v, str pw, .slice none 0 0, .map (some x.k)], mp x.k ([] : List (Int × Value)), cel d 76 [int room, .map (some m), .bool false, int 0], mp m ([] : List (Str × Value))]) := by
  refine con_body Tryz.func23 rfl Tryz.ntmps23 rfl fun E fr => ?_
  refine ws_seq ?_
  refine ws_region ?_
  refine wo_box rfl rfl rfl fun b1 => ?_
  refine wo_pures 2 rfl ?_
  refine wo_nil ?_
  refine ws_seq ?_
  refine ws_region ?_
  refine wo_field rfl Tryz.underlying35 rfl Tryz.sizeOf9 rfl rfl ?_
  refine wo_load 0 rfl Tryz.isAgg9 rfl rfl rfl ?_
  refine wo_callx (parse_con _ (by omega)) rfl Tryz.call24 rfl (.refl _) fun v2 => ?_
  refine wo_pures 5 rfl ?_
  refine wo_nil ?_
  refine ws_seq ?_
  refine ws_region ?_
  refine wo_field rfl Tryz.underlying35 rfl Tryz.sizeOf9 rfl rfl ?_
  refine wo_load 1 rfl Tryz.isAgg9 rfl rfl rfl ?_
  refine wo_callx (parse_con _ (by omega)) rfl Tryz.call24 rfl (.refl _) fun v3 => ?_
  refine wo_pures 5 rfl ?_
  refine wo_nil ?_
  refine ws_seq ?_
  refine ws_seq ?_
  refine ws_region ?_
  refine wo_pures 3 rfl ?_
  refine wo_or 2 2 rfl rfl rfl rfl rfl rfl rfl (fun hp32 => by
    refine wo_pures 2 rfl ?_
    exact wo_nil ⟨rfl, Env.Sub.news 2 rfl rfl, Ent.refl _⟩) ?_
  refine wo_pures 1 rfl ?_
  refine wo_or 3 6 rfl rfl rfl rfl rfl rfl rfl (fun hp37 => by
    refine wo_pures 1 rfl ?_
    refine wo_len_dat 1 rfl Tryz.underlying60 rfl rfl fun hl4 => ?_
    refine wo_pures 1 rfl ?_
    exact wo_nil ⟨rfl, Env.Sub.news 3 rfl rfl, Ent.refl _⟩) ?_
  refine wo_pures 1 rfl ?_
  refine wo_or 3 11 rfl rfl rfl rfl rfl rfl rfl (fun hp42 => by
    refine wo_pures 1 rfl ?_
    refine wo_len_dat 0 rfl Tryz.underlying60 rfl rfl fun hl5 => ?_
    refine wo_pures 1 rfl ?_
    exact wo_nil ⟨rfl, Env.Sub.news 3 rfl rfl, Ent.refl _⟩) ?_
  refine wo_pures 1 rfl ?_
  refine wo_or 3 16 rfl rfl rfl rfl rfl rfl rfl (fun hp47 => by
    refine wo_field rfl Tryz.underlying35 rfl Tryz.sizeOf9 rfl rfl ?_
    refine wo_load 2 rfl Tryz.isAgg9 rfl rfl rfl ?_
    refine wo_pures 1 rfl ?_
    exact wo_nil ⟨rfl, Env.Sub.news 3 rfl rfl, Ent.refl _⟩) ?_
  refine wo_pures 1 rfl ?_
  refine wo_or 4 21 rfl rfl rfl rfl rfl rfl rfl (fun hp53 => by
    refine wo_field rfl Tryz.underlying35 rfl Tryz.sizeOf33 rfl rfl ?_
    refine wo_load 2 rfl Tryz.isAgg33 rfl rfl rfl ?_
    refine wo_callp aclNil_con rfl Tryz.call34 rfl ?_
    refine wo_pures 1 rfl ?_
    exact wo_nil ⟨rfl, Env.Sub.news 4 rfl rfl, Ent.refl _⟩) ?_
  refine wo_nil ?_
  refine ws_cond rfl (fun h53 => ?_) (fun h53 => ?_)
  · skip
    exfalso
    have l1 : (parseF suf).1 ≠ [] := fun c => by rw [c] at k1; simp at k1
    have l2 : (parseF rt).1 ≠ [] := fun c => by rw [c] at k2; simp at k2
    simp [e1, e2, l1, l2, hpw] at h53
  · skip
    refine ws_skip ?_
    refine ws_seq ?_
    refine ws_region ?_
    refine wo_pures 1 rfl ?_
    refine wo_callx (lsmOpen0_con _ _ _) rfl Tryz.call35 rfl (.cons 3 rfl (.cons 3 rfl (.refl _))) fun s6 => ?_
    refine wo_pures 5 rfl ?_
    refine wo_nil ?_
    refine ws_seq ?_
    refine ws_seq ?_
    refine ws_region ?_
    refine wo_pures 2 rfl ?_
    refine wo_nil ?_
    refine ws_cond0 rfl ?_
    refine ws_skip ?_
    refine ws_seq ?_
    refine ws_region ?_
    refine wo_pures 2 rfl ?_
    refine wo_callx (treeNew_con _ _ _ (parseF_len (by assumption)) (by assumption)) rfl Tryz.call36 rfl (.cons 3 rfl (.refl _)) fun t7 => ?_
    refine wo_pures 5 rfl ?_
    refine wo_nil ?_
    refine ws_seq ?_
    refine ws_seq ?_
    refine ws_region ?_
    refine wo_pures 2 rfl ?_
    refine wo_nil ?_
    refine ws_cond0 rfl ?_
    refine ws_skip ?_
    refine ws_seq ?_
    refine ws_region ?_
    refine wo_pures 2 rfl ?_
    refine wo_field rfl Tryz.underlying35 rfl Tryz.sizeOf9 rfl rfl ?_
    refine wo_load 3 rfl Tryz.isAgg9 rfl rfl rfl ?_
    refine wo_makeMap Int rfl fun m8 => ?_
    refine wo_formN 3 rfl fun aq cq hvq hlq hnq => ?_
    subst hvq
    refine wo_build (us := [.pointer (some ⟨t7, 0, none⟩), .slice aq (parseF rt).1.length cq, str pw, .slice none 0 0, .map (some m8)]) rfl rfl (by kernel_rfl) ?_
    refine wo_box rfl rfl rfl fun b9 => ?_
    refine wo_pures 1 rfl ?_
    refine wo_nil ?_
    refine ws_seq ?_
    refine ws_seq ?_
    refine ws_region ?_
    refine wo_field rfl Tryz.underlying35 rfl Tryz.sizeOf33 rfl rfl ?_
    refine wo_load 5 rfl Tryz.isAgg33 rfl rfl rfl ?_
    refine wo_len_slice rfl Tryz.underlying33 rfl ?_
    refine wo_pures 1 rfl ?_
    refine wo_nil ?_
    refine ws_block ?_
    refine ws_once ?_
    refine ws_seq ?_
    refine ws_region ?_
    refine wo_pures 1 rfl ?_
    refine wo_nil ?_
    refine ws_seq ?_
    refine ws_cond0 rfl ?_
    refine ws_exit ?_
    refine ws_seq ?_
    refine ws_region ?_
    refine wo_pures 3 rfl ?_
    refine wo_nil ?_
    refine ws_ret ?_
    exact ⟨_, [_, _, _, _], ret2 rfl rfl rfl, ⟨⟨b9, m8, t7, _⟩, rfl, rfl⟩, (.cons 0 rfl (.cons 0 rfl (.cons 0 rfl (.cons 0 rfl (Ent.dropN 2 rfl)))))⟩
theorem sessNew_con : ConX Tryz.prog 29 [] [] (fun b : Nat => .pointer (some ⟨b, 0, none⟩)) (fun _ => []) := by
  refine con_body Tryz.func29 rfl Tryz.ntmps29 rfl fun E fr => ?_
  refine ws_seq ?_
  refine ws_region ?_
  refine wo_pures 1 rfl ?_
  refine wo_nil ?_
  refine ws_seq ?_
  refine ws_region ?_
  refine wo_build (us := [.bool true, .slice none 0 0, .slice none 0 0]) rfl rfl (by kernel_rfl) ?_
  refine wo_box rfl rfl rfl fun b1 => ?_
  refine wo_pures 1 rfl ?_
  refine wo_nil ?_
  refine ws_ret ?_
  exact ⟨_, [], ret1 rfl rfl, ⟨_, rfl, rfl⟩, Ent.dropN 1 rfl⟩
theorem sessOpenNil_con : ConV Tryz.prog 28 [.pointer none] [] (.bool false) := by
  refine con_body Tryz.func28 rfl Tryz.ntmps28 rfl fun E fr => ?_
  refine ws_seq ?_
  refine ws_region ?_
  refine wo_pures 1 rfl ?_
  refine wo_nil ?_
  refine ws_seq ?_
  refine ws_region ?_
  refine wo_pures 1 rfl ?_
  refine wo_ptr_nil rfl Tryz.underlying54 rfl rfl rfl ?_
  refine wo_pures 1 rfl ?_
  refine wo_and (qv := false) 4 2 rfl rfl rfl rfl rfl rfl rfl (fun hp => absurd hp (by decide)) ?_
  refine wo_pures 1 rfl ?_
  refine wo_nil ?_
  refine ws_ret ?_
  exact ⟨_, _, ret1 rfl rfl, ⟨rfl, rfl⟩, Ent.dropN 0 rfl⟩
theorem connect0_con (s k : Nat) (a b c r : Value) : ConX Tryz.prog 17 [.pointer (some ⟨s, 0, none⟩)] [cel s 82 [a, b, c, r, .map (some k)], mp k ([] : List (Int × Value))] (fun _ : Nat => int 1) (fun x => [cel s 82 [a, b, c, r, .map (some k)], mp k [((1 : Int), .pointer (some ⟨x, 0, none⟩))]]) := by
  refine con_body Tryz.func17 rfl Tryz.ntmps17 rfl fun E fr => ?_
  refine ws_seq ?_
  refine ws_region ?_
  refine wo_pures 1 rfl ?_
  refine wo_nil ?_
  refine ws_seq ?_
  refine ws_seq ?_
  refine ws_region ?_
  refine wo_pures 1 rfl ?_
  refine wo_ptr_nil rfl Tryz.underlying40 rfl rfl rfl ?_
  refine wo_nil ?_
  refine ws_cond0 rfl ?_
  refine ws_skip ?_
  refine ws_seq ?_
  refine ws_seq ?_
  refine ws_region ?_
  refine wo_pures 1 rfl ?_
  refine wo_nil ?_
  refine ws_block ?_
  refine ws_once ?_
  refine ws_seq ?_
  refine ws_seq ?_
  refine ws_region ?_
  refine wo_pures 2 rfl ?_
  refine wo_nil ?_
  refine ws_cond1 rfl ?_
  refine ws_skip ?_
  refine ws_seq ?_
  refine ws_block ?_
  refine ws_seq ?_
  refine ws_region ?_
  refine wo_pures 2 rfl ?_
  refine wo_field rfl Tryz.underlying82 rfl Tryz.sizeOf80 rfl rfl ?_
  refine wo_load 0 rfl Tryz.isAgg80 rfl rfl rfl ?_
  refine wo_pures 1 rfl ?_
  refine wo_lookup 1 rfl Tryz.underlying80 Tryz.underlying3 Tryz.zeroValue54 rfl rfl rfl ?_
  refine wo_callp sessOpenNil_con rfl Tryz.call28 rfl ?_
  refine wo_pures 1 rfl ?_
  refine wo_nil ?_
  refine ws_cond1 rfl ?_
  refine ws_seq ?_
  refine ws_draw mixed (by kernel_rfl) (by first | rfl | kernel_rfl) ?_
  refine wd_pures [0, 1, 4] (by kernel_rfl) rfl ?_
  refine .quiet 2 rfl rfl rfl (by kernel_rfl) (by
    refine wo_field rfl Tryz.underlying82 rfl Tryz.sizeOf80 rfl rfl ?_
    exact wo_nil ⟨rfl, Ent.refl _⟩) ?_
  refine .quiet 3 rfl rfl rfl (by kernel_rfl) (by
    refine wo_load 0 rfl Tryz.isAgg80 rfl rfl rfl ?_
    exact wo_nil ⟨rfl, Ent.refl _⟩) ?_
  refine wd_main 5 [3, 2] rfl (by kernel_rfl) (by kernel_rfl) ?_
  refine wo_callx sessNew_con rfl Tryz.call29 rfl (.refl _) fun b1 => ?_
  refine wo_nil ⟨_, rfl, ?_, ?_⟩
  · refine ⟨⟨_, _, _, rfl, rfl, rfl, ?_⟩, ⟨_, _, _, rfl, rfl, rfl, ?_⟩, trivial⟩
    · skip
      refine wo_load 0 rfl Tryz.isAgg80 rfl rfl rfl ?_
      exact wo_nil ⟨rfl, Ent.refl _⟩
    · skip
      refine wo_field rfl Tryz.underlying82 rfl Tryz.sizeOf80 rfl rfl ?_
      exact wo_nil ⟨rfl, Ent.refl _⟩
  refine wd_main 6 [] rfl (by kernel_rfl) (by kernel_rfl) ?_
  refine wo_update 1 rfl Tryz.underlying80 Tryz.underlying3 rfl rfl rfl rfl ?_
  refine wo_nil ⟨undef, rfl, ?_, ?_⟩
  · trivial
  refine .done (by kernel_rfl) ?_
  refine ws_seq ?_
  refine ws_region ?_
  refine wo_pures 2 rfl ?_
  refine wo_nil ?_
  refine ws_ret ?_
  exact ⟨_, [_, _], ret1 rfl rfl, ⟨_, rfl, rfl⟩, (.cons 0 rfl (.cons 0 rfl (.refl _)))⟩
end Go.Proofs
