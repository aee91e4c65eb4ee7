/- A part of the proof: the walk of some functions. -/
import Derived.Test.YtklelmfgdgndaaaGreatDoorDkD
import Derived.Test.YtklelmfgdgndaaaGreatDoorWdSpec
open Go Go.Sep Burg
namespace Go.Proofs
theorem elt_37 : ElT Tryz.prog Byt 37 22 := .of Tryz.underlying37 (by kernel_rfl)
theorem elt_26 : ElT Tryz.prog StepD 26 24 := .of Tryz.underlying26 (by kernel_rfl)

theorem config_con : ConV Tryz.prog 7 [.slice none 0 0] [] (.agg #[str [111, 61, 120], str [99, 110, 61, 114, 111, 111, 116, 44, 111, 61, 120], str [115, 101, 99, 114, 101, 116], .slice none 0 0]) := by
  refine con_body Tryz.func7 rfl Tryz.ntmps7 rfl fun E fr => ?_
  refine ws_seq ?_
  refine ws_region ?_
  refine wo_alloc rfl Tryz.zeroValue35 rfl fun b1 => ?_
  refine wo_nil ?_
  refine ws_seq ?_
  refine ws_region ?_
  refine wo_pures 1 rfl ?_
  refine wo_build (us := [str [111, 61, 120], str [99, 110, 61, 114, 111, 111, 116, 44, 111, 61, 120], str [115, 101, 99, 114, 101, 116], .slice none 0 0]) rfl rfl (by kernel_rfl) ?_
  refine wo_store 0 rfl rfl rfl rfl Tryz.sizeOf35 rfl rfl rfl rfl ?_
  refine wo_nil ?_
  refine ws_ret ?_
  exact ⟨_, _, retE1 rfl (.row 0 rfl Tryz.isAgg35 Tryz.sizeOf35 rfl rfl rfl), ⟨rfl, rfl⟩, Ent.dropN 1 rfl⟩
theorem long_con (v : Value) (xs : List StepD) (hx : ∀ z ∈ xs, z.data.length ≤ 140737488355328) : ConV Tryz.prog 4 [v] [dat v xs] (.bool (longB xs)) := by
  refine con_body Tryz.func4 rfl Tryz.ntmps4 rfl fun E fr => ?_
  refine ws_seq ?_
  refine ws_region ?_
  refine wo_pures 1 rfl ?_
  refine wo_nil ?_
  refine ws_seq ?_
  refine ws_region ?_
  refine wo_pures 1 rfl ?_
  refine wo_nil ?_
  refine ws_seq ?_
  refine ws_seq ?_
  refine ws_region ?_
  refine wo_pures 1 rfl ?_
  refine wo_nil ?_
  refine ws_block ?_
  refine ws_loopk (X := LSt) (fun x => [(3, int x.n), (4, int x.k)]) (fun x => [dat v xs]) (fun x => longG (xs.drop x.k) x.k x.n = longB xs ∧ x.k ≤ xs.length ∧ 0 ≤ x.n ∧ x.n ≤ 6000) (fun x => xs.length - x.k) ⟨0, 0⟩ [0] rfl fr ⟨rfl, Nat.zero_le _, by decide, by decide⟩ (by repeat (first | exact .nil | refine .cons rfl ?_)) (Ent.refl _) fun x hok => ?_
  obtain ⟨o1, o2, o3, o4⟩ := hok
  refine ws_seq ?_
  refine ws_seq ?_
  refine ws_region ?_
  refine wo_pures 2 rfl ?_
  refine wo_len_dat 0 rfl Tryz.underlying26 rfl rfl fun hl1 => ?_
  refine wo_pures 2 rfl ?_
  refine wo_and 2 4 rfl rfl rfl rfl rfl rfl rfl (fun hp12 => by
    refine wo_pures 2 rfl ?_
    exact wo_nil ⟨rfl, Env.Sub.news 2 rfl rfl, Ent.refl _⟩) ?_
  refine wo_nil ?_
  refine ws_cond rfl (fun h12 => ?_) (fun h12 => ?_)
  · skip
    have hk : x.k < xs.length := by simp only [Bool.and_eq_true] at h12; exact lt_of_dec h12.1
    have h40 : decide ((x.k : Int) < 40) = true := by simp only [Bool.and_eq_true] at h12; exact h12.2
    obtain ⟨z, hz⟩ : ∃ z, xs[x.k]? = some z := ⟨_, List.getElem?_eq_getElem hk⟩
    rw [longG_at hz, h40, cond_true] at o1
    refine ws_skip ?_
    refine ws_seq ?_
    refine ws_block ?_
    refine ws_seq ?_
    refine ws_region ?_
    refine wo_pures 1 rfl ?_
    refine wo_add rfl rfl rfl rfl (by omega) ?_
    refine wo_pures 2 rfl ?_
    refine wo_indexAddr 0 rfl Tryz.underlying26 Tryz.sizeOf24 rfl rfl rfl hz fun b2 o3 us4 => ?_
    refine wo_open_step 1 rfl fun u hu => ?_
    subst hu
    refine wo_field rfl Tryz.underlying24 rfl Tryz.sizeOf22 rfl rfl ?_
    refine wo_iload (j := 3) 1 rfl Tryz.isAgg22 rfl rfl rfl rfl ?_
    have hzl := hx z (List.mem_of_getElem? hz)
    refine wo_len_dat 0 rfl Tryz.underlying22 rfl rfl fun hl5 => ?_
    refine wo_add rfl rfl rfl rfl (by omega) ?_
    refine wo_pures 1 rfl ?_
    refine wo_nil ?_
    refine ws_seq ?_
    refine ws_region ?_
    refine wo_pures 2 rfl ?_
    refine wo_nil ?_
    refine ws_cond rfl (fun h25 => ?_) (fun h25 => ?_)
    · skip
      rw [h25, cond_true] at o1
      refine ws_seq ?_
      refine ws_region ?_
      refine wo_pures 1 rfl ?_
      refine wo_nil ?_
      refine ws_ret ?_
      exact ⟨_, _, ret1 rfl rfl, ⟨by rw [← o1], rfl⟩, Ent.dropN 4 rfl⟩
    · skip
      rw [h25, cond_false] at o1
      have h25 := of_decide_eq_false h25
      refine ws_skip ?_
      refine ws_region ?_
      refine wo_pures 1 rfl ?_
      refine wo_add rfl rfl rfl rfl (by omega) ?_
      refine wo_pures 1 rfl ?_
      refine wo_nil ?_
      exact ⟨⟨x.k + 1, x.n + 1 + z.data.length⟩, ⟨o1, by dsimp only; omega, by dsimp only; omega, by dsimp only; omega⟩, (by first | omega | (dsimp only; omega)), (by repeat (first | exact .nil | refine .cons rfl ?_)), (by repeat (first | exact .nil | refine .cons rfl ?_)), Ent.dropN 3 rfl⟩
  · skip
    have hv : longB xs = false := by
        rw [← o1]
        by_cases hk : x.k < xs.length
        · have h1 : decide ((x.k : Int) < (xs.length : Int)) = true := by simpa using hk
          rw [h1, Bool.true_and] at h12
          rw [longG_at (List.getElem?_eq_getElem hk), h12]; rfl
        · exact longG_end (by omega)
    refine ws_exit ?_
    refine ws_seq ?_
    refine ws_region ?_
    refine wo_pures 1 rfl ?_
    refine wo_nil ?_
    refine ws_ret ?_
    exact ⟨_, _, ret1 rfl rfl, ⟨by rw [hv], rfl⟩, Ent.dropN 1 rfl⟩
theorem known_con : ConV Tryz.prog 13 [] [] (.bool true) := by
  refine con_body Tryz.func13 rfl Tryz.ntmps13 rfl fun E fr => ?_
  refine ws_seq ?_
  refine ws_region ?_
  refine wo_pures 1 rfl ?_
  refine wo_nil ?_
  refine ws_seq ?_
  refine ws_region ?_
  refine wo_callp config_con rfl Tryz.call7 rfl ?_
  refine wo_callx (worldNew0_con 65536 (by decide) (by decide) [111, 61, 120] [99, 110, 61, 114, 111, 111, 116, 44, 111, 61, 120] [115, 101, 99, 114, 101, 116] (by decide) (by decide) cfg1 cfg2 cfg3 (by rw [cfg4]; decide) (by decide)) rfl Tryz.call6 rfl (.refl _) fun x1 => ?_
  refine wo_pures 5 rfl ?_
  refine wo_nil ?_
  refine ws_seq ?_
  refine ws_seq ?_
  refine ws_region ?_
  refine wo_pures 3 rfl ?_
  refine wo_pures 1 rfl ?_
  refine wo_ptr_nil rfl Tryz.underlying27 rfl rfl rfl ?_
  refine wo_pures 1 rfl ?_
  refine wo_nil ?_
  refine ws_cond0 rfl ?_
  refine ws_skip ?_
  refine ws_seq ?_
  refine ws_region ?_
  refine wo_pures 1 rfl ?_
  refine wo_build (us := [int 1, int 0, int 0, .slice none 0 0]) rfl rfl (by kernel_rfl) ?_
  refine wo_callx (doConnect0_con _ _ _ _ _ _ _ _ _ _ _ _ _ _ _ _) rfl Tryz.call5 rfl (.cons 0 rfl (.cons 0 rfl (.cons 0 rfl (.cons 0 rfl (.cons 0 rfl (.refl _)))))) fun v2 => ?_
  refine wo_pures 5 rfl ?_
  refine wo_nil ?_
  refine ws_seq ?_
  refine ws_region ?_
  refine wo_pures 3 rfl ?_
  refine wo_pures 1 rfl ?_
  refine WO.ent (Ent.rowDatI 0 rfl) ?_
  refine wo_bytes_str 0 rfl Tryz.underlying22 Tryz.underlying5 Tryz.underlying9 rfl rfl ?_
  refine wo_pures 3 rfl ?_
  refine wo_and 2 7 rfl rfl rfl rfl rfl rfl rfl (fun hp32 => by
    refine wo_pures 1 rfl ?_
    refine wo_callk (up1_con _ _ _ _ _ _ _ _) rfl Tryz.call9 rfl (.cons 1 rfl (.cons 1 rfl (.cons 1 rfl (.refl _)))) (.cons 3 rfl (.cons 0 rfl (.cons 0 rfl (.cons 0 rfl (.refl _))))) ?_
    exact wo_nil ⟨rfl, Env.Sub.news 2 rfl rfl, Ent.refl _⟩) ?_
  refine wo_pures 1 rfl ?_
  refine wo_nil ?_
  refine ws_ret ?_
  exact ⟨_, _, ret1 rfl rfl, ⟨congrArg Value.bool (by decide), rfl⟩, Ent.dropN 4 rfl⟩
theorem runNil_con (v : Value) (xs : List StepD) (hxs : xs.length ≤ 1048576) : ConX Tryz.prog 8 [.pointer none, v] [dat v xs] (fun u : Value => u) (fun u => [row 22 u (List.replicate xs.length (Byt.mk [])), dat v xs]) := by
  refine con_body Tryz.func8 rfl Tryz.ntmps8 rfl fun E fr => ?_
  refine ws_seq ?_
  refine ws_region ?_
  refine wo_pures 1 rfl ?_
  refine wo_nil ?_
  refine ws_seq ?_
  refine ws_region ?_
  refine wo_pures 1 rfl ?_
  refine wo_nil ?_
  refine ws_seq ?_
  refine ws_seq ?_
  refine ws_region ?_
  refine wo_pures 1 rfl ?_
  refine wo_len_dat 0 rfl Tryz.underlying26 rfl rfl fun hl1 => ?_
  refine wo_pures 1 rfl ?_
  refine wo_nil ?_
  refine ws_block ?_
  refine ws_loopk (X := (Nat × Value)) (fun x => [(12, int x.1), (5, x.2)]) (fun x => [dat v xs, row 22 x.2 (List.replicate x.1 (Byt.mk []))]) (fun x => x.1 ≤ xs.length) (fun x => xs.length - x.1) (0, .slice none 0 0) [0, 1, 10, 11] rfl fr (Nat.zero_le _) (by repeat (first | exact .nil | refine .cons rfl ?_)) ((Ent.rowNil 22 _).trans (Ent.swap _ _ _)) fun x hok => ?_
  refine ws_seq ?_
  refine ws_region ?_
  refine wo_pures 1 rfl ?_
  refine wo_nil ?_
  refine ws_seq ?_
  refine ws_cond rfl (fun h13 => ?_) (fun h13 => ?_)
  · skip
    have hk : x.1 < xs.length := lt_of_dec h13
    obtain ⟨z, hz⟩ : ∃ z, xs[x.1]? = some z := ⟨_, List.getElem?_eq_getElem hk⟩
    refine ws_skip ?_
    refine ws_seq ?_
    refine ws_block ?_
    refine ws_seq ?_
    refine ws_region ?_
    refine wo_indexAddr 0 rfl Tryz.underlying26 Tryz.sizeOf24 rfl rfl rfl hz fun b2 o3 us4 => ?_
    refine wo_open_step 1 rfl fun u hu => ?_
    subst hu
    refine wo_formN 0 rfl fun au cu hvu hlu hnu => ?_
    subst hvu
    refine wo_iloadS (j := 0) 1 rfl Tryz.isAgg24 Tryz.sizeOf24 rfl rfl rfl rfl rfl ?_
    refine wo_alloc rfl Tryz.zeroValue24 rfl fun b5 => ?_
    refine wo_store 0 rfl rfl rfl rfl Tryz.sizeOf24 rfl rfl rfl rfl ?_
    refine wo_nil ?_
    refine ws_seq ?_
    refine ws_region ?_
    refine wo_pures 1 rfl ?_
    refine wo_loadS 0 rfl Tryz.isAgg24 Tryz.sizeOf24 rfl rfl rfl rfl ?_
    refine wo_callp (doNil_con _ _ _ _) rfl Tryz.call5 rfl ?_
    refine wo_pures 5 rfl ?_
    refine wo_nil ?_
    refine ws_region ?_
    refine wo_pures 2 rfl ?_
    refine wo_buildSlice [Byt.mk []] elt_37 rfl rfl rfl rfl rfl rfl rfl (fun _ _ _ => .cons ⟨_, rfl, repNil⟩ .nil) fun v6 => ?_
    refine wo_append_row elt_37 rfl rfl rfl (room_of (k := 24) rfl (by simp only [List.length_replicate, List.length_cons, List.length_nil]; omega)) (.cons 6 rfl (.cons 0 rfl (.refl _))) fun v7 => ?_
    refine wo_pures 1 rfl ?_
    refine wo_nil ?_
    refine ws_region ?_
    refine wo_add rfl rfl rfl rfl (by omega) ?_
    refine wo_pures 1 rfl ?_
    refine wo_nil ?_
    rw [repl_succ]
    exact ⟨(x.1 + 1, v7), (show x.1 + 1 ≤ xs.length by omega), (by first | omega | (dsimp only; omega)), (by repeat (first | exact .nil | refine .cons rfl ?_)), (by repeat (first | exact .nil | refine .cons rfl ?_)), (.cons 5 rfl (.cons 0 rfl (Ent.dropN 4 rfl)))⟩
  · skip
    have hk : x.1 = xs.length := by have h2 := of_decide_eq_false h13; omega
    refine ws_exit ?_
    refine ws_seq ?_
    refine ws_region ?_
    refine wo_pures 2 rfl ?_
    refine wo_nil ?_
    refine ws_ret ?_
    exact ⟨_, [_, _], ret1 rfl rfl, ⟨_, rfl, rfl⟩, (by rw [← hk]; exact (.cons 1 rfl (.cons 0 rfl (.refl _))))⟩
theorem worldOfNothing_con (k c n : Int) (dta : Value) (bs : Str) (hbs : bs.length ≤ 140737488355328) : ConV Tryz.prog 3 [.agg #[int k, int c, int n, dta]] [dat dta bs] (.bool true) := by
  refine con_body Tryz.func3 rfl Tryz.ntmps3 rfl fun E fr => ?_
  refine ws_seq ?_
  refine ws_region ?_
  refine wo_box rfl rfl rfl fun b1 => ?_
  refine wo_pures 1 rfl ?_
  refine wo_nil ?_
  refine ws_seq ?_
  refine ws_seq ?_
  refine ws_region ?_
  refine wo_loadS 0 rfl Tryz.isAgg24 Tryz.sizeOf24 rfl rfl rfl rfl ?_
  refine wo_buildSlice [StepD.mk k c n bs] elt_26 rfl rfl rfl rfl rfl rfl rfl (fun _ _ x => .cons ⟨_, rfl, satDat 1 rfl x⟩ .nil) fun v2 => ?_
  refine WO.ent (Ent.rowDatI 0 rfl) ?_
  refine wo_callr (long_con _ _ (fun z hz => by rw [List.mem_singleton.1 hz]; exact hbs)) rfl Tryz.call4 rfl (.dup 0 rfl (.refl _)) ?_
  refine wo_nil ?_
  refine ws_cond rfl (fun h14 => ?_) (fun h14 => ?_)
  · skip
    refine ws_seq ?_
    refine ws_region ?_
    refine wo_pures 1 rfl ?_
    refine wo_nil ?_
    refine ws_ret ?_
    exact ⟨_, _, ret1 rfl rfl, ⟨rfl, rfl⟩, Ent.dropN 3 rfl⟩
  · skip
    refine ws_skip ?_
    refine ws_seq ?_
    refine ws_region ?_
    refine wo_pures 1 rfl ?_
    refine wo_nil ?_
    refine ws_seq ?_
    refine ws_region ?_
    refine wo_pures 1 rfl ?_
    refine wo_loadS 1 rfl Tryz.isAgg24 Tryz.sizeOf24 rfl rfl rfl rfl ?_
    refine wo_callp (doNil_con _ _ _ _) rfl Tryz.call5 rfl ?_
    refine wo_pures 5 rfl ?_
    refine wo_nil ?_
    refine ws_seq ?_
    refine ws_region ?_
    refine wo_callp config_con rfl Tryz.call7 rfl ?_
    refine wo_callx (worldNew0_con 262144 (by decide) (by decide) [111, 61, 120] [99, 110, 61, 114, 111, 111, 116, 44, 111, 61, 120] [115, 101, 99, 114, 101, 116] (by decide) (by decide) cfg1 cfg2 cfg3 (by rw [cfg4]; decide) (by decide)) rfl Tryz.call6 rfl (.refl _) fun x3 => ?_
    refine wo_pures 5 rfl ?_
    refine wo_nil ?_
    refine ws_seq ?_
    refine ws_seq ?_
    refine ws_region ?_
    refine wo_pures 3 rfl ?_
    refine wo_pures 1 rfl ?_
    refine wo_ptr_nil rfl Tryz.underlying27 rfl rfl rfl ?_
    refine wo_pures 1 rfl ?_
    refine wo_nil ?_
    refine ws_cond0 rfl ?_
    refine ws_skip ?_
    refine ws_seq ?_
    refine ws_region ?_
    refine wo_pures 1 rfl ?_
    refine wo_build (us := [int 5, int 0, int 0, .slice none 0 0]) rfl rfl (by kernel_rfl) ?_
    refine wo_callx (doCrash_con _ _ _ _ _ _ _ _ _ _ _) rfl Tryz.call5 rfl (.cons 0 rfl (.cons 0 rfl (.cons 0 rfl (.refl _)))) fun _ => ?_
    refine wo_nil ?_
    refine ws_seq ?_
    refine ws_region ?_
    refine wo_pures 1 rfl ?_
    refine wo_field rfl Tryz.underlying24 rfl Tryz.sizeOf22 rfl rfl ?_
    refine wo_load 6 rfl Tryz.isAgg22 rfl rfl rfl ?_
    refine wo_formN 7 rfl fun aq cq hvq hlq hnq => ?_
    subst hvq
    refine wo_build (us := [int 2, int 1, int 0, .slice aq bs.length cq]) rfl rfl (by kernel_rfl) ?_
    refine wo_callk (doSend0_con _ _ _ _ _ _ _ _ _ _) rfl Tryz.call5 rfl (.cons 0 rfl (.cons 0 rfl (.cons 0 rfl (.cons 4 rfl (.refl _))))) (.cons 0 rfl (.cons 0 rfl (.cons 0 rfl (.cons 1 rfl (.cons 1 rfl (.cons 1 rfl (.cons 1 rfl (.cons 0 rfl (.refl _))))))))) ?_
    refine wo_pures 5 rfl ?_
    refine wo_nil ?_
    refine ws_seq ?_
    refine ws_region ?_
    refine wo_pures 1 rfl ?_
    refine wo_build (us := [int 6, int 0, int 0, .slice none 0 0]) rfl rfl (by kernel_rfl) ?_
    refine wo_callx (doOpen0_con _ _ _ _ [111, 61, 120] [99, 110, 61, 114, 111, 111, 116, 44, 111, 61, 120] [115, 101, 99, 114, 101, 116] (by decide) (by decide) cfg1 cfg2 cfg3 (by rw [cfg4]; decide) (by decide) _ _ _) rfl Tryz.call5 rfl (.cons 0 rfl (.cons 0 rfl (.cons 0 rfl (.refl _)))) fun x4 => ?_
    refine wo_pures 5 rfl ?_
    refine wo_nil ?_
    refine ws_seq ?_
    refine ws_region ?_
    refine wo_pures 1 rfl ?_
    refine wo_len_slice rfl Tryz.underlying22 rfl ?_
    refine wo_pures 2 rfl ?_
    refine wo_pures 4 rfl ?_
    refine wo_pures 1 rfl ?_
    refine wo_loadS 8 rfl Tryz.isAgg24 Tryz.sizeOf24 rfl rfl rfl rfl ?_
    refine wo_buildSlice [StepD.mk k c n bs] elt_26 rfl rfl rfl rfl rfl rfl rfl (fun _ _ x => .cons ⟨_, rfl, satDat 9 rfl x⟩ .nil) fun v5 => ?_
    refine WO.ent (Ent.rowDatI 0 rfl) ?_
    refine wo_callx (runNil_con _ _ (by simp)) rfl Tryz.call8 rfl (.cons 0 rfl (.refl _)) fun v6 => ?_
    refine wo_len_row 0 rfl Tryz.underlying37 rfl rfl fun hl7 => ?_
    refine wo_pures 3 rfl ?_
    refine wo_and 3 15 rfl rfl rfl rfl rfl rfl rfl (fun hp68 => by
      refine wo_pures 1 rfl ?_
      refine wo_callp upNil_con rfl Tryz.call9 rfl ?_
      refine wo_pures 1 rfl ?_
      exact wo_nil ⟨rfl, Env.Sub.news 3 rfl rfl, Ent.refl _⟩) ?_
    refine wo_pures 1 rfl ?_
    refine wo_and 3 20 rfl rfl rfl rfl rfl rfl rfl (fun hp73 => by
      refine wo_pures 1 rfl ?_
      refine wo_callp serverNil_con rfl Tryz.call10 rfl ?_
      refine wo_ptr_nil rfl Tryz.underlying40 rfl rfl rfl ?_
      exact wo_nil ⟨rfl, Env.Sub.news 3 rfl rfl, Ent.refl _⟩) ?_
    refine wo_pures 1 rfl ?_
    refine wo_and 3 25 rfl rfl rfl rfl rfl rfl rfl (fun hp78 => by
      refine wo_pures 1 rfl ?_
      refine wo_callp diskNil_con rfl Tryz.call11 rfl ?_
      refine wo_ptr_nil rfl Tryz.underlying42 rfl rfl rfl ?_
      exact wo_nil ⟨rfl, Env.Sub.news 3 rfl rfl, Ent.refl _⟩) ?_
    refine wo_pures 1 rfl ?_
    refine wo_and 4 30 rfl rfl rfl rfl rfl rfl rfl (fun hp84 => by
      refine wo_pures 1 rfl ?_
      refine wo_callp entriesNil_con rfl Tryz.call12 rfl ?_
      refine wo_len_slice rfl Tryz.underlying44 rfl ?_
      refine wo_pures 1 rfl ?_
      exact wo_nil ⟨rfl, Env.Sub.news 4 rfl rfl, Ent.refl _⟩) ?_
    refine wo_pures 1 rfl ?_
    refine wo_and 3 36 rfl rfl rfl rfl rfl rfl rfl (fun hp89 => by
      refine wo_pures 1 rfl ?_
      refine wo_len_slice rfl Tryz.underlying22 rfl ?_
      refine wo_pures 1 rfl ?_
      exact wo_nil ⟨rfl, Env.Sub.news 3 rfl rfl, Ent.refl _⟩) ?_
    refine wo_pures 1 rfl ?_
    refine wo_and 2 41 rfl rfl rfl rfl rfl rfl rfl (fun hp93 => by
      refine wo_pures 2 rfl ?_
      exact wo_nil ⟨rfl, Env.Sub.news 2 rfl rfl, Ent.refl _⟩) ?_
    refine wo_pures 1 rfl ?_
    refine wo_and 2 45 rfl rfl rfl rfl rfl rfl rfl (fun hp97 => by
      refine wo_pures 2 rfl ?_
      exact wo_nil ⟨rfl, Env.Sub.news 2 rfl rfl, Ent.refl _⟩) ?_
    refine wo_pures 1 rfl ?_
    refine wo_and 2 49 rfl rfl rfl rfl rfl rfl rfl (fun hp101 => by
      refine wo_pures 1 rfl ?_
      refine wo_callk (up1_con _ _ _ _ _ _ _ _) rfl Tryz.call9 rfl (.cons 2 rfl (.cons 2 rfl (.cons 2 rfl (.cons 2 rfl (.cons 2 rfl (.refl _)))))) (.cons 5 rfl (.cons 5 rfl (.cons 0 rfl (.cons 0 rfl (.cons 0 rfl (.cons 0 rfl (.cons 0 rfl (.cons 0 rfl (.cons 0 rfl (.cons 0 rfl (.cons 0 rfl (.cons 0 rfl (.refl _))))))))))))) ?_
      exact wo_nil ⟨rfl, Env.Sub.news 2 rfl rfl, Ent.refl _⟩) ?_
    refine wo_pures 1 rfl ?_
    refine wo_and 1 53 rfl rfl rfl rfl rfl rfl rfl (fun hp104 => by
      refine wo_callp known_con rfl Tryz.call13 rfl ?_
      exact wo_nil ⟨rfl, Env.Sub.news 1 rfl rfl, Ent.refl _⟩) ?_
    refine wo_pures 1 rfl ?_
    refine wo_nil ?_
    refine ws_ret ?_
    exact ⟨_, [], ret1 rfl rfl, ⟨by simp, rfl⟩, (Ent.dropN 12 rfl)⟩
end Go.Proofs
