/- A part of the proof: the walk of some functions. -/
import Derived.Test.YtklelmfgdgndaaaGreatDoorDnSpec
import Derived.Test.YtklelmfgdgndaaaGreatDoorProg
open Go Go.Sep Burg
namespace Go.Proofs
theorem elt_22 : ElT Tryz.prog UInt8 22 5 := .of Tryz.underlying22 (by kernel_rfl)
theorem elt_60 : ElT Tryz.prog Ava 60 93 := .of Tryz.underlying60 (by kernel_rfl)
theorem mixed : Tryz.prog.follows .mixedOrders = true := by kernel_rfl

theorem isDigit_con (c : UInt8) : ConV Tryz.prog 161 [.int .u8 (c.toNat : Int)] [] (.bool (digitB c)) := by
  refine con_body Tryz.func161 rfl Tryz.ntmps161 rfl fun E fr => ?_
  refine ws_seq ?_
  refine ws_region ?_
  refine wo_pures 1 rfl ?_
  refine wo_nil ?_
  refine ws_seq ?_
  refine ws_region ?_
  refine wo_pures 3 rfl ?_
  refine wo_and 2 2 rfl rfl rfl rfl rfl rfl rfl (fun hp8 => by
    refine wo_pures 2 rfl ?_
    exact wo_nil ⟨rfl, Env.Sub.news 2 rfl rfl, Ent.refl _⟩) ?_
  refine wo_pures 1 rfl ?_
  refine wo_nil ?_
  refine ws_ret ?_
  exact ⟨_, _, ret1 rfl rfl, ⟨rfl, rfl⟩, Ent.dropN 0 rfl⟩
theorem isLetter_con (c : UInt8) : ConV Tryz.prog 160 [.int .u8 (c.toNat : Int)] [] (.bool (letterB c)) := by
  refine con_body Tryz.func160 rfl Tryz.ntmps160 rfl fun E fr => ?_
  refine ws_seq ?_
  refine ws_region ?_
  refine wo_pures 1 rfl ?_
  refine wo_nil ?_
  refine ws_seq ?_
  refine ws_region ?_
  refine wo_pures 3 rfl ?_
  refine wo_and 2 2 rfl rfl rfl rfl rfl rfl rfl (fun hp8 => by
    refine wo_pures 2 rfl ?_
    exact wo_nil ⟨rfl, Env.Sub.news 2 rfl rfl, Ent.refl _⟩) ?_
  refine wo_pures 1 rfl ?_
  refine wo_or 6 6 rfl rfl rfl rfl rfl rfl rfl (fun hp16 => by
    refine wo_pures 3 rfl ?_
    refine wo_and 2 9 rfl rfl rfl rfl rfl rfl rfl (fun hp15 => by
      refine wo_pures 2 rfl ?_
      exact wo_nil ⟨rfl, Env.Sub.news 2 rfl rfl, Ent.refl _⟩) ?_
    exact wo_nil ⟨rfl, Env.Sub.news 4 rfl rfl, Ent.refl _⟩) ?_
  refine wo_pures 1 rfl ?_
  refine wo_nil ?_
  refine ws_ret ?_
  exact ⟨_, _, ret1 rfl rfl, ⟨rfl, rfl⟩, Ent.dropN 0 rfl⟩
theorem dnType_con (s : Str) (hs : s.length ≤ 1048576) : ConV Tryz.prog 84 [str s] [] (.bool (typeB s)) := by
  refine con_body Tryz.func84 rfl Tryz.ntmps84 rfl fun E fr => ?_
  refine ws_seq ?_
  refine ws_region ?_
  refine wo_pures 1 rfl ?_
  refine wo_nil ?_
  refine ws_seq ?_
  refine ws_seq ?_
  refine ws_region ?_
  refine wo_pures 3 rfl ?_
  refine wo_or 3 2 rfl rfl rfl rfl rfl rfl rfl (fun hp11 => by
    refine wo_pures 1 rfl ?_
    refine wo_len_str rfl Tryz.underlying9 rfl ?_
    refine wo_pures 1 rfl ?_
    exact wo_nil ⟨rfl, Env.Sub.news 3 rfl rfl, Ent.refl _⟩) ?_
  refine wo_pures 1 rfl ?_
  refine wo_or 4 7 rfl rfl rfl rfl rfl rfl rfl (fun hp17 => by
    refine wo_pures 1 rfl ?_
    refine wo_index_str (n := 0) rfl Tryz.underlying9 rfl rfl (head_get (by simp at hp17; exact hp17.1)) ?_
    refine wo_callp (isLetter_con _) rfl Tryz.call160 rfl ?_
    refine wo_pures 1 rfl ?_
    exact wo_nil ⟨rfl, Env.Sub.news 4 rfl rfl, Ent.refl _⟩) ?_
  refine wo_nil ?_
  refine ws_cond rfl (fun h17 => ?_) (fun h17 => ?_)
  · skip
    refine ws_seq ?_
    refine ws_region ?_
    refine wo_pures 1 rfl ?_
    refine wo_nil ?_
    refine ws_ret ?_
    exact ⟨_, _, ret1 rfl rfl, ⟨congrArg Value.bool (typeB_no1 h17).symm, rfl⟩, Ent.dropN 0 rfl⟩
  · skip
    refine ws_skip ?_
    refine ws_seq ?_
    refine ws_seq ?_
    refine ws_region ?_
    refine wo_pures 1 rfl ?_
    refine wo_len_str rfl Tryz.underlying9 rfl ?_
    refine wo_pures 1 rfl ?_
    refine wo_nil ?_
    refine ws_block ?_
    refine ws_loopk (X := Nat) (fun k => [(20, int k)]) (fun k => []) (fun k => k ≤ s.length ∧ (s.take k).all tcharB = true) (fun k => s.length - k) 0 [0, 19] rfl _ ⟨by omega, by simp⟩ (by repeat (first | exact .nil | refine .cons rfl ?_)) (Ent.refl _) fun k hok => ?_
    refine ws_seq ?_
    refine ws_region ?_
    refine wo_pures 1 rfl ?_
    refine wo_nil ?_
    refine ws_seq ?_
    refine ws_cond rfl (fun h21 => ?_) (fun h21 => ?_)
    · skip
      have hk : k < s.length := by simpa using h21
      obtain ⟨c, hc⟩ : ∃ c, s[k]? = some c := ⟨_, List.getElem?_eq_getElem hk⟩
      refine ws_skip ?_
      refine ws_seq ?_
      refine ws_block ?_
      refine ws_seq ?_
      refine ws_region ?_
      refine wo_pures 2 rfl ?_
      refine wo_nil ?_
      refine ws_seq ?_
      refine ws_region ?_
      refine wo_pures 2 rfl ?_
      refine wo_index_str rfl Tryz.underlying9 rfl rfl (by assumption) ?_
      refine wo_pures 1 rfl ?_
      refine wo_nil ?_
      refine ws_seq ?_
      refine ws_region ?_
      refine wo_pures 1 rfl ?_
      refine wo_callp (isLetter_con _) rfl Tryz.call160 rfl ?_
      refine wo_pures 2 rfl ?_
      refine wo_and 3 3 rfl rfl rfl rfl rfl rfl rfl (fun hp33 => by
        refine wo_pures 1 rfl ?_
        refine wo_callp (isDigit_con _) rfl Tryz.call161 rfl ?_
        refine wo_pures 1 rfl ?_
        exact wo_nil ⟨rfl, Env.Sub.news 3 rfl rfl, Ent.refl _⟩) ?_
      refine wo_pures 1 rfl ?_
      refine wo_and 2 8 rfl rfl rfl rfl rfl rfl rfl (fun hp37 => by
        refine wo_pures 2 rfl ?_
        exact wo_nil ⟨rfl, Env.Sub.news 2 rfl rfl, Ent.refl _⟩) ?_
      refine wo_nil ?_
      refine ws_cond rfl (fun h37 => ?_) (fun h37 => ?_)
      · skip
        refine ws_seq ?_
        refine ws_region ?_
        refine wo_pures 1 rfl ?_
        refine wo_nil ?_
        refine ws_ret ?_
        exact ⟨_, _, ret1 rfl rfl, ⟨congrArg Value.bool (typeB_no2 hc h37).symm, rfl⟩, Ent.dropN 0 rfl⟩
      · skip
        refine ws_skip ?_
        refine ws_region ?_
        refine wo_add rfl rfl rfl rfl (by omega) ?_
        refine wo_pures 1 rfl ?_
        refine wo_nil ?_
        exact ⟨k + 1, ⟨by omega, all_succ hc hok.2 h37⟩, (by first | omega | (dsimp only; omega)), (by repeat (first | exact .nil | refine .cons rfl ?_)), (by repeat (first | exact .nil | refine .cons rfl ?_)), Ent.refl _⟩
    · skip
      refine ws_exit ?_
      refine ws_seq ?_
      refine ws_region ?_
      refine wo_pures 1 rfl ?_
      refine wo_nil ?_
      refine ws_ret ?_
      have hk : k = s.length := by have h1 := hok.1; have h2 := of_decide_eq_false h21; omega
      have h3 : s.all tcharB = true := by have h4 := hok.2; rw [hk, List.take_length] at h4; exact h4
      exact ⟨_, _, ret1 rfl rfl, ⟨congrArg Value.bool (typeB_yes h17 h3).symm, rfl⟩, Ent.dropN 0 rfl⟩
theorem digit_con (c : UInt8) : ConV Tryz.prog 255 [.int .u8 (c.toNat : Int)] [] (.tuple #[.int .u8 ((digitF c).1.toNat : Int), .bool (digitF c).2]) := by
  refine con_body Tryz.func255 rfl Tryz.ntmps255 rfl fun E fr => ?_
  refine ws_seq ?_
  refine ws_region ?_
  refine wo_pures 2 rfl ?_
  refine wo_nil ?_
  refine ws_seq ?_
  refine ws_block ?_
  refine ws_seq ?_
  refine ws_region ?_
  refine wo_pures 1 rfl ?_
  refine wo_callp (isDigit_con _) rfl Tryz.call161 rfl ?_
  refine wo_pures 1 rfl ?_
  refine wo_nil ?_
  refine ws_cond rfl (fun h4 => ?_) (fun h4 => ?_)
  · skip
    refine ws_seq ?_
    refine ws_region ?_
    refine wo_pures 1 rfl ?_
    refine wo_u8 (b := 48) rfl rfl rfl rfl ?_
    refine wo_pures 2 rfl ?_
    refine wo_nil ?_
    refine ws_ret ?_
    exact ⟨_, _, ret2 rfl rfl rfl, ⟨by simp only [digitF, h4, cond_true], rfl⟩, Ent.refl _⟩
  · skip
    refine ws_seq ?_
    refine ws_region ?_
    refine wo_pures 3 rfl ?_
    refine wo_and 2 2 rfl rfl rfl rfl rfl rfl rfl (fun hp15 => by
      refine wo_pures 2 rfl ?_
      exact wo_nil ⟨rfl, Env.Sub.news 2 rfl rfl, Ent.refl _⟩) ?_
    refine wo_pures 1 rfl ?_
    refine wo_nil ?_
    refine ws_cond rfl (fun h9 => ?_) (fun h9 => ?_)
    · skip
      refine ws_seq ?_
      refine ws_region ?_
      refine wo_pures 1 rfl ?_
      refine wo_u8 (b := 97) rfl rfl rfl rfl ?_
      refine wo_u8 (b := 10) rfl rfl rfl rfl ?_
      refine wo_pures 2 rfl ?_
      refine wo_nil ?_
      refine ws_ret ?_
      exact ⟨_, _, ret2 rfl rfl rfl, ⟨by simp only [digitF, h4, h9, cond_true, cond_false], rfl⟩, Ent.refl _⟩
    · skip
      refine ws_seq ?_
      refine ws_region ?_
      refine wo_pures 3 rfl ?_
      refine wo_and 2 2 rfl rfl rfl rfl rfl rfl rfl (fun hp25 => by
        refine wo_pures 2 rfl ?_
        exact wo_nil ⟨rfl, Env.Sub.news 2 rfl rfl, Ent.refl _⟩) ?_
      refine wo_pures 1 rfl ?_
      refine wo_nil ?_
      refine ws_cond rfl (fun h19 => ?_) (fun h19 => ?_)
      · skip
        refine ws_seq ?_
        refine ws_region ?_
        refine wo_pures 1 rfl ?_
        refine wo_u8 (b := 65) rfl rfl rfl rfl ?_
        refine wo_u8 (b := 10) rfl rfl rfl rfl ?_
        refine wo_pures 2 rfl ?_
        refine wo_nil ?_
        refine ws_ret ?_
        exact ⟨_, _, ret2 rfl rfl rfl, ⟨by simp only [digitF, h4, h9, h19, cond_true, cond_false], rfl⟩, Ent.refl _⟩
      · skip
        refine ws_skip ?_
        refine ws_seq ?_
        refine ws_region ?_
        refine wo_pures 2 rfl ?_
        refine wo_nil ?_
        refine ws_ret ?_
        exact ⟨_, _, ret2 rfl rfl rfl, ⟨by simp only [digitF, h4, h9, h19, cond_false]; rfl, rfl⟩, Ent.refl _⟩
theorem textIs_con (b : Nat) (s : Str) (k : Nat) (c : UInt8) : ConR Tryz.prog 78 [.pointer (some ⟨b, 0, none⟩), .int .u8 (c.toNat : Int)] [cel b 114 [str s, int k]] (.bool (nextB s k c)) := by
  refine con_body Tryz.func78 rfl Tryz.ntmps78 rfl fun E fr => ?_
  refine ws_seq ?_
  refine ws_region ?_
  refine wo_pures 1 rfl ?_
  refine wo_nil ?_
  refine ws_seq ?_
  refine ws_forget [4] rfl ?_
  apply ws_toQ
  case h =>
    refine ws_draw mixed (by kernel_rfl) (by first | rfl | kernel_rfl) ?_
    refine wd_pures [0, 1, 4, 5] (by kernel_rfl) rfl ?_
    refine .quiet 2 rfl rfl rfl (by kernel_rfl) (by
      refine wo_field rfl Tryz.underlying114 rfl Tryz.sizeOf3 rfl rfl ?_
      exact wo_nil ⟨rfl, Ent.refl _⟩) ?_
    refine .quiet 3 rfl rfl rfl (by kernel_rfl) (by
      refine wo_load 0 rfl Tryz.isAgg3 rfl rfl rfl ?_
      exact wo_nil ⟨rfl, Ent.refl _⟩) ?_
    refine .quiet 6 rfl rfl rfl (by kernel_rfl) (by
      refine wo_field rfl Tryz.underlying114 rfl Tryz.sizeOf9 rfl rfl ?_
      exact wo_nil ⟨rfl, Ent.refl _⟩) ?_
    refine .quiet 7 rfl rfl rfl (by kernel_rfl) (by
      refine wo_load 0 rfl Tryz.isAgg9 rfl rfl rfl ?_
      exact wo_nil ⟨rfl, Ent.refl _⟩) ?_
    refine .quiet 8 rfl rfl rfl (by kernel_rfl) (by
      refine wo_len_str rfl Tryz.underlying9 rfl ?_
      exact wo_nil ⟨rfl, Ent.refl _⟩) ?_
    refine wd_pures [9, 10] (by kernel_rfl) rfl ?_
    refine wd_bool 15 rfl (fun hp15 => ?_) (fun hp15 => ?_)
    · skip
      refine wd_pures [11, 12, 15, 16, 20] (by kernel_rfl) rfl ?_
      refine .quiet 13 rfl rfl rfl (by kernel_rfl) (by
        refine wo_field rfl Tryz.underlying114 rfl Tryz.sizeOf9 rfl rfl ?_
        exact wo_nil ⟨rfl, Ent.refl _⟩) ?_
      refine .quiet 14 rfl rfl rfl (by kernel_rfl) (by
        refine wo_load 0 rfl Tryz.isAgg9 rfl rfl rfl ?_
        exact wo_nil ⟨rfl, Ent.refl _⟩) ?_
      refine .quiet 17 rfl rfl rfl (by kernel_rfl) (by
        refine wo_field rfl Tryz.underlying114 rfl Tryz.sizeOf3 rfl rfl ?_
        exact wo_nil ⟨rfl, Ent.refl _⟩) ?_
      refine .quiet 18 rfl rfl rfl (by kernel_rfl) (by
        refine wo_load 0 rfl Tryz.isAgg3 rfl rfl rfl ?_
        exact wo_nil ⟨rfl, Ent.refl _⟩) ?_
      refine .quiet 19 rfl rfl rfl (by kernel_rfl) (by
        refine wo_index_str rfl Tryz.underlying9 rfl rfl (strGet (lt_of_dec hp15)) ?_
        exact wo_nil ⟨rfl, Ent.refl _⟩) ?_
      refine wd_pures [21, 22, 23] (by kernel_rfl) rfl ?_
      refine .done (by kernel_rfl) ?_
      exact ⟨rfl, (.cons (t := 4) (congrArg (fun b => some (Value.bool b)) (and_t hp15)) (Env.Sub.fresh 25 rfl rfl)), Ent.refl _⟩
    · skip
      refine wd_pures [11, 12, 13, 14, 15, 16, 17, 18, 19, 20, 21, 22, 23] (by kernel_rfl) rfl ?_
      refine .done (by kernel_rfl) ?_
      exact ⟨rfl, (.cons (t := 4) (congrArg (fun b => some (Value.bool b)) (and_f _ hp15)) (Env.Sub.fresh 25 rfl rfl)), Ent.refl _⟩
  case k =>
    skip
    refine ws_ret ?_
    exact ⟨_, _, ret1 rfl rfl, ⟨rfl, rfl⟩, Ent.refl _⟩
theorem takes_con (b : Nat) (s : Str) (k : Nat) (c : UInt8) (hs : s.length ≤ 1048576) : ConX Tryz.prog 38 [.pointer (some ⟨b, 0, none⟩), .int .u8 (c.toNat : Int)] [cel b 114 [str s, int k]] (fun _ : Unit => .bool (nextB s k c)) (fun _ => [cel b 114 [str s, int (nextK s k c)]]) := by
  refine con_body Tryz.func38 rfl Tryz.ntmps38 rfl fun E fr => ?_
  refine ws_seq ?_
  refine ws_region ?_
  refine wo_pures 1 rfl ?_
  refine wo_nil ?_
  refine ws_seq ?_
  refine ws_seq ?_
  refine ws_region ?_
  refine wo_pures 2 rfl ?_
  refine wo_callk (textIs_con _ _ _ _) rfl Tryz.call78 rfl (.cons 0 rfl (.refl _)) (.cons 0 rfl (.refl _)) ?_
  refine wo_pures 1 rfl ?_
  refine wo_nil ?_
  refine ws_cond rfl (fun h8 => ?_) (fun h8 => ?_)
  · skip
    have e1 : nextB s k c = false := by simpa using h8
    refine ws_seq ?_
    refine ws_region ?_
    refine wo_pures 1 rfl ?_
    refine wo_nil ?_
    refine ws_ret ?_
    exact ⟨_, [_], ret1 rfl rfl, ⟨(), by rw [e1], rfl⟩, Ent.eq (by simp only [nextK, e1, cond_true, cond_false] <;> rfl)⟩
  · skip
    have e1 : nextB s k c = true := by simpa using h8
    have hl := nextB_lt e1
    refine ws_skip ?_
    refine ws_seq ?_
    refine ws_region ?_
    refine wo_pures 2 rfl ?_
    refine wo_field rfl Tryz.underlying114 rfl Tryz.sizeOf3 rfl rfl ?_
    refine wo_load 0 rfl Tryz.isAgg3 rfl rfl rfl ?_
    refine wo_add rfl rfl rfl rfl (by omega) ?_
    refine wo_pures 1 rfl ?_
    refine wo_field rfl Tryz.underlying114 rfl Tryz.sizeOf3 rfl rfl ?_
    refine wo_store 0 rfl rfl rfl rfl Tryz.sizeOf3 rfl rfl rfl rfl ?_
    refine wo_nil ?_
    refine ws_seq ?_
    refine ws_region ?_
    refine wo_pures 1 rfl ?_
    refine wo_nil ?_
    refine ws_ret ?_
    exact ⟨_, [_], ret1 rfl rfl, ⟨(), by rw [e1], rfl⟩, Ent.eq (by simp only [nextK, e1, cond_true, cond_false] <;> rfl)⟩
theorem blanks_con (b : Nat) (s : Str) (k : Nat) (hs : s.length ≤ 1048576) : ConX Tryz.prog 79 [.pointer (some ⟨b, 0, none⟩)] [cel b 114 [str s, int k]] (fun _ : Unit => .tuple #[]) (fun _ => [cel b 114 [str s, int (blanksF s k)]]) := by
  refine con_body Tryz.func79 rfl Tryz.ntmps79 rfl fun E fr => ?_
  refine ws_block ?_
  refine ws_loopk (X := Nat) (fun j => []) (fun j => [cel b 114 [str s, int j]]) (fun j => blanksF s j = blanksF s k) (fun j => s.length - j) k [0] rfl fr rfl (by repeat (first | exact .nil | refine .cons rfl ?_)) (Ent.refl _) fun j hok => ?_
  refine ws_seq ?_
  refine ws_seq ?_
  refine ws_region ?_
  refine wo_pures 1 rfl ?_
  refine wo_callx (takes_con _ _ _ 32 (by omega)) rfl Tryz.call38 rfl (.cons 0 rfl (.refl _)) fun _ => ?_
  refine wo_nil ?_
  refine ws_cond rfl (fun h3 => ?_) (fun h3 => ?_)
  · skip
    refine ws_skip ?_
    refine ws_block ?_
    refine ws_skip ?_
    exact ⟨j + 1, (nextB_blank h3).trans hok, (by have := nextB_lt h3; omega), (by repeat (first | exact .nil | refine .cons rfl ?_)), (by repeat (first | exact .nil | refine .cons rfl ?_)), Ent.eq (by simp only [nextK, h3, cond_true] <;> rfl)⟩
  · skip
    refine ws_exit ?_
    exact ⟨_, [_], ret0 rfl, ⟨(), rfl, rfl⟩, Ent.eq (by rw [← hok, nextB_noblank h3]; simp only [nextK, h3, cond_false] <;> rfl)⟩
theorem kind_con (b : Nat) (s : Str) (k : Nat) (hs : s.length ≤ 1048576) (hk : k ≤ s.length) : ConX Tryz.prog 80 [.pointer (some ⟨b, 0, none⟩)] [cel b 114 [str s, int k]] (fun _ : Unit => .tuple #[str (kindT s k), .bool (typeB (kindT s k))]) (fun _ => [cel b 114 [str s, int (kindF s k)]]) := by
  refine con_body Tryz.func80 rfl Tryz.ntmps80 rfl fun E fr => ?_
  refine ws_seq ?_
  refine ws_region ?_
  refine wo_pures 2 rfl ?_
  refine wo_nil ?_
  refine ws_seq ?_
  refine ws_region ?_
  refine wo_pures 2 rfl ?_
  refine wo_field rfl Tryz.underlying114 rfl Tryz.sizeOf3 rfl rfl ?_
  refine wo_load 0 rfl Tryz.isAgg3 rfl rfl rfl ?_
  refine wo_pures 1 rfl ?_
  refine wo_nil ?_
  refine ws_seq ?_
  refine ws_block ?_
  refine ws_loopk (X := Nat) (fun j => []) (fun j => [cel b 114 [str s, int j]]) (fun j => kindF s j = kindF s k ∧ k ≤ j ∧ j ≤ s.length) (fun j => s.length - j) k [0, 2, 3, 4] rfl fr ⟨rfl, by omega, hk⟩ (by repeat (first | exact .nil | refine .cons rfl ?_)) (Ent.refl _) fun j hok => ?_
  refine ws_seq ?_
  refine ws_seq ?_
  refine ws_toP [(54, .bool (kindB s j))] ?h2 ?k2
  case h2 =>
    refine ws_draw mixed (by kernel_rfl) (by first | rfl | kernel_rfl) ?_
    refine wd_pures [0, 1, 4, 5] (by kernel_rfl) rfl ?_
    refine .quiet 2 rfl rfl rfl (by kernel_rfl) (by
      refine wo_field rfl Tryz.underlying114 rfl Tryz.sizeOf3 rfl rfl ?_
      exact wo_nil ⟨rfl, Ent.refl _⟩) ?_
    refine .quiet 3 rfl rfl rfl (by kernel_rfl) (by
      refine wo_load 0 rfl Tryz.isAgg3 rfl rfl rfl ?_
      exact wo_nil ⟨rfl, Ent.refl _⟩) ?_
    refine .quiet 6 rfl rfl rfl (by kernel_rfl) (by
      refine wo_field rfl Tryz.underlying114 rfl Tryz.sizeOf9 rfl rfl ?_
      exact wo_nil ⟨rfl, Ent.refl _⟩) ?_
    refine .quiet 7 rfl rfl rfl (by kernel_rfl) (by
      refine wo_load 0 rfl Tryz.isAgg9 rfl rfl rfl ?_
      exact wo_nil ⟨rfl, Ent.refl _⟩) ?_
    refine .quiet 8 rfl rfl rfl (by kernel_rfl) (by
      refine wo_len_str rfl Tryz.underlying9 rfl ?_
      exact wo_nil ⟨rfl, Ent.refl _⟩) ?_
    refine wd_pures [9, 10] (by kernel_rfl) rfl ?_
    refine wd_bool 19 rfl (fun hp19 => ?_) (fun hp19 => ?_)
    · skip
      refine wd_pures [11, 12, 15, 16] (by kernel_rfl) rfl ?_
      refine .quiet 13 rfl rfl rfl (by kernel_rfl) (by
        refine wo_field rfl Tryz.underlying114 rfl Tryz.sizeOf9 rfl rfl ?_
        exact wo_nil ⟨rfl, Ent.refl _⟩) ?_
      refine .quiet 14 rfl rfl rfl (by kernel_rfl) (by
        refine wo_load 0 rfl Tryz.isAgg9 rfl rfl rfl ?_
        exact wo_nil ⟨rfl, Ent.refl _⟩) ?_
      refine .quiet 17 rfl rfl rfl (by kernel_rfl) (by
        refine wo_field rfl Tryz.underlying114 rfl Tryz.sizeOf3 rfl rfl ?_
        exact wo_nil ⟨rfl, Ent.refl _⟩) ?_
      refine .quiet 18 rfl rfl rfl (by kernel_rfl) (by
        refine wo_load 0 rfl Tryz.isAgg3 rfl rfl rfl ?_
        exact wo_nil ⟨rfl, Ent.refl _⟩) ?_
      refine .quiet 19 rfl rfl rfl (by kernel_rfl) (by
        refine wo_index_str rfl Tryz.underlying9 rfl rfl (strGet (lt_of_dec hp19)) ?_
        exact wo_nil ⟨rfl, Ent.refl _⟩) ?_
      refine .quiet 20 rfl rfl rfl (by kernel_rfl) (by
        refine wo_callp (isLetter_con _) rfl Tryz.call160 rfl ?_
        exact wo_nil ⟨rfl, Ent.refl _⟩) ?_
      refine wd_pures [21] (by kernel_rfl) rfl ?_
      refine wd_bool 30 rfl (fun hp30 => ?_) (fun hp30 => ?_)
      rotate_left
      · skip
        refine wd_pures [22, 23, 26, 27] (by kernel_rfl) rfl ?_
        refine .quiet 24 rfl rfl rfl (by kernel_rfl) (by
          refine wo_field rfl Tryz.underlying114 rfl Tryz.sizeOf9 rfl rfl ?_
          exact wo_nil ⟨rfl, Ent.refl _⟩) ?_
        refine .quiet 25 rfl rfl rfl (by kernel_rfl) (by
          refine wo_load 0 rfl Tryz.isAgg9 rfl rfl rfl ?_
          exact wo_nil ⟨rfl, Ent.refl _⟩) ?_
        refine .quiet 28 rfl rfl rfl (by kernel_rfl) (by
          refine wo_field rfl Tryz.underlying114 rfl Tryz.sizeOf3 rfl rfl ?_
          exact wo_nil ⟨rfl, Ent.refl _⟩) ?_
        refine .quiet 29 rfl rfl rfl (by kernel_rfl) (by
          refine wo_load 0 rfl Tryz.isAgg3 rfl rfl rfl ?_
          exact wo_nil ⟨rfl, Ent.refl _⟩) ?_
        refine .quiet 30 rfl rfl rfl (by kernel_rfl) (by
          refine wo_index_str rfl Tryz.underlying9 rfl rfl (strGet (lt_of_dec hp19)) ?_
          exact wo_nil ⟨rfl, Ent.refl _⟩) ?_
        refine .quiet 31 rfl rfl rfl (by kernel_rfl) (by
          refine wo_callp (isDigit_con _) rfl Tryz.call161 rfl ?_
          exact wo_nil ⟨rfl, Ent.refl _⟩) ?_
        refine wd_pures [32, 33] (by kernel_rfl) rfl ?_
        refine wd_bool 42 rfl (fun hp42 => ?_) (fun hp42 => ?_)
        rotate_left
        · skip
          refine wd_pures [34, 35, 38, 39] (by kernel_rfl) rfl ?_
          refine .quiet 36 rfl rfl rfl (by kernel_rfl) (by
            refine wo_field rfl Tryz.underlying114 rfl Tryz.sizeOf9 rfl rfl ?_
            exact wo_nil ⟨rfl, Ent.refl _⟩) ?_
          refine .quiet 37 rfl rfl rfl (by kernel_rfl) (by
            refine wo_load 0 rfl Tryz.isAgg9 rfl rfl rfl ?_
            exact wo_nil ⟨rfl, Ent.refl _⟩) ?_
          refine .quiet 40 rfl rfl rfl (by kernel_rfl) (by
            refine wo_field rfl Tryz.underlying114 rfl Tryz.sizeOf3 rfl rfl ?_
            exact wo_nil ⟨rfl, Ent.refl _⟩) ?_
          refine .quiet 41 rfl rfl rfl (by kernel_rfl) (by
            refine wo_load 0 rfl Tryz.isAgg3 rfl rfl rfl ?_
            exact wo_nil ⟨rfl, Ent.refl _⟩) ?_
          refine .quiet 42 rfl rfl rfl (by kernel_rfl) (by
            refine wo_index_str rfl Tryz.underlying9 rfl rfl (strGet (lt_of_dec hp19)) ?_
            exact wo_nil ⟨rfl, Ent.refl _⟩) ?_
          refine wd_pures [43, 44, 45] (by kernel_rfl) rfl ?_
          refine .done (by kernel_rfl) ?_
          exact ⟨rfl, (.cons (t := 54) (toB (by simp only [kindB, tcharB, hp19, hp30, hp42, Bool.true_and, Bool.false_and, Bool.and_true, Bool.and_false, Bool.true_or, Bool.false_or, Bool.or_true, Bool.or_false])) (Env.Sub.fresh 49 rfl rfl)), Ent.refl _⟩
        · skip
          refine wd_pures [34, 35, 36, 37, 38, 39, 40, 41, 42, 43, 44, 45] (by kernel_rfl) rfl ?_
          refine .done (by kernel_rfl) ?_
          exact ⟨rfl, (.cons (t := 54) (toB (by simp only [kindB, tcharB, hp19, hp30, hp42, Bool.true_and, Bool.false_and, Bool.and_true, Bool.and_false, Bool.true_or, Bool.false_or, Bool.or_true, Bool.or_false])) (Env.Sub.fresh 49 rfl rfl)), Ent.refl _⟩
      · skip
        refine wd_pures [22, 23, 24, 25, 26, 27, 28, 29, 30, 31, 32, 33, 34, 35, 36, 37, 38, 39, 40, 41, 42, 43, 44, 45] (by kernel_rfl) rfl ?_
        refine .done (by kernel_rfl) ?_
        exact ⟨rfl, (.cons (t := 54) (toB (by simp only [kindB, tcharB, hp19, hp30, Bool.true_and, Bool.false_and, Bool.and_true, Bool.and_false, Bool.true_or, Bool.false_or, Bool.or_true, Bool.or_false])) (Env.Sub.fresh 48 rfl rfl)), Ent.refl _⟩
    · skip
      refine wd_pures [11, 12, 13, 14, 15, 16, 17, 18, 19, 20, 21, 22, 23, 24, 25, 26, 27, 28, 29, 30, 31, 32, 33, 34, 35, 36, 37, 38, 39, 40, 41, 42, 43, 44, 45] (by kernel_rfl) rfl ?_
      refine .done (by kernel_rfl) ?_
      exact ⟨rfl, (.cons (t := 54) (toB (by simp only [kindB, tcharB, hp19, Bool.true_and, Bool.false_and, Bool.and_true, Bool.and_false, Bool.true_or, Bool.false_or, Bool.or_true, Bool.or_false])) (Env.Sub.fresh 47 rfl rfl)), Ent.refl _⟩
  case k2 =>
    skip
    refine ws_cond rfl (fun h54 => ?_) (fun h54 => ?_)
    · skip
      have hl := (kindB_go h54).1
      refine ws_skip ?_
      refine ws_block ?_
      refine ws_region ?_
      refine wo_pures 2 rfl ?_
      refine wo_field rfl Tryz.underlying114 rfl Tryz.sizeOf3 rfl rfl ?_
      refine wo_load 0 rfl Tryz.isAgg3 rfl rfl rfl ?_
      refine wo_add rfl rfl rfl rfl (by omega) ?_
      refine wo_pures 1 rfl ?_
      refine wo_field rfl Tryz.underlying114 rfl Tryz.sizeOf3 rfl rfl ?_
      refine wo_store 0 rfl rfl rfl rfl Tryz.sizeOf3 rfl rfl rfl rfl ?_
      refine wo_nil ?_
      exact ⟨j + 1, ⟨(kindB_go h54).2.trans hok.1, by omega, (kindB_go h54).1⟩, (by have := (kindB_go h54).1; omega), (by repeat (first | exact .nil | refine .cons rfl ?_)), (by repeat (first | exact .nil | refine .cons rfl ?_)), Ent.refl _⟩
    · skip
      have hj : j = kindF s k := by rw [← hok.1, kindB_stop h54]
      subst hj
      refine ws_exit ?_
      refine ws_seq ?_
      refine ws_forget [2, 3] rfl ?_
      refine ws_draw mixed (by kernel_rfl) (by first | rfl | kernel_rfl) ?_
      refine wd_pures [0, 1, 4, 5, 6, 10, 11, 14, 15, 16] (by kernel_rfl) rfl ?_
      refine .quiet 2 rfl rfl rfl (by kernel_rfl) (by
        refine wo_field rfl Tryz.underlying114 rfl Tryz.sizeOf9 rfl rfl ?_
        exact wo_nil ⟨rfl, Ent.refl _⟩) ?_
      refine .quiet 3 rfl rfl rfl (by kernel_rfl) (by
        refine wo_load 0 rfl Tryz.isAgg9 rfl rfl rfl ?_
        exact wo_nil ⟨rfl, Ent.refl _⟩) ?_
      refine .quiet 7 rfl rfl rfl (by kernel_rfl) (by
        refine wo_field rfl Tryz.underlying114 rfl Tryz.sizeOf3 rfl rfl ?_
        exact wo_nil ⟨rfl, Ent.refl _⟩) ?_
      refine .quiet 8 rfl rfl rfl (by kernel_rfl) (by
        refine wo_load 0 rfl Tryz.isAgg3 rfl rfl rfl ?_
        exact wo_nil ⟨rfl, Ent.refl _⟩) ?_
      refine .quiet 9 rfl rfl rfl (by kernel_rfl) (by
        refine wo_slice_str rfl Tryz.underlying9 rfl rfl rfl hok.2.1 hok.2.2 ?_
        exact wo_nil ⟨rfl, Ent.refl _⟩) ?_
      refine .quiet 12 rfl rfl rfl (by kernel_rfl) (by
        refine wo_field rfl Tryz.underlying114 rfl Tryz.sizeOf9 rfl rfl ?_
        exact wo_nil ⟨rfl, Ent.refl _⟩) ?_
      refine .quiet 13 rfl rfl rfl (by kernel_rfl) (by
        refine wo_load 0 rfl Tryz.isAgg9 rfl rfl rfl ?_
        exact wo_nil ⟨rfl, Ent.refl _⟩) ?_
      refine .quiet 17 rfl rfl rfl (by kernel_rfl) (by
        refine wo_field rfl Tryz.underlying114 rfl Tryz.sizeOf3 rfl rfl ?_
        exact wo_nil ⟨rfl, Ent.refl _⟩) ?_
      refine .quiet 18 rfl rfl rfl (by kernel_rfl) (by
        refine wo_load 0 rfl Tryz.isAgg3 rfl rfl rfl ?_
        exact wo_nil ⟨rfl, Ent.refl _⟩) ?_
      refine .quiet 19 rfl rfl rfl (by kernel_rfl) (by
        refine wo_slice_str rfl Tryz.underlying9 rfl rfl rfl hok.2.1 hok.2.2 ?_
        exact wo_nil ⟨rfl, Ent.refl _⟩) ?_
      refine .quiet 20 rfl rfl rfl (by kernel_rfl) (by
        refine wo_callp (dnType_con _ (by first | omega | (simp only [List.length_take, List.length_drop, List.length_append]; omega))) rfl Tryz.call84 rfl ?_
        exact wo_nil ⟨rfl, Ent.refl _⟩) ?_
      refine wd_pures [21, 22] (by kernel_rfl) rfl ?_
      refine .done (by kernel_rfl) ?_
      refine ws_ret ?_
      exact ⟨_, [_], ret2 rfl rfl rfl, ⟨(), rfl, rfl⟩, Ent.refl _⟩
theorem slIndexByte_con (s : Str) (c : UInt8) : ConV Tryz.prog 256 [str s, .int .u8 (c.toNat : Int)] [] (int (Lib.indexByte s c)) := by
  refine con_body Tryz.func256 rfl Tryz.ntmps256 rfl fun E fr => ?_
  refine ws_seq ?_
  refine ws_region ?_
  refine wo_pures 1 rfl ?_
  refine wo_nil ?_
  refine ws_seq ?_
  refine ws_region ?_
  refine wo_pures 2 rfl ?_
  refine wo_ext (ext_indexByte Tryz.func327 (by kernel_rfl) (by kernel_rfl) (by kernel_rfl) (by kernel_rfl) _ _) rfl rfl ?_
  refine wo_pures 1 rfl ?_
  refine wo_nil ?_
  refine ws_ret ?_
  exact ⟨_, _, ret1 rfl rfl, ⟨rfl, rfl⟩, Ent.dropN 0 rfl⟩
theorem indexByte_con (s : Str) (c : UInt8) : ConV Tryz.prog 163 [str s, .int .u8 (c.toNat : Int)] [] (int (Lib.indexByte s c)) := by
  refine con_body Tryz.func163 rfl Tryz.ntmps163 rfl fun E fr => ?_
  refine ws_seq ?_
  refine ws_region ?_
  refine wo_pures 1 rfl ?_
  refine wo_nil ?_
  refine ws_seq ?_
  refine ws_region ?_
  refine wo_pures 2 rfl ?_
  refine wo_callp (slIndexByte_con _ _) rfl Tryz.call256 rfl ?_
  refine wo_pures 1 rfl ?_
  refine wo_nil ?_
  refine ws_ret ?_
  exact ⟨_, _, ret1 rfl rfl, ⟨rfl, rfl⟩, Ent.dropN 0 rfl⟩
theorem stroke_con (b : Nat) (s : Str) (k : Nat) (hs : s.length ≤ 1048576) (hk : k ≤ s.length) : ConX Tryz.prog 162 [.pointer (some ⟨b, 0, none⟩)] [cel b 114 [str s, int k]] (fun _ : Unit => .tuple #[.int .u8 ((strokeF s k).1.1.toNat : Int), .bool (strokeF s k).1.2]) (fun _ => [cel b 114 [str s, int (strokeF s k).2]]) := by
  refine con_body Tryz.func162 rfl Tryz.ntmps162 rfl fun E fr => ?_
  refine ws_seq ?_
  refine ws_region ?_
  refine wo_pures 2 rfl ?_
  refine wo_nil ?_
  refine ws_seq ?_
  refine ws_seq ?_
  refine ws_draw mixed (by kernel_rfl) (by first | rfl | kernel_rfl) ?_
  refine wd_pures [0, 1, 4, 5] (by kernel_rfl) rfl ?_
  refine .quiet 2 rfl rfl rfl (by kernel_rfl) (by
    refine wo_field rfl Tryz.underlying114 rfl Tryz.sizeOf3 rfl rfl ?_
    exact wo_nil ⟨rfl, Ent.refl _⟩) ?_
  refine .quiet 3 rfl rfl rfl (by kernel_rfl) (by
    refine wo_load 0 rfl Tryz.isAgg3 rfl rfl rfl ?_
    exact wo_nil ⟨rfl, Ent.refl _⟩) ?_
  refine .quiet 6 rfl rfl rfl (by kernel_rfl) (by
    refine wo_field rfl Tryz.underlying114 rfl Tryz.sizeOf9 rfl rfl ?_
    exact wo_nil ⟨rfl, Ent.refl _⟩) ?_
  refine .quiet 7 rfl rfl rfl (by kernel_rfl) (by
    refine wo_load 0 rfl Tryz.isAgg9 rfl rfl rfl ?_
    exact wo_nil ⟨rfl, Ent.refl _⟩) ?_
  refine .quiet 8 rfl rfl rfl (by kernel_rfl) (by
    refine wo_len_str rfl Tryz.underlying9 rfl ?_
    exact wo_nil ⟨rfl, Ent.refl _⟩) ?_
  refine wd_pures [9] (by kernel_rfl) rfl ?_
  refine .done (by kernel_rfl) ?_
  refine ws_cond rfl (fun h17 => ?_) (fun h17 => ?_)
  · skip
    refine ws_seq ?_
    refine ws_region ?_
    refine wo_pures 2 rfl ?_
    refine wo_nil ?_
    refine ws_ret ?_
    exact ⟨_, [_], ret2 rfl rfl rfl, ⟨(), by simp only [strokeF, h17, cond_true] <;> rfl, rfl⟩, Ent.eq (by simp only [strokeF, h17, cond_true] <;> rfl)⟩
  · skip
    have hl : k < s.length := by have := of_decide_eq_false h17; omega
    refine ws_skip ?_
    refine ws_seq ?_
    refine ws_draw mixed (by kernel_rfl) (by first | rfl | kernel_rfl) ?_
    refine wd_pures [0, 1, 4, 5] (by kernel_rfl) rfl ?_
    refine .quiet 2 rfl rfl rfl (by kernel_rfl) (by
      refine wo_field rfl Tryz.underlying114 rfl Tryz.sizeOf9 rfl rfl ?_
      exact wo_nil ⟨rfl, Ent.refl _⟩) ?_
    refine .quiet 3 rfl rfl rfl (by kernel_rfl) (by
      refine wo_load 0 rfl Tryz.isAgg9 rfl rfl rfl ?_
      exact wo_nil ⟨rfl, Ent.refl _⟩) ?_
    refine .quiet 6 rfl rfl rfl (by kernel_rfl) (by
      refine wo_field rfl Tryz.underlying114 rfl Tryz.sizeOf3 rfl rfl ?_
      exact wo_nil ⟨rfl, Ent.refl _⟩) ?_
    refine .quiet 7 rfl rfl rfl (by kernel_rfl) (by
      refine wo_load 0 rfl Tryz.isAgg3 rfl rfl rfl ?_
      exact wo_nil ⟨rfl, Ent.refl _⟩) ?_
    refine .quiet 8 rfl rfl rfl (by kernel_rfl) (by
      refine wo_index_str rfl Tryz.underlying9 rfl rfl (strGet hl) ?_
      exact wo_nil ⟨rfl, Ent.refl _⟩) ?_
    refine wd_pures [9] (by kernel_rfl) rfl ?_
    refine .done (by kernel_rfl) ?_
    refine ws_seq ?_
    refine ws_region ?_
    refine wo_pures 2 rfl ?_
    refine wo_field rfl Tryz.underlying114 rfl Tryz.sizeOf3 rfl rfl ?_
    refine wo_load 0 rfl Tryz.isAgg3 rfl rfl rfl ?_
    refine wo_add rfl rfl rfl rfl (by omega) ?_
    refine wo_pures 1 rfl ?_
    refine wo_field rfl Tryz.underlying114 rfl Tryz.sizeOf3 rfl rfl ?_
    refine wo_store 0 rfl rfl rfl rfl Tryz.sizeOf3 rfl rfl rfl rfl ?_
    refine wo_nil ?_
    refine ws_seq ?_
    refine ws_seq ?_
    refine ws_region ?_
    refine wo_pures 1 rfl ?_
    refine wo_callp (indexByte_con strokesS _) rfl Tryz.call163 rfl ?_
    refine wo_pures 1 rfl ?_
    refine wo_nil ?_
    refine ws_cond rfl (fun h36 => ?_) (fun h36 => ?_)
    · skip
      refine ws_seq ?_
      refine ws_region ?_
      refine wo_pures 3 rfl ?_
      refine wo_nil ?_
      refine ws_ret ?_
      exact ⟨_, [_], ret2 rfl rfl rfl, ⟨(), by simp only [strokeF, h17, h36, cond_true, cond_false] <;> rfl, rfl⟩, Ent.eq (by simp only [strokeF, h17, h36, cond_true, cond_false] <;> rfl)⟩
    · skip
      refine ws_skip ?_
      refine ws_seq ?_
      refine ws_region ?_
      refine wo_pures 1 rfl ?_
      refine wo_callp (digit_con _) rfl Tryz.call255 rfl ?_
      refine wo_pures 5 rfl ?_
      refine wo_nil ?_
      refine ws_seq ?_
      refine ws_seq ?_
      apply ws_toQ
      case h =>
        refine ws_draw mixed (by kernel_rfl) (by first | rfl | kernel_rfl) ?_
        refine wd_pures [0, 1, 2] (by kernel_rfl) rfl ?_
        refine wd_bool 45 rfl (fun hp45 => ?_) (fun hp45 => ?_)
        rotate_left
        · skip
          refine wd_pures [3, 4, 7, 8] (by kernel_rfl) rfl ?_
          refine .quiet 5 rfl rfl rfl (by kernel_rfl) (by
            refine wo_field rfl Tryz.underlying114 rfl Tryz.sizeOf3 rfl rfl ?_
            exact wo_nil ⟨rfl, Ent.refl _⟩) ?_
          refine .quiet 6 rfl rfl rfl (by kernel_rfl) (by
            refine wo_load 0 rfl Tryz.isAgg3 rfl rfl rfl ?_
            exact wo_nil ⟨rfl, Ent.refl _⟩) ?_
          refine .quiet 9 rfl rfl rfl (by kernel_rfl) (by
            refine wo_field rfl Tryz.underlying114 rfl Tryz.sizeOf9 rfl rfl ?_
            exact wo_nil ⟨rfl, Ent.refl _⟩) ?_
          refine .quiet 10 rfl rfl rfl (by kernel_rfl) (by
            refine wo_load 0 rfl Tryz.isAgg9 rfl rfl rfl ?_
            exact wo_nil ⟨rfl, Ent.refl _⟩) ?_
          refine .quiet 11 rfl rfl rfl (by kernel_rfl) (by
            refine wo_len_str rfl Tryz.underlying9 rfl ?_
            exact wo_nil ⟨rfl, Ent.refl _⟩) ?_
          refine wd_pures [12, 13] (by kernel_rfl) rfl ?_
          refine .done (by kernel_rfl) ?_
          exact ⟨rfl, (.cons (t := 56) (congrArg (fun b => some (Value.bool b)) (or_f hp45)) (Env.Sub.fresh 15 rfl rfl)), Ent.refl _⟩
        · skip
          refine wd_pures [3, 4, 5, 6, 7, 8, 9, 10, 11, 12, 13] (by kernel_rfl) rfl ?_
          refine .done (by kernel_rfl) ?_
          exact ⟨rfl, (.cons (t := 56) (congrArg (fun b => some (Value.bool b)) (or_t _ hp45)) (Env.Sub.fresh 15 rfl rfl)), Ent.refl _⟩
      case k =>
        skip
        refine ws_cond rfl (fun h56 => ?_) (fun h56 => ?_)
        · skip
          refine ws_seq ?_
          refine ws_region ?_
          refine wo_pures 2 rfl ?_
          refine wo_nil ?_
          refine ws_ret ?_
          exact ⟨_, [_], ret2 rfl rfl rfl, ⟨(), by simp only [strokeF, h17, h36, h56, cond_true, cond_false] <;> rfl, rfl⟩, Ent.eq (by simp only [strokeF, h17, h36, h56, cond_true, cond_false] <;> rfl)⟩
        · skip
          have hl2 : k + 1 < s.length := by simp only [Bool.or_eq_false_iff] at h56; have := of_decide_eq_false h56.2; omega
          refine ws_skip ?_
          refine ws_seq ?_
          refine ws_forget [6] rfl ?_
          refine ws_draw mixed (by kernel_rfl) (by first | rfl | kernel_rfl) ?_
          refine wd_pures [0, 1, 4, 5] (by kernel_rfl) rfl ?_
          refine .quiet 2 rfl rfl rfl (by kernel_rfl) (by
            refine wo_field rfl Tryz.underlying114 rfl Tryz.sizeOf9 rfl rfl ?_
            exact wo_nil ⟨rfl, Ent.refl _⟩) ?_
          refine .quiet 3 rfl rfl rfl (by kernel_rfl) (by
            refine wo_load 0 rfl Tryz.isAgg9 rfl rfl rfl ?_
            exact wo_nil ⟨rfl, Ent.refl _⟩) ?_
          refine .quiet 6 rfl rfl rfl (by kernel_rfl) (by
            refine wo_field rfl Tryz.underlying114 rfl Tryz.sizeOf3 rfl rfl ?_
            exact wo_nil ⟨rfl, Ent.refl _⟩) ?_
          refine .quiet 7 rfl rfl rfl (by kernel_rfl) (by
            refine wo_load 0 rfl Tryz.isAgg3 rfl rfl rfl ?_
            exact wo_nil ⟨rfl, Ent.refl _⟩) ?_
          refine .quiet 8 rfl rfl rfl (by kernel_rfl) (by
            refine wo_index_str rfl Tryz.underlying9 rfl rfl (strGet (k := k + 1) hl2) ?_
            exact wo_nil ⟨rfl, Ent.refl _⟩) ?_
          refine .quiet 9 rfl rfl rfl (by kernel_rfl) (by
            refine wo_callp (digit_con _) rfl Tryz.call255 rfl ?_
            exact wo_nil ⟨rfl, Ent.refl _⟩) ?_
          refine wd_pures [10, 11, 12, 13, 14] (by kernel_rfl) rfl ?_
          refine .done (by kernel_rfl) ?_
          refine ws_seq ?_
          refine ws_region ?_
          refine wo_pures 2 rfl ?_
          refine wo_field rfl Tryz.underlying114 rfl Tryz.sizeOf3 rfl rfl ?_
          refine wo_load 0 rfl Tryz.isAgg3 rfl rfl rfl ?_
          refine wo_add rfl rfl rfl rfl (by omega) ?_
          refine wo_pures 1 rfl ?_
          refine wo_field rfl Tryz.underlying114 rfl Tryz.sizeOf3 rfl rfl ?_
          refine wo_store 0 rfl rfl rfl rfl Tryz.sizeOf3 rfl rfl rfl rfl ?_
          refine wo_nil ?_
          refine ws_seq ?_
          refine ws_region ?_
          refine wo_pures 1 rfl ?_
          refine wo_u8s (n := 4) rfl rfl rfl rfl rfl ?_
          refine wo_pures 1 rfl ?_
          refine wo_u8 rfl rfl rfl rfl ?_
          refine wo_pures 3 rfl ?_
          refine wo_nil ?_
          refine ws_ret ?_
          exact ⟨_, [_], ret2 rfl rfl rfl, ⟨(), by simp only [strokeF, h17, h36, h56, cond_true, cond_false] <;> rfl, rfl⟩, Ent.eq (by simp only [strokeF, h17, h36, h56, cond_true, cond_false] <;> rfl)⟩
theorem value_con (b : Nat) (s : Str) (k : Nat) (hs : s.length ≤ 1048576) (hk : k ≤ s.length) : ConX Tryz.prog 81 [.pointer (some ⟨b, 0, none⟩)] [cel b 114 [str s, int k]] (fun _ : Unit => .tuple #[str (valueOf s k).1.1, .bool (valueOf s k).1.2]) (fun _ => [cel b 114 [str s, int (valueOf s k).2]]) := by
  refine con_body Tryz.func81 rfl Tryz.ntmps81 rfl fun E fr => ?_
  refine ws_seq ?_
  refine ws_region ?_
  refine wo_pures 2 rfl ?_
  refine wo_nil ?_
  refine ws_seq ?_
  refine ws_region ?_
  refine wo_pures 1 rfl ?_
  refine wo_nil ?_
  refine ws_seq ?_
  refine ws_region ?_
  refine wo_pures 1 rfl ?_
  refine wo_nil ?_
  refine ws_seq ?_
  refine ws_block ?_
  refine ws_loopk (X := VSt) (fun x => [(4, x.v), (5, int x.e)]) (fun x => [cel b 114 [str s, int x.j], row (α := UInt8) 5 x.v x.bs]) (fun x => valueF s x.n x.j x.bs x.e = valueF s (s.length + 1 - k) k [] 0 ∧ s.length < x.j + x.n ∧ x.j ≤ s.length ∧ x.e ≤ x.bs.length ∧ x.bs.length ≤ x.j) (fun x => s.length - x.j) ⟨k, .slice none 0 0, [], 0, s.length + 1 - k⟩ [0] rfl fr ⟨rfl, by dsimp only; omega, hk, Nat.le_refl _, Nat.zero_le _⟩ (by repeat (first | exact .nil | refine .cons rfl ?_)) ((Ent.rowNil 5 _).trans (Ent.swap _ _ _)) fun x hok => ?_
  obtain ⟨o1, o2, o3, o4, o5⟩ := hok
  obtain ⟨m, hm⟩ : ∃ m, x.n = m + 1 := ⟨x.n - 1, by omega⟩
  rw [hm, valueF] at o1
  refine ws_seq ?_
  refine ws_seq ?_
  apply ws_toQ
  case h =>
    refine ws_draw mixed (by kernel_rfl) (by first | rfl | kernel_rfl) ?_
    refine wd_pures [0, 1, 4, 5] (by kernel_rfl) rfl ?_
    refine .quiet 2 rfl rfl rfl (by kernel_rfl) (by
      refine wo_field rfl Tryz.underlying114 rfl Tryz.sizeOf3 rfl rfl ?_
      exact wo_nil ⟨rfl, Ent.refl _⟩) ?_
    refine .quiet 3 rfl rfl rfl (by kernel_rfl) (by
      refine wo_load 0 rfl Tryz.isAgg3 rfl rfl rfl ?_
      exact wo_nil ⟨rfl, Ent.refl _⟩) ?_
    refine .quiet 6 rfl rfl rfl (by kernel_rfl) (by
      refine wo_field rfl Tryz.underlying114 rfl Tryz.sizeOf9 rfl rfl ?_
      exact wo_nil ⟨rfl, Ent.refl _⟩) ?_
    refine .quiet 7 rfl rfl rfl (by kernel_rfl) (by
      refine wo_load 0 rfl Tryz.isAgg9 rfl rfl rfl ?_
      exact wo_nil ⟨rfl, Ent.refl _⟩) ?_
    refine .quiet 8 rfl rfl rfl (by kernel_rfl) (by
      refine wo_len_str rfl Tryz.underlying9 rfl ?_
      exact wo_nil ⟨rfl, Ent.refl _⟩) ?_
    refine wd_pures [9, 10] (by kernel_rfl) rfl ?_
    refine wd_bool 19 rfl (fun hp19 => ?_) (fun hp19 => ?_)
    · skip
      refine wd_pures [11] (by kernel_rfl) rfl ?_
      refine .quiet 12 rfl rfl rfl (by kernel_rfl) (by
        refine wo_callk (textIs_con _ _ _ 44) rfl Tryz.call78 rfl (.cons 0 rfl (.refl _)) (.cons 0 rfl (.cons 0 rfl (.refl _))) ?_
        exact wo_nil ⟨rfl, Ent.refl _⟩) ?_
      refine wd_pures [13, 14] (by kernel_rfl) rfl ?_
      refine .done (by kernel_rfl) ?_
      exact ⟨rfl, (.cons (t := 23) (congrArg (fun b => some (Value.bool b)) (and_t hp19)) (Env.Sub.fresh 16 rfl rfl)), Ent.refl _⟩
    · skip
      refine wd_pures [11, 12, 13, 14] (by kernel_rfl) rfl ?_
      refine .done (by kernel_rfl) ?_
      exact ⟨rfl, (.cons (t := 23) (congrArg (fun b => some (Value.bool b)) (and_f _ hp19)) (Env.Sub.fresh 16 rfl rfl)), Ent.refl _⟩
  case k =>
    skip
    refine ws_cond rfl (fun h23 => ?_) (fun h23 => ?_)
    · skip
      have hl : x.j < s.length := by simp only [Bool.and_eq_true] at h23; exact lt_of_dec h23.1
      rw [h23, cond_true] at o1
      refine ws_skip ?_
      refine ws_block ?_
      refine ws_seq ?_
      refine ws_draw mixed (by kernel_rfl) (by first | rfl | kernel_rfl) ?_
      refine wd_pures [0, 1, 4, 5] (by kernel_rfl) rfl ?_
      refine .quiet 2 rfl rfl rfl (by kernel_rfl) (by
        refine wo_field rfl Tryz.underlying114 rfl Tryz.sizeOf9 rfl rfl ?_
        exact wo_nil ⟨rfl, Ent.refl _⟩) ?_
      refine .quiet 3 rfl rfl rfl (by kernel_rfl) (by
        refine wo_load 0 rfl Tryz.isAgg9 rfl rfl rfl ?_
        exact wo_nil ⟨rfl, Ent.refl _⟩) ?_
      refine .quiet 6 rfl rfl rfl (by kernel_rfl) (by
        refine wo_field rfl Tryz.underlying114 rfl Tryz.sizeOf3 rfl rfl ?_
        exact wo_nil ⟨rfl, Ent.refl _⟩) ?_
      refine .quiet 7 rfl rfl rfl (by kernel_rfl) (by
        refine wo_load 0 rfl Tryz.isAgg3 rfl rfl rfl ?_
        exact wo_nil ⟨rfl, Ent.refl _⟩) ?_
      refine .quiet 8 rfl rfl rfl (by kernel_rfl) (by
        refine wo_index_str rfl Tryz.underlying9 rfl rfl (strGet hl) ?_
        exact wo_nil ⟨rfl, Ent.refl _⟩) ?_
      refine wd_pures [9] (by kernel_rfl) rfl ?_
      refine .done (by kernel_rfl) ?_
      refine ws_seq ?_
      refine ws_region ?_
      refine wo_pures 2 rfl ?_
      refine wo_field rfl Tryz.underlying114 rfl Tryz.sizeOf3 rfl rfl ?_
      refine wo_load 0 rfl Tryz.isAgg3 rfl rfl rfl ?_
      refine wo_add rfl rfl rfl rfl (by omega) ?_
      refine wo_pures 1 rfl ?_
      refine wo_field rfl Tryz.underlying114 rfl Tryz.sizeOf3 rfl rfl ?_
      refine wo_store 0 rfl rfl rfl rfl Tryz.sizeOf3 rfl rfl rfl rfl ?_
      refine wo_nil ?_
      refine ws_block ?_
      refine ws_seq ?_
      refine ws_region ?_
      refine wo_pures 3 rfl ?_
      refine wo_nil ?_
      refine ws_cond rfl (fun h46 => ?_) (fun h46 => ?_)
      · skip
        rw [h46, cond_true] at o1
        refine ws_seq ?_
        refine ws_region ?_
        refine wo_pures 1 rfl ?_
        refine wo_callx (stroke_con _ _ (x.j + 1) (by omega) (by omega)) rfl Tryz.call162 rfl (.cons 0 rfl (.refl _)) fun _ => ?_
        refine wo_pures 5 rfl ?_
        refine wo_nil ?_
        refine ws_seq ?_
        refine ws_seq ?_
        refine ws_region ?_
        refine wo_pures 2 rfl ?_
        refine wo_nil ?_
        refine ws_cond rfl (fun h55 => ?_) (fun h55 => ?_)
        · skip
          have h55 : (strokeF s (x.j + 1)).1.2 = false := by simpa using h55
          rw [h55, cond_false] at o1
          refine ws_seq ?_
          refine ws_region ?_
          refine wo_pures 2 rfl ?_
          refine wo_nil ?_
          refine ws_ret ?_
          have hv : valueOf s k = _ := o1.symm
          exact ⟨_, [_], ret2 rfl rfl rfl, ⟨(), by rw [hv], rfl⟩, (by rw [hv]; exact .cons 0 rfl (Ent.dropN 1 rfl))⟩
        · skip
          have h55 : (strokeF s (x.j + 1)).1.2 = true := by simpa using h55
          rw [h55, cond_true] at o1
          have hle := strokeF_le (s := s) (k := x.j + 1) (by omega)
          refine ws_skip ?_
          refine ws_seq ?_
          refine ws_region ?_
          refine wo_pures 2 rfl ?_
          refine wo_buildSlice [(strokeF s (x.j + 1)).1.1] elt_22 rfl rfl rfl rfl rfl rfl rfl (fun _ _ _ => flats rfl) fun v1 => ?_
          refine wo_append_row elt_22 rfl rfl rfl (room_of (k := 1) rfl (by first | omega | (simp only [List.length_append, List.length_cons, List.length_nil]; omega))) (.cons 2 rfl (.cons 0 rfl (.refl _))) fun v2 => ?_
          refine wo_pures 1 rfl ?_
          refine wo_nil ?_
          refine ws_region ?_
          refine wo_pures 1 rfl ?_
          refine wo_len_row 0 rfl Tryz.underlying22 rfl rfl fun hl3 => ?_
          refine wo_pures 1 rfl ?_
          refine wo_nil ?_
          exact ⟨⟨(strokeF s (x.j + 1)).2, v2, x.bs ++ [(strokeF s (x.j + 1)).1.1], (x.bs ++ [(strokeF s (x.j + 1)).1.1]).length, m⟩, ⟨o1, by dsimp only; omega, by dsimp only; omega, Nat.le_refl _, by dsimp only; simp only [List.length_append, List.length_cons, List.length_nil]; omega⟩, (by first | omega | (dsimp only; omega)), (by repeat (first | exact .nil | refine .cons rfl ?_)), (by repeat (first | exact .nil | refine .cons rfl ?_)), (.cons 1 rfl (.cons 0 rfl (.refl _)))⟩
      · skip
        rw [h46, cond_false] at o1
        refine ws_seq ?_
        refine ws_region ?_
        refine wo_pures 1 rfl ?_
        refine wo_callp (indexByte_con specialS _) rfl Tryz.call163 rfl ?_
        refine wo_pures 2 rfl ?_
        refine wo_nil ?_
        refine ws_cond rfl (fun h62 => ?_) (fun h62 => ?_)
        · skip
          rw [h62, cond_true] at o1
          refine ws_seq ?_
          refine ws_region ?_
          refine wo_pures 2 rfl ?_
          refine wo_nil ?_
          refine ws_ret ?_
          have hv : valueOf s k = _ := o1.symm
          exact ⟨_, [_], ret2 rfl rfl rfl, ⟨(), by rw [hv], rfl⟩, (by rw [hv]; exact .cons 0 rfl (Ent.dropN 1 rfl))⟩
        · skip
          rw [h62, cond_false] at o1
          refine ws_seq ?_
          refine ws_region ?_
          refine wo_pures 3 rfl ?_
          refine wo_nil ?_
          refine ws_cond rfl (fun h66 => ?_) (fun h66 => ?_)
          · skip
            rw [h66, cond_true] at o1
            refine ws_region ?_
            refine wo_pures 2 rfl ?_
            refine wo_buildSlice [s.getD x.j 0] elt_22 rfl rfl rfl rfl rfl rfl rfl (fun _ _ _ => flats rfl) fun v4 => ?_
            refine wo_append_row elt_22 rfl rfl rfl (room_of (k := 1) rfl (by first | omega | (simp only [List.length_append, List.length_cons, List.length_nil]; omega))) (.cons 2 rfl (.cons 0 rfl (.refl _))) fun v5 => ?_
            refine wo_pures 1 rfl ?_
            refine wo_nil ?_
            exact ⟨⟨x.j + 1, v5, x.bs ++ [s.getD x.j 0], x.e, m⟩, ⟨o1, by dsimp only; omega, by dsimp only; omega, by dsimp only; rw [List.length_append]; omega, by dsimp only; simp only [List.length_append, List.length_cons, List.length_nil]; omega⟩, (by first | omega | (dsimp only; omega)), (by repeat (first | exact .nil | refine .cons rfl ?_)), (by repeat (first | exact .nil | refine .cons rfl ?_)), (.cons 1 rfl (.cons 0 rfl (.refl _)))⟩
          · skip
            rw [h66, cond_false] at o1
            refine ws_seq ?_
            refine ws_region ?_
            refine wo_pures 2 rfl ?_
            refine wo_buildSlice [s.getD x.j 0] elt_22 rfl rfl rfl rfl rfl rfl rfl (fun _ _ _ => flats rfl) fun v6 => ?_
            refine wo_append_row elt_22 rfl rfl rfl (room_of (k := 1) rfl (by first | omega | (simp only [List.length_append, List.length_cons, List.length_nil]; omega))) (.cons 2 rfl (.cons 0 rfl (.refl _))) fun v7 => ?_
            refine wo_pures 1 rfl ?_
            refine wo_nil ?_
            refine ws_region ?_
            refine wo_pures 1 rfl ?_
            refine wo_len_row 0 rfl Tryz.underlying22 rfl rfl fun hl8 => ?_
            refine wo_pures 1 rfl ?_
            refine wo_nil ?_
            exact ⟨⟨x.j + 1, v7, x.bs ++ [s.getD x.j 0], (x.bs ++ [s.getD x.j 0]).length, m⟩, ⟨o1, by dsimp only; omega, by dsimp only; omega, Nat.le_refl _, by dsimp only; simp only [List.length_append, List.length_cons, List.length_nil]; omega⟩, (by first | omega | (dsimp only; omega)), (by repeat (first | exact .nil | refine .cons rfl ?_)), (by repeat (first | exact .nil | refine .cons rfl ?_)), (.cons 1 rfl (.cons 0 rfl (.refl _)))⟩
    · skip
      rw [h23, cond_false] at o1
      refine ws_exit ?_
      refine ws_seq ?_
      refine ws_region ?_
      refine wo_pures 2 rfl ?_
      refine WO.ent (Ent.rowDatI 1 rfl) ?_
      refine wo_slice_dat (i := 0) (j := x.e) 0 rfl Tryz.underlying22 Tryz.sizeOf5 rfl rfl rfl rfl (by omega) o4 ?_
      refine WO.ent (Ent.datSub 0 0 x.e rfl (by omega) o4) ?_
      refine wo_bytes_str 0 rfl Tryz.underlying22 Tryz.underlying5 Tryz.underlying9 rfl rfl ?_
      refine wo_pures 4 rfl ?_
      refine wo_nil ?_
      refine ws_ret ?_
      have hv : valueOf s k = _ := o1.symm
      exact ⟨_, [_], ret2 rfl rfl rfl, ⟨(), by rw [hv]; simp, rfl⟩, (by rw [hv]; exact .cons 2 rfl (Ent.dropN 2 rfl))⟩
end Go.Proofs
