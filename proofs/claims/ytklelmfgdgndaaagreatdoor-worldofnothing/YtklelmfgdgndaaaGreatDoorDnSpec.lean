/- Names: what the functions of package dn compute. -/
import Derived.Test.YtklelmfgdgndaaaGreatDoorSepL
namespace Burg
open Go Go.Sep
abbrev B47 : Nat := 1048576
def letterB (c : UInt8) : Bool := (decide ((c.toNat : Int) ≥ 97) && decide ((c.toNat : Int) ≤ 122)) || (decide ((c.toNat : Int) ≥ 65) && decide ((c.toNat : Int) ≤ 90))
def digitB (c : UInt8) : Bool := decide ((c.toNat : Int) ≥ 48) && decide ((c.toNat : Int) ≤ 57)
def tcharB (c : UInt8) : Bool := letterB c || digitB c || decide ((c.toNat : Int) = 45)
def typeB (s : Str) : Bool := !(decide (s = []) || decide ((s.length : Int) > 32) || !letterB (s.headD 0)) && s.all tcharB
theorem head_get {s : Str} (h : s ≠ []) : s[0]? = some (s.headD 0) := by cases s <;> simp_all
theorem typeB_no1 {s : Str} (h : (decide (s = []) || decide ((s.length : Int) > 32) || !letterB (s.headD 0)) = true) : typeB s = false := by unfold typeB; rw [h]; rfl
theorem typeB_yes {s : Str} (h : (decide (s = []) || decide ((s.length : Int) > 32) || !letterB (s.headD 0)) = false) (k : s.all tcharB = true) : typeB s = true := by unfold typeB; rw [h, k]; rfl
theorem typeB_no2 {s : Str} {k : Nat} {c : UInt8} (hc : s[k]? = some c) (h : (!letterB c && !digitB c && !decide ((c.toNat : Int) = 45)) = true) : typeB s = false := by
  have h1 : tcharB c = false := by unfold tcharB; revert h; cases letterB c <;> cases digitB c <;> simp
  have h2 : s.all tcharB = false := by
    rw [List.all_eq_false]; exact ⟨c, List.mem_of_getElem? hc, by simp [h1]⟩
  unfold typeB; rw [h2]; simp
theorem all_succ {s : Str} {k : Nat} {c : UInt8} (hc : s[k]? = some c) (h0 : (s.take k).all tcharB = true) (h : (!letterB c && !digitB c && !decide ((c.toNat : Int) = 45)) = false) : (s.take (k + 1)).all tcharB = true := by
  have h1 : tcharB c = true := by unfold tcharB; revert h; cases letterB c <;> cases digitB c <;> simp
  rw [List.take_add_one, hc]; simp only [List.all_append, h0, Option.toList_some, List.all_cons, h1]; rfl
/-- The byte c is next. -/
def nextB (s : Str) (k : Nat) (c : UInt8) : Bool := decide ((k : Int) < (s.length : Int)) && decide (((s.getD k 0).toNat : Int) = (c.toNat : Int))
def nextK (s : Str) (k : Nat) (c : UInt8) : Nat := cond (nextB s k c) (k + 1) k
theorem nextB_lt {s : Str} {k : Nat} {c : UInt8} (h : nextB s k c = true) : k < s.length := by
  simp only [nextB, Bool.and_eq_true, decide_eq_true_eq] at h; omega
/-- Where the bytes that p takes end. -/
def skipF (p : UInt8 → Bool) (s : Str) (k : Nat) : Nat := k + ((s.drop k).takeWhile p).length
theorem skipF_go {p : UInt8 → Bool} {s : Str} {k : Nat} {c : UInt8} (h : s[k]? = some c) (hp : p c = true) : skipF p s (k + 1) = skipF p s k := by
  obtain ⟨hlt, hc⟩ := List.getElem?_eq_some_iff.1 h
  have : s.drop k = c :: s.drop (k + 1) := by rw [← hc]; exact List.drop_eq_getElem_cons hlt
  unfold skipF
  rw [this, List.takeWhile_cons, if_pos hp]; simp; omega
theorem skipF_stop {p : UInt8 → Bool} {s : Str} {k : Nat} {c : UInt8} (h : s[k]? = some c) (hp : p c = false) : skipF p s k = k := by
  obtain ⟨hlt, hc⟩ := List.getElem?_eq_some_iff.1 h
  have : s.drop k = c :: s.drop (k + 1) := by rw [← hc]; exact List.drop_eq_getElem_cons hlt
  unfold skipF
  rw [this, List.takeWhile_cons, if_neg (by simp [hp])]; rfl
theorem skipF_end {p : UInt8 → Bool} {s : Str} {k : Nat} (h : s.length ≤ k) : skipF p s k = k := by unfold skipF; rw [List.drop_eq_nil_of_le h]; rfl
theorem skipF_le {p : UInt8 → Bool} {s : Str} {k : Nat} (h : k ≤ s.length) : k ≤ skipF p s k ∧ skipF p s k ≤ s.length := by
  unfold skipF
  have := (List.takeWhile_prefix (l := s.drop k) p).length_le
  rw [List.length_drop] at this
  omega
def blank (c : UInt8) : Bool := decide ((c.toNat : Int) = 32)
def blanksF (s : Str) (k : Nat) : Nat := skipF blank s k
def kindF (s : Str) (k : Nat) : Nat := skipF tcharB s k
def kindT (s : Str) (k : Nat) : Str := (s.drop k).take (kindF s k - k)
theorem nextB_blank {s : Str} {k : Nat} (h : nextB s k 32 = true) : blanksF s (k + 1) = blanksF s k := by
  have hl := nextB_lt h
  simp only [nextB, Bool.and_eq_true, decide_eq_true_eq] at h
  exact skipF_go (strGet hl) (by simpa [blank] using h.2)
theorem nextB_noblank {s : Str} {k : Nat} (h : nextB s k 32 = false) : blanksF s k = k := by
  by_cases hl : k < s.length
  · refine skipF_stop (strGet hl) ?_
    have h1 : decide ((k : Int) < (s.length : Int)) = true := by simpa using hl
    rw [nextB, h1, Bool.true_and] at h
    exact h
  · exact skipF_end (by omega)
/-- A byte of a type is next. -/
def kindB (s : Str) (k : Nat) : Bool := decide ((k : Int) < (s.length : Int)) && tcharB (s.getD k 0)
theorem kindB_go {s : Str} {k : Nat} (h : kindB s k = true) : k < s.length ∧ kindF s (k + 1) = kindF s k := by
  simp only [kindB, Bool.and_eq_true, decide_eq_true_eq] at h
  have hl : k < s.length := by omega
  exact ⟨hl, skipF_go (strGet hl) h.2⟩
theorem kindB_stop {s : Str} {k : Nat} (h : kindB s k = false) : kindF s k = k := by
  by_cases hl : k < s.length
  · refine skipF_stop (strGet hl) ?_
    have h1 : decide ((k : Int) < (s.length : Int)) = true := by simpa using hl
    rw [kindB, h1, Bool.true_and] at h
    exact h
  · exact skipF_end (by omega)
/-- A digit of sixteen. -/
def digitF (c : UInt8) : UInt8 × Bool :=
  cond (digitB c) (c - 48, true) (cond (decide ((c.toNat : Int) ≥ 97) && decide ((c.toNat : Int) ≤ 102)) (c - 97 + 10, true)
    (cond (decide ((c.toNat : Int) ≥ 65) && decide ((c.toNat : Int) ≤ 70)) (c - 65 + 10, true) (0, false)))
def specialS : Str := [44, 43, 34, 92, 60, 62, 59]
def strokesS : Str := [44, 43, 34, 92, 60, 62, 59, 35, 61, 32]
/-- What stands behind a stroke. -/
def strokeF (s : Str) (k : Nat) : (UInt8 × Bool) × Nat :=
  cond (decide ((k : Int) = (s.length : Int))) ((0, false), k) <|
  cond (decide (Lib.indexByte strokesS (s.getD k 0) ≥ 0)) ((s.getD k 0, true), k + 1) <|
  cond (!(digitF (s.getD k 0)).2 || decide ((k : Int) + 1 = (s.length : Int))) ((0, false), k + 1) <|
  ((byteI ((digitF (s.getD k 0)).1.toNat * 2 ^ 4) ||| (digitF (s.getD (k + 1) 0)).1, (digitF (s.getD (k + 1) 0)).2), k + 2)
theorem strokeF_le {s : Str} {k : Nat} (h : k ≤ s.length) : k ≤ (strokeF s k).2 ∧ (strokeF s k).2 ≤ s.length := by
  unfold strokeF
  cases h1 : decide ((k : Int) = (s.length : Int)) with
  | true => exact ⟨Nat.le_refl _, h⟩
  | false =>
    have h2 := of_decide_eq_false h1
    cases h3 : decide (Lib.indexByte strokesS (s.getD k 0) ≥ 0) with
    | true => simp only [cond_true, cond_false]; omega
    | false =>
      cases h4 : (!(digitF (s.getD k 0)).2 || decide ((k : Int) + 1 = (s.length : Int))) with
      | true => simp only [cond_true, cond_false]; omega
      | false =>
        simp only [Bool.or_eq_false_iff] at h4
        have h5 := of_decide_eq_false h4.2
        simp only [cond_false]; omega
/-- A value. -/
def valueF (s : Str) : Nat → Nat → Str → Nat → (Str × Bool) × Nat
  | 0, k, _, _ => (([], false), k)
  | n + 1, k, b, e => cond (decide ((k : Int) < (s.length : Int)) && !nextB s k 44)
      (cond (decide (((s.getD k 0).toNat : Int) = 92))
        (cond (strokeF s (k + 1)).1.2 (valueF s n (strokeF s (k + 1)).2 (b ++ [(strokeF s (k + 1)).1.1]) (b ++ [(strokeF s (k + 1)).1.1]).length) (([], false), (strokeF s (k + 1)).2))
        (cond (decide (Lib.indexByte specialS (s.getD k 0) ≥ 0)) (([], false), k + 1)
          (cond (decide (((s.getD k 0).toNat : Int) = 32)) (valueF s n (k + 1) (b ++ [s.getD k 0]) e) (valueF s n (k + 1) (b ++ [s.getD k 0]) (b ++ [s.getD k 0]).length))))
      ((b.take e, decide ((e : Int) > 0)), k)
structure VSt where
  j : Nat
  v : Value
  bs : Str
  e : Nat
  n : Nat
def valueOf (s : Str) (k : Nat) : (Str × Bool) × Nat := valueF s (s.length + 1 - k) k [] 0
structure Ava where
  ty : Str
  val : Str
instance : Flat Ava := .mk' 1 31 (fun a => [str a.ty, str a.val]) (fun _ => rfl) (fun _ u h => by simp at h; rcases h with rfl | rfl <;> rfl)
theorem valueF_le {s : Str} : ∀ {n k : Nat} {b : Str} {e : Nat}, k ≤ s.length → k ≤ (valueF s n k b e).2 ∧ (valueF s n k b e).2 ≤ s.length
  | 0, _, _, _, h => ⟨Nat.le_refl _, h⟩
  | n + 1, k, b, e, h => by
    rw [valueF]
    cases h1 : (decide ((k : Int) < (s.length : Int)) && !nextB s k 44) with
    | false => exact ⟨Nat.le_refl _, h⟩
    | true =>
      simp only [Bool.and_eq_true] at h1
      have hl := lt_of_dec h1.1
      have hk := strokeF_le (s := s) (k := k + 1) hl
      simp only [cond_true]
      cases decide (((s.getD k 0).toNat : Int) = 92) with
      | true =>
        simp only [cond_true]
        cases (strokeF s (k + 1)).1.2 with
        | true => have := valueF_le (n := n) (b := b ++ [(strokeF s (k + 1)).1.1]) (e := (b ++ [(strokeF s (k + 1)).1.1]).length) hk.2; simp only [cond_true]; omega
        | false => simp only [cond_false]; omega
      | false =>
        simp only [cond_false]
        cases decide (Lib.indexByte specialS (s.getD k 0) ≥ 0) with
        | true => simp only [cond_true]; omega
        | false =>
          simp only [cond_false]
          cases decide (((s.getD k 0).toNat : Int) = 32) with
          | true => have := valueF_le (s := s) (n := n) (k := k + 1) (b := b ++ [s.getD k 0]) (e := e) hl; simp only [cond_true]; omega
          | false => have := valueF_le (s := s) (n := n) (k := k + 1) (b := b ++ [s.getD k 0]) (e := (b ++ [s.getD k 0]).length) hl; simp only [cond_false]; omega
theorem valueOf_le {s : Str} {k : Nat} (h : k ≤ s.length) : k ≤ (valueOf s k).2 ∧ (valueOf s k).2 ≤ s.length := valueF_le h
theorem nextK_le {s : Str} {k : Nat} {c : UInt8} (h : k ≤ s.length) : k ≤ nextK s k c ∧ nextK s k c ≤ s.length := by
  unfold nextK
  cases h1 : nextB s k c with
  | true => have := nextB_lt h1; simp only [cond_true]; omega
  | false => exact ⟨Nat.le_refl _, h⟩
/-- A part of a name. -/
def partF (s : Str) (k : Nat) : (Ava × Bool) × Nat :=
  cond (typeB (kindT s (blanksF s k)))
    (cond (nextB s (blanksF s (kindF s (blanksF s k))) 61)
      ((⟨kindT s (blanksF s k), (valueOf s (blanksF s (nextK s (blanksF s (kindF s (blanksF s k))) 61))).1.1⟩, (valueOf s (blanksF s (nextK s (blanksF s (kindF s (blanksF s k))) 61))).1.2), (valueOf s (blanksF s (nextK s (blanksF s (kindF s (blanksF s k))) 61))).2)
      ((⟨kindT s (blanksF s k), []⟩, false), nextK s (blanksF s (kindF s (blanksF s k))) 61))
    ((⟨kindT s (blanksF s k), []⟩, false), kindF s (blanksF s k))
theorem partF_le {s : Str} {k : Nat} (h : k ≤ s.length) : (partF s k).2 ≤ s.length ∧ ((partF s k).1.2 = true → k < (partF s k).2) := by
  have h1 := skipF_le (p := blank) h
  have h2 := skipF_le (p := tcharB) h1.2
  have h3 := skipF_le (p := blank) h2.2
  have h4 := nextK_le (c := 61) h3.2
  have h5 := skipF_le (p := blank) h4.2
  have h6 := valueOf_le h5.2
  have e1 : skipF blank s k = blanksF s k := rfl
  have e2 : skipF tcharB s (blanksF s k) = kindF s (blanksF s k) := rfl
  have e3 : skipF blank s (kindF s (blanksF s k)) = blanksF s (kindF s (blanksF s k)) := rfl
  have e4 : skipF blank s (nextK s (blanksF s (kindF s (blanksF s k))) 61) = blanksF s (nextK s (blanksF s (kindF s (blanksF s k))) 61) := rfl
  rw [e1] at h1 h2 h3 h4 h5 h6
  rw [e2] at h2 h3 h4 h5 h6
  rw [e3] at h3 h4 h5 h6
  rw [e4] at h5 h6
  unfold partF
  cases ht : typeB (kindT s (blanksF s k)) with
  | false => exact ⟨h2.2, fun c => by cases c⟩
  | true =>
    cases hn : nextB s (blanksF s (kindF s (blanksF s k))) 61 with
    | false => exact ⟨h4.2, fun c => by cases c⟩
    | true =>
      refine ⟨h6.2, fun _ => ?_⟩
      have : nextK s (blanksF s (kindF s (blanksF s k))) 61 = blanksF s (kindF s (blanksF s k)) + 1 := by rw [nextK, hn]; rfl
      simp only [cond_true]
      omega
/-- A part that may not be. -/
def badAva (a : Ava) : Bool := !typeB a.ty || decide (a.val = []) || decide ((a.val.length : Int) > 64)
def nameOk (n : List Ava) : Bool := decide ((n.length : Int) ≤ 12) && !n.any badAva
def findF {α : Type} (p : α → Bool) (xs : List α) : Int := match xs.findIdx? p with | some i => (i : Int) | none => -1
theorem findF_at {α : Type} {p : α → Bool} {xs : List α} {k : Nat} {x : α} (h : (xs.take k).all (fun y => !p y) = true) (hx : xs[k]? = some x) (hp : p x = true) : findF p xs = (k : Int) := by
  have : xs.findIdx? p = some k := by
    obtain ⟨hlt, hxx⟩ := List.getElem?_eq_some_iff.1 hx
    rw [List.findIdx?_eq_some_iff_getElem]
    refine ⟨hlt, by rw [hxx]; exact hp, fun j hj => ?_⟩
    have h2 := List.all_eq_true.1 h xs[j] (List.mem_iff_getElem.2 ⟨j, by rw [List.length_take]; omega, by simp⟩)
    simpa using h2
  rw [findF, this]
theorem findF_none {α : Type} {p : α → Bool} {xs : List α} (h : xs.all (fun y => !p y) = true) : findF p xs = -1 := by
  have : xs.findIdx? p = none := by
    rw [List.findIdx?_eq_none_iff]
    intro x hx
    have := List.all_eq_true.1 h x hx
    simpa using this
  rw [findF, this]
theorem findF_any {α : Type} {p : α → Bool} {xs : List α} : decide (findF p xs ≥ 0) = xs.any p := by
  unfold findF
  cases h : xs.findIdx? p with
  | some i =>
    have : xs.any p = true := by
      rw [List.findIdx?_eq_some_iff_getElem] at h
      obtain ⟨hlt, hp, _⟩ := h
      exact List.any_eq_true.2 ⟨_, List.getElem_mem hlt, hp⟩
    rw [this]; simp
  | none =>
    rw [List.findIdx?_eq_none_iff] at h
    have : xs.any p = false := by
      rw [List.any_eq_false]; intro x hx; have := h x hx; simp [this]
    rw [this]; rfl
theorem all_take_succ {α : Type} {p : α → Bool} {xs : List α} {k : Nat} {x : α} (h : (xs.take k).all p = true) (hx : xs[k]? = some x) (hp : p x = true) : (xs.take (k + 1)).all p = true := by
  rw [List.take_add_one, hx, List.all_append, h]; simp [hp]
/-- A text as a name. -/
def parseL (s : Str) : Nat → Nat → List Ava → Bool → List Ava × Int
  | 0, _, _, _ => ([], 0)
  | n + 1, k, acc, more => cond more
      (cond (partF s k).1.2 (parseL s n (nextK s (partF s k).2 44) (acc ++ [(partF s k).1.1]) (nextB s (partF s k).2 44)) ([], 3))
      (cond (nameOk acc) (acc, 0) ([], 5))
def parseF (s : Str) : List Ava × Int := cond (decide (s = [])) ([], 0) (parseL s (s.length + 2) 0 [] true)
structure PSt where
  j : Nat
  v : Value
  l : List Ava
  m : Bool
  n : Nat
theorem strokeF_lt {s : Str} {k : Nat} (h : (strokeF s k).1.2 = true) : k < (strokeF s k).2 := by
  unfold strokeF at h ⊢
  cases h1 : decide ((k : Int) = (s.length : Int)) with
  | true => rw [h1] at h; cases h
  | false =>
    rw [h1] at h
    simp only [cond_false] at h ⊢
    cases h3 : decide (Lib.indexByte strokesS (s.getD k 0) ≥ 0) with
    | true => simp only [cond_true]; omega
    | false =>
      rw [h3] at h
      simp only [cond_false] at h ⊢
      cases h4 : (!(digitF (s.getD k 0)).2 || decide ((k : Int) + 1 = (s.length : Int))) with
      | true => rw [h4] at h; cases h
      | false => simp only [cond_false]; omega
theorem valueF_len {s : Str} : ∀ {n k : Nat} {b : Str} {e : Nat}, k ≤ s.length → b.length ≤ k → (valueF s n k b e).1.1.length ≤ s.length
  | 0, _, _, _, _, _ => Nat.zero_le _
  | n + 1, k, b, e, h, hb => by
    rw [valueF]
    cases h1 : (decide ((k : Int) < (s.length : Int)) && !nextB s k 44) with
    | false => simp only [cond_false, List.length_take]; omega
    | true =>
      simp only [Bool.and_eq_true] at h1
      have hl := lt_of_dec h1.1
      have hk := strokeF_le (s := s) (k := k + 1) hl
      simp only [cond_true]
      cases decide (((s.getD k 0).toNat : Int) = 92) with
      | true =>
        simp only [cond_true]
        cases hst : (strokeF s (k + 1)).1.2 with
        | true =>
          have hlt := strokeF_lt hst
          exact valueF_len hk.2 (by rw [List.length_append]; simp only [List.length_cons, List.length_nil]; omega)
        | false => exact Nat.zero_le _
      | false =>
        simp only [cond_false]
        cases decide (Lib.indexByte specialS (s.getD k 0) ≥ 0) with
        | true => exact Nat.zero_le _
        | false =>
          simp only [cond_false]
          cases decide (((s.getD k 0).toNat : Int) = 32) with
          | true => exact valueF_len hl (by rw [List.length_append]; simp only [List.length_cons, List.length_nil]; omega)
          | false => exact valueF_len hl (by rw [List.length_append]; simp only [List.length_cons, List.length_nil]; omega)
theorem kindT_len {s : Str} {k : Nat} : (kindT s k).length ≤ s.length := by unfold kindT; rw [List.length_take, List.length_drop]; omega
theorem partF_len {s : Str} {k : Nat} : (partF s k).1.1.ty.length ≤ s.length ∧ (partF s k).1.1.val.length ≤ s.length := by
  unfold partF
  cases typeB (kindT s (blanksF s k)) with
  | false => exact ⟨kindT_len, Nat.zero_le _⟩
  | true =>
    cases nextB s (blanksF s (kindF s (blanksF s k))) 61 with
    | false => exact ⟨kindT_len, Nat.zero_le _⟩
    | true =>
      refine ⟨kindT_len, ?_⟩
      simp only [cond_true]
      unfold valueOf
      generalize blanksF s (nextK s (blanksF s (kindF s (blanksF s k))) 61) = q
      by_cases hq : q ≤ s.length
      · exact valueF_len hq (Nat.zero_le _)
      · have : s.length + 1 - q = 0 := by omega
        rw [this]; exact Nat.zero_le _
theorem parseF_ne {s : Str} (h : decide (s = []) = false) : parseF s = parseL s (s.length + 2) 0 [] true := by rw [parseF, h]; rfl
theorem parseL_len {s : Str} : ∀ {n k : Nat} {acc : List Ava} {more : Bool}, (∀ a ∈ acc, a.ty.length ≤ s.length ∧ a.val.length ≤ s.length) → ∀ a ∈ (parseL s n k acc more).1, a.ty.length ≤ s.length ∧ a.val.length ≤ s.length
  | 0, _, _, _, _ => fun a ha => by simp [parseL] at ha
  | n + 1, k, acc, more, h => by
    rw [parseL]
    cases more with
    | true =>
      simp only [cond_true]
      cases (partF s k).1.2 with
      | true => exact parseL_len fun a ha => (List.mem_append.1 ha).elim (h a) (fun hb => by rw [List.mem_singleton.1 hb]; exact partF_len)
      | false => intro a ha; simp at ha
    | false =>
      simp only [cond_false]
      cases nameOk acc with
      | true => exact h
      | false => intro a ha; simp at ha
theorem parseF_len {s : Str} (hs : s.length ≤ 1048576) : ∀ a ∈ (parseF s).1, a.ty.length ≤ 1048576 ∧ a.val.length ≤ 1048576 := by
  unfold parseF
  cases decide (s = []) with
  | true => intro a ha; simp at ha
  | false =>
    intro a ha
    have := parseL_len (s := s) (fun _ h => by cases h) a ha
    omega
structure Sv where
  s : Nat
  k : Nat
  t : Nat
  v : Value
structure Wd where
  w : Nat
  d : Nat
  m : Nat
  s : Nat
  k : Nat
  t : Nat
  v : Value
theorem cfg1 : (parseF [111, 61, 120]).2 = 0 := by decide
theorem cfg2 : (parseF [99, 110, 61, 114, 111, 111, 116, 44, 111, 61, 120]).2 = 0 := by decide
theorem cfg3 : (nameOk (parseF [111, 61, 120]).1 && decide (((parseF [111, 61, 120]).1.length : Int) > 0)) = true := by decide
theorem cfg4 : (parseF [99, 110, 61, 114, 111, 111, 116, 44, 111, 61, 120]).1.length = 2 := by decide
theorem valueF_pos {s : Str} {k : Nat} (h : k ≤ s.length) : True := trivial
theorem nameOk_len {xs : List Ava} {b : Bool} (h : (nameOk xs && b) = true) : xs.length ≤ 12 := by
  simp only [nameOk, Bool.and_eq_true, decide_eq_true_eq] at h
  omega
end Burg
