/- Separation logic over the model's worlds: chunks of memory, what a state holds, and the rules of the walk. -/
import Derived.Maps.AppendAt
import Derived.Laws.BytesArg
import Derived.Laws.MakeOwn
import Derived.Tactics2
namespace Go.Sep

/-! ### 1. Pieces of memory -/
abbrev Frag := Nat → Option Obj
def Frag.In (f : Frag) (w : World) : Prop := ∀ b o, f b = some o → w.heap[b]? = some o
def Frag.Le (f g : Frag) : Prop := ∀ b o, f b = some o → g b = some o
def Frag.Dj (f g : Frag) : Prop := ∀ b, f b = none ∨ g b = none
def Frag.emp : Frag := fun _ => none
def Frag.one (b : Nat) (o : Obj) : Frag := fun k => if k = b then some o else none
def Frag.cup (f g : Frag) : Frag := fun k => match f k with | some o => some o | none => g k

theorem Frag.Le.refl (f : Frag) : f.Le f := fun _ _ h => h
theorem Frag.Le.trans {f g h : Frag} (a : f.Le g) (b : g.Le h) : f.Le h := fun k o x => b k o (a k o x)
theorem Frag.Dj.symm {f g : Frag} (h : f.Dj g) : g.Dj f := fun b => (h b).symm
theorem Frag.Dj.le {f f' g : Frag} (h : f.Dj g) (l : f'.Le f) : f'.Dj g := fun b => by
  rcases h b with h | h
  · left
    cases hx : f' b with
    | none => rfl
    | some o => rw [l b o hx] at h; cases h
  · exact .inr h
theorem Frag.Dj.le2 {f f' g g' : Frag} (h : f.Dj g) (l : f'.Le f) (m : g'.Le g) : f'.Dj g' := ((h.le l).symm.le m).symm
theorem Frag.In.le {f g : Frag} {w : World} (h : g.In w) (l : f.Le g) : f.In w := fun b o x => h b o (l b o x)
theorem Frag.In.lt {f : Frag} {w : World} (h : f.In w) {b : Nat} {o : Obj} (x : f b = some o) : b < w.heap.size := (Array.getElem?_eq_some_iff.1 (h b o x)).1
theorem Frag.In.fresh {f : Frag} {w : World} (h : f.In w) : f w.heap.size = none := by
  cases hx : f w.heap.size with
  | none => rfl
  | some o => have := h.lt hx; omega
theorem Frag.Le.emp (f : Frag) : Frag.emp.Le f := fun _ _ h => by cases h
theorem Frag.Dj.emp (f : Frag) : Frag.emp.Dj f := fun _ => .inl rfl
theorem Frag.one_le {b : Nat} {o : Obj} {f : Frag} (h : f b = some o) : (Frag.one b o).Le f := fun k o' x => by
  unfold Frag.one at x
  split at x
  · rename_i e; subst e; rw [h]; exact x
  · cases x
theorem Frag.one_self (b : Nat) (o : Obj) : Frag.one b o b = some o := by simp [Frag.one]
theorem Frag.one_dj {b : Nat} {o : Obj} {f : Frag} (h : f b = none) : (Frag.one b o).Dj f := fun k => by
  unfold Frag.one
  split
  · rename_i e; subst e; exact .inr h
  · exact .inl rfl
theorem Frag.le_cup_left (f g : Frag) : f.Le (f.cup g) := fun b o h => by simp [Frag.cup, h]
theorem Frag.le_cup_right {f g : Frag} (d : f.Dj g) : g.Le (f.cup g) := fun b o h => by
  rcases d b with x | x
  · simp [Frag.cup, x, h]
  · rw [h] at x; cases x
theorem Frag.cup_dj {f g h : Frag} (a : f.Dj h) (b : g.Dj h) : (f.cup g).Dj h := fun k => by
  rcases a k with x | x
  · rcases b k with y | y
    · left; simp [Frag.cup, x, y]
    · exact .inr y
  · exact .inr x
theorem Frag.cup_in {f g : Frag} {w : World} (a : f.In w) (b : g.In w) : (f.cup g).In w := fun k o h => by
  unfold Frag.cup at h
  split at h
  · rename_i o' e; injection h with h; subst h; exact a k o' e
  · exact b k o h
theorem Frag.cup_le {f g h : Frag} (a : f.Le h) (b : g.Le h) : (f.cup g).Le h := fun k o x => by
  unfold Frag.cup at x
  split at x
  · rename_i o' e; injection x with x; subst x; exact a k o' e
  · exact b k o x

/-- What a part of memory is: said of the memory that nobody writes any more, and of the blocks that are its own. -/
structure Chunk where
  holds : Frag → Frag → Prop
  mono : ∀ {Z Z' f f' : Frag}, Z.Le Z' → f.Le f' → holds Z f → holds Z' f'

def satL (Z : Frag) : Frag → List Chunk → Prop
  | _, [] => True
  | f, c :: cs => ∃ f1 f2, f1.Dj f2 ∧ f1.Le f ∧ f2.Le f ∧ c.holds Z f1 ∧ satL Z f2 cs

theorem satL.mono {Z Z' : Frag} (hz : Z.Le Z') : ∀ {cs : List Chunk} {f f' : Frag}, f.Le f' → satL Z f cs → satL Z' f' cs
  | [], _, _, _, _ => trivial
  | _ :: _, _, _, hf, ⟨f1, f2, d, l1, l2, h, r⟩ => ⟨f1, f2, d, l1.trans hf, l2.trans hf, Chunk.mono _ hz (.refl _) h, satL.mono hz (.refl _) r⟩

/-- What stays as it is while the program runs. -/
structure Env0 where
  os : Os
  tape : Nat → Question → Nat
  output : Array (Nat × ByteArray)
def Env0.of (w : World) : Env0 := ⟨w.os, w.tape, w.output⟩

structure Sat (E : Env0) (w : World) (cs : List Chunk) : Prop where
  os : w.os = E.os
  tape : w.tape = E.tape
  output : w.output = E.output
  heap : ∃ Z f : Frag, Z.Dj f ∧ Z.In w ∧ f.In w ∧ satL Z f cs

/-- The state that has cs has cs' too. -/
def Ent0 (cs cs' : List Chunk) : Prop := ∀ Z f, satL Z f cs → satL Z f cs'
theorem Ent0.refl (cs : List Chunk) : Ent0 cs cs := fun _ _ h => h
theorem Ent0.trans {a b c : List Chunk} (h : Ent0 a b) (k : Ent0 b c) : Ent0 a c := fun Z f x => k Z f (h Z f x)
theorem Ent0.nil (cs : List Chunk) : Ent0 cs [] := fun _ _ _ => trivial
theorem Ent0.tail {c : Chunk} {cs cs' : List Chunk} (h : Ent0 cs cs') : Ent0 (c :: cs) (c :: cs') :=
  fun Z _ ⟨f1, f2, d, l1, l2, x, r⟩ => ⟨f1, f2, d, l1, l2, x, h Z f2 r⟩
theorem Ent0.head {c c' : Chunk} {cs : List Chunk} (h : ∀ Z f, c.holds Z f → c'.holds Z f) : Ent0 (c :: cs) (c' :: cs) :=
  fun Z _ ⟨f1, f2, d, l1, l2, x, r⟩ => ⟨f1, f2, d, l1, l2, h Z f1 x, r⟩
theorem Ent0.swap (a b : Chunk) (cs : List Chunk) : Ent0 (a :: b :: cs) (b :: a :: cs) := by
  rintro Z f ⟨f1, f2, d, l1, l2, x, g1, g2, d', m1, m2, y, r⟩
  refine ⟨g1, f1.cup g2, ?_, m1.trans l2, Frag.cup_le l1 (m2.trans l2), y, f1, g2, (d.symm.le m2).symm, Frag.le_cup_left _ _, Frag.le_cup_right (d.symm.le m2).symm, x, r⟩
  exact (Frag.cup_dj (d.symm.le m1).symm d'.symm).symm
theorem Ent0.drop (c : Chunk) (cs : List Chunk) : Ent0 (c :: cs) cs := fun _ _ ⟨_, _, _, _, l2, _, r⟩ => satL.mono (.refl _) l2 r

/-- Chunk i to the front. -/
theorem Ent0.front : ∀ (i : Nat) (cs : List Chunk) (c : Chunk), cs[i]? = some c → Ent0 cs (c :: cs.eraseIdx i)
  | _, [], _, h => by simp at h
  | 0, x :: cs, c, h => by simp at h; subst h; exact Ent0.refl _
  | i + 1, x :: cs, c, h => by
    have := Ent0.front i cs c (by simpa using h)
    exact (Ent0.tail this).trans (Ent0.swap _ _ _)
theorem Ent0.cons {cs cs' : List Chunk} (i : Nat) {c : Chunk} (h : cs[i]? = some c) (r : Ent0 (cs.eraseIdx i) cs') : Ent0 cs (c :: cs') :=
  (Ent0.front i cs c h).trans (Ent0.tail r)
theorem Ent0.app {a b c : List Chunk} (h : Ent0 a b) : Ent0 (a ++ c) (b ++ c) := by
  have key : ∀ (a c : List Chunk) Z f, satL Z f (a ++ c) ↔ ∃ f1 f2, f1.Dj f2 ∧ f1.Le f ∧ f2.Le f ∧ satL Z f1 a ∧ satL Z f2 c := by
    intro a
    induction a with
    | nil => intro c Z f; exact ⟨fun h => ⟨.emp, f, .emp _, .emp _, .refl _, trivial, h⟩, fun ⟨_, _, _, _, l, _, h⟩ => satL.mono (.refl _) l h⟩
    | cons x a ih =>
      intro c Z f
      constructor
      · rintro ⟨f1, f2, d, l1, l2, hx, r⟩
        obtain ⟨g1, g2, d', m1, m2, ha, hc⟩ := (ih c Z f2).1 r
        have d1 : f1.Dj g1 := (d.symm.le m1).symm
        refine ⟨f1.cup g1, g2, Frag.cup_dj (d.symm.le m2).symm d', Frag.cup_le l1 (m1.trans l2), m2.trans l2, ⟨f1, g1, d1, Frag.le_cup_left _ _, Frag.le_cup_right d1, hx, ha⟩, hc⟩
      · rintro ⟨f1, f2, d, l1, l2, ⟨g1, g2, d', m1, m2, hx, ha⟩, hc⟩
        have d1 : g2.Dj f2 := d.le m2
        refine ⟨g1, g2.cup f2, (Frag.cup_dj d'.symm ((d.le m1).symm)).symm, m1.trans l1, Frag.cup_le (m2.trans l1) l2, hx, (ih c Z _).2 ⟨g2, f2, d1, Frag.le_cup_left _ _, Frag.le_cup_right d1, ha, hc⟩⟩
  intro Z f x
  obtain ⟨f1, f2, d, l1, l2, ha, hc⟩ := (key a c Z f).1 x
  exact (key b c Z f).2 ⟨f1, f2, d, l1, l2, h Z f1 ha, hc⟩
theorem satL_app (a c : List Chunk) (Z f : Frag) : satL Z f (a ++ c) ↔ ∃ f1 f2, f1.Dj f2 ∧ f1.Le f ∧ f2.Le f ∧ satL Z f1 a ∧ satL Z f2 c := by
  induction a generalizing f with
  | nil => exact ⟨fun h => ⟨.emp, f, .emp _, .emp _, .refl _, trivial, h⟩, fun ⟨_, _, _, _, l, _, h⟩ => satL.mono (.refl _) l h⟩
  | cons x a ih =>
    constructor
    · rintro ⟨f1, f2, d, l1, l2, hx, r⟩
      obtain ⟨g1, g2, d', m1, m2, ha, hc⟩ := (ih f2).1 r
      have d1 : f1.Dj g1 := (d.symm.le m1).symm
      refine ⟨f1.cup g1, g2, Frag.cup_dj (d.symm.le m2).symm d', Frag.cup_le l1 (m1.trans l2), m2.trans l2, ⟨f1, g1, d1, Frag.le_cup_left _ _, Frag.le_cup_right d1, hx, ha⟩, hc⟩
    · rintro ⟨f1, f2, d, l1, l2, ⟨g1, g2, d', m1, m2, hx, ha⟩, hc⟩
      have d1 : g2.Dj f2 := d.le m2
      refine ⟨g1, g2.cup f2, (Frag.cup_dj d'.symm ((d.le m1).symm)).symm, m1.trans l1, Frag.cup_le (m2.trans l1) l2, hx, (ih _).2 ⟨g2, f2, d1, Frag.le_cup_left _ _, Frag.le_cup_right d1, ha, hc⟩⟩


/-- The state that has cs has cs' too; what was one's own may be given up for good. -/
def Ent (cs cs' : List Chunk) : Prop := ∀ Z f, Z.Dj f → satL Z f cs → ∃ Z' f', Z.Le Z' ∧ Z'.Le (Z.cup f) ∧ f'.Le f ∧ Z'.Dj f' ∧ satL Z' f' cs'
theorem Ent.of {a b : List Chunk} (h : Ent0 a b) : Ent a b := fun Z f d x => ⟨Z, f, .refl _, Frag.le_cup_left _ _, .refl _, d, h Z f x⟩
theorem Sat.ent {E : Env0} {w : World} {cs cs' : List Chunk} (h : Sat E w cs) (e : Ent cs cs') : Sat E w cs' := by
  obtain ⟨a, b, c, Z, f, d, i, j, s⟩ := h
  obtain ⟨Z', f', l1, l2, l3, d', s'⟩ := e Z f d s
  exact ⟨a, b, c, Z', f', d', (Frag.cup_in i j).le l2, j.le l3, s'⟩
theorem Ent.refl (cs : List Chunk) : Ent cs cs := .of (.refl _)
theorem Ent.nil (cs : List Chunk) : Ent cs [] := .of (.nil _)
theorem Ent.trans {a b c : List Chunk} (h : Ent a b) (k : Ent b c) : Ent a c := by
  intro Z f d x
  obtain ⟨Z', f', l1, l2, l3, d', s'⟩ := h Z f d x
  obtain ⟨Z'', f'', m1, m2, m3, d'', s''⟩ := k Z' f' d' s'
  exact ⟨Z'', f'', l1.trans m1, m2.trans (Frag.cup_le l2 (l3.trans (Frag.le_cup_right d))), m3.trans l3, d'', s''⟩
theorem Ent.tail {c : Chunk} {cs cs' : List Chunk} (h : Ent cs cs') : Ent (c :: cs) (c :: cs') := by
  rintro Z f d ⟨f1, f2, e, l1, l2, x, r⟩
  have dz2 : Z.Dj f2 := (d.symm.le l2).symm
  have dz1 : Z.Dj f1 := (d.symm.le l1).symm
  obtain ⟨Z', f', m1, m2, m3, d', s'⟩ := h Z f2 dz2 r
  have df : f1.Dj f' := (e.symm.le m3).symm
  have hz1 : (Z.cup f2).Dj f1 := Frag.cup_dj dz1 e.symm
  refine ⟨Z', f1.cup f', m1, m2.trans (Frag.cup_le (Frag.le_cup_left _ _) (l2.trans (Frag.le_cup_right d))), Frag.cup_le l1 (m3.trans l2), ?_, f1, f', df, Frag.le_cup_left _ _, Frag.le_cup_right df, Chunk.mono _ m1 (.refl _) x, s'⟩
  exact (Frag.cup_dj (hz1.le m2).symm d'.symm).symm
theorem Ent.head {c c' : Chunk} {cs : List Chunk} (h : ∀ Z f, c.holds Z f → c'.holds Z f) : Ent (c :: cs) (c' :: cs) := .of (.head h)
theorem Ent.swap (a b : Chunk) (cs : List Chunk) : Ent (a :: b :: cs) (b :: a :: cs) := .of (.swap _ _ _)
theorem Ent.drop (c : Chunk) (cs : List Chunk) : Ent (c :: cs) cs := .of (.drop _ _)
theorem Ent.dropN (n : Nat) : ∀ {cs ds : List Chunk}, cs.drop n = ds → Ent cs ds := by
  induction n with
  | zero => intro cs ds h; simp at h; subst h; exact .refl _
  | succ n ih =>
    intro cs ds h
    cases cs with
    | nil => simp at h; subst h; exact .nil _
    | cons c cs => exact (Ent.drop c cs).trans (ih (by simpa using h))
theorem Ent.front (i : Nat) (cs : List Chunk) (c : Chunk) (h : cs[i]? = some c) : Ent cs (c :: cs.eraseIdx i) := .of (.front i cs c h)
theorem Ent.cons {cs cs' : List Chunk} (i : Nat) {c : Chunk} (h : cs[i]? = some c) (r : Ent (cs.eraseIdx i) cs') : Ent cs (c :: cs') :=
  (Ent.front i cs c h).trans (Ent.tail r)

/-! ### 2. Chunks -/
/-- A block of one's own. -/
def own (b : Nat) (o : Obj) : Chunk := ⟨fun _ f => f b = some o, fun _ l h => l _ _ h⟩
/-- A block that nobody writes any more. -/
def imm (b : Nat) (o : Obj) : Chunk := ⟨fun Z _ => Z b = some o, fun l _ h => l _ _ h⟩
/-- A fact of the memory that nobody writes any more. -/
structure Per where
  holds : Frag → Prop
  mono : ∀ {Z Z' : Frag}, Z.Le Z' → holds Z → holds Z'
def per (p : Per) : Chunk := ⟨fun Z _ => p.holds Z, fun l _ h => p.mono l h⟩
def pur (p : Prop) : Chunk := ⟨fun _ _ => p, fun _ _ h => h⟩
def ex {α : Type} (c : α → Chunk) : Chunk := ⟨fun Z f => ∃ x, (c x).holds Z f, fun l m ⟨x, h⟩ => ⟨x, (c x).mono l m h⟩⟩
def stars (cs : List Chunk) : Chunk := ⟨fun Z f => satL Z f cs, fun l m h => satL.mono l m h⟩

theorem Ent.unstars (cs ds : List Chunk) : Ent (stars cs :: ds) (cs ++ ds) := .of fun Z f ⟨f1, f2, d, l1, l2, x, r⟩ => (satL_app cs ds Z f).2 ⟨f1, f2, d, l1, l2, x, r⟩
theorem Ent.stars (cs ds : List Chunk) : Ent (cs ++ ds) (stars cs :: ds) := .of fun Z f h => let ⟨f1, f2, d, l1, l2, x, r⟩ := (satL_app cs ds Z f).1 h; ⟨f1, f2, d, l1, l2, x, r⟩
theorem Ent.ex {α : Type} {c : α → Chunk} (x : α) (ds : List Chunk) : Ent (c x :: ds) (ex c :: ds) := Ent.head fun _ _ h => ⟨x, h⟩
theorem Ent.pur {p : Prop} (h : p) (ds : List Chunk) : Ent ds (pur p :: ds) := .of fun _ f x => ⟨.emp, f, .emp _, .emp _, .refl _, h, x⟩
theorem Ent.dupPer (p : Per) (ds : List Chunk) : Ent (per p :: ds) (per p :: per p :: ds) := .of fun _ _ ⟨f1, f2, d, l1, l2, x, r⟩ =>
  ⟨f1, f2, d, l1, l2, x, .emp, f2, .emp _, .emp _, .refl _, x, r⟩
theorem Ent.perI {p : Per} {ds : List Chunk} (h : ∀ Z f, satL Z f ds → p.holds Z) : Ent ds (per p :: ds) := .of fun Z f x => ⟨.emp, f, .emp _, .emp _, .refl _, h Z f x, x⟩
theorem Sat.exD {E : Env0} {w : World} {α : Type} {c : α → Chunk} {ds : List Chunk} (h : Sat E w (Sep.ex c :: ds)) : ∃ x, Sat E w (c x :: ds) := by
  obtain ⟨a, b, c', Z, f, d, i, j, f1, f2, d', l1, l2, ⟨x, hx⟩, r⟩ := h
  exact ⟨x, a, b, c', Z, f, d, i, j, f1, f2, d', l1, l2, hx, r⟩
theorem Sat.purD {E : Env0} {w : World} {p : Prop} {ds : List Chunk} (h : Sat E w (Sep.pur p :: ds)) : p ∧ Sat E w ds :=
  ⟨by obtain ⟨_, _, _, Z, f, _, _, _, f1, f2, _, _, _, hx, _⟩ := h; exact hx, h.ent (.drop _ _)⟩

/-! ### 3. How a state turns -/
theorem Sat.drew {E : Env0} {w : World} {cs : List Chunk} (h : Sat E w cs) : Sat E w.drew cs := ⟨h.os, h.tape, h.output, h.heap⟩

theorem Frag.In.alloc {f : Frag} {w : World} (h : f.In w) (o : Obj) : f.In (w.alloc o) := fun b x hb => by
  have := h.lt hb
  rw [heap_alloc_old w o b this]; exact h b x hb

theorem Sat.alloc {E : Env0} {w : World} {cs : List Chunk} (h : Sat E w cs) (o : Obj) : Sat E (w.alloc o) (own w.heap.size o :: cs) := by
  obtain ⟨a, b, c, Z, f, d, i, j, s⟩ := h
  have dz : (Frag.one w.heap.size o).Dj Z := Frag.one_dj i.fresh
  have df : (Frag.one w.heap.size o).Dj f := Frag.one_dj j.fresh
  refine ⟨a, b, c, Z, (Frag.one w.heap.size o).cup f, (Frag.cup_dj dz d.symm).symm, i.alloc o, Frag.cup_in ?_ (j.alloc o), Frag.one w.heap.size o, f, df, Frag.le_cup_left _ _, Frag.le_cup_right df, Frag.one_self _ _, s⟩
  intro k x hx
  unfold Frag.one at hx
  split at hx
  · rename_i e; subst e; rw [heap_alloc_new]; exact hx
  · cases hx

/-- A block of one's own is turned into another. -/
theorem Sat.setOwn {E : Env0} {w w' : World} {cs : List Chunk} {b : Nat} {o o' : Obj} (h : Sat E w (own b o :: cs))
    (hos : w'.os = w.os) (htape : w'.tape = w.tape) (hout : w'.output = w.output) (hb : w'.heap[b]? = some o') (hk : ∀ k, k ≠ b → k < w.heap.size → w'.heap[k]? = w.heap[k]?) :
    Sat E w' (own b o' :: cs) := by
  obtain ⟨a1, a2, a3, Z, f, d, i, j, f1, f2, d', l1, l2, x, r⟩ := h
  have hfb : f b = some o := l1 _ _ x
  have hzb : Z b = none := by
    rcases d b with h | h
    · exact h
    · rw [hfb] at h; cases h
  have h2b : f2 b = none := by
    rcases d' b with h | h
    · rw [x] at h; cases h
    · exact h
  have keep : ∀ g : Frag, g.In w → g b = none → g.In w' := fun g hg hn k o hko => by
    have hne : k ≠ b := fun e => by subst e; rw [hn] at hko; cases hko
    rw [hk k hne (hg.lt hko)]; exact hg k o hko
  have dz : (Frag.one b o').Dj Z := Frag.one_dj hzb
  have df : (Frag.one b o').Dj f2 := Frag.one_dj h2b
  refine ⟨hos.trans a1, htape.trans a2, hout.trans a3, Z, (Frag.one b o').cup f2, (Frag.cup_dj dz ((d.symm.le l2))).symm, keep Z i hzb, Frag.cup_in ?_ (keep f2 (j.le l2) h2b), Frag.one b o', f2, df, Frag.le_cup_left _ _, Frag.le_cup_right df, Frag.one_self _ _, r⟩
  intro k y hy
  unfold Frag.one at hy
  split at hy
  · rename_i e; subst e; rw [hb]; exact hy
  · cases hy

/-- Nobody writes it any more. -/
theorem Sat.freeze {E : Env0} {w : World} {cs : List Chunk} {b : Nat} {o : Obj} (h : Sat E w (own b o :: cs)) : Sat E w (imm b o :: cs) := by
  obtain ⟨a1, a2, a3, Z, f, d, i, j, f1, f2, d', l1, l2, x, r⟩ := h
  have hfb : f b = some o := l1 _ _ x
  have hzb : Z b = none := by
    rcases d b with h | h
    · exact h
    · rw [hfb] at h; cases h
  have h2b : f2 b = none := by
    rcases d' b with h | h
    · rw [x] at h; cases h
    · exact h
  have dz : (Frag.one b o).Dj Z := Frag.one_dj hzb
  have df : (Frag.one b o).Dj f2 := Frag.one_dj h2b
  refine ⟨a1, a2, a3, (Frag.one b o).cup Z, f2, Frag.cup_dj df (d.symm.le l2).symm, Frag.cup_in (fun k y hy => ?_) i, j.le l2, .emp, f2, .emp _, .emp _, .refl _, Frag.le_cup_left _ _ _ _ (Frag.one_self b o), satL.mono (Frag.le_cup_right dz) (.refl _) r⟩
  unfold Frag.one at hy
  split at hy
  · rename_i e; subst e; rw [← hy]; exact j _ _ hfb
  · cases hy

theorem Sat.ownAt {E : Env0} {w : World} {cs : List Chunk} {b : Nat} {o : Obj} (h : Sat E w (own b o :: cs)) : w.heap[b]? = some o := by
  obtain ⟨_, _, _, Z, f, _, _, j, f1, f2, _, l1, _, x, _⟩ := h
  exact j _ _ (l1 _ _ x)
theorem Sat.immAt {E : Env0} {w : World} {cs : List Chunk} {b : Nat} {o : Obj} (h : Sat E w (imm b o :: cs)) : w.heap[b]? = some o := by
  obtain ⟨_, _, _, Z, f, _, i, _, f1, f2, _, _, _, x, _⟩ := h
  exact i _ _ x


theorem Ent.freeze (b : Nat) (o : Obj) (cs : List Chunk) : Ent (own b o :: cs) (imm b o :: cs) := by
  rintro Z f d ⟨f1, f2, e, l1, l2, x, r⟩
  have hfb : f b = some o := l1 _ _ x
  have hzb : Z b = none := by
    rcases d b with h | h
    · exact h
    · rw [hfb] at h; cases h
  have h2b : f2 b = none := by
    rcases e b with h | h
    · rw [x] at h; cases h
    · exact h
  have dz : Z.Dj (Frag.one b o) := (Frag.one_dj hzb).symm
  have df : (Frag.one b o).Dj f2 := Frag.one_dj h2b
  refine ⟨Z.cup (Frag.one b o), f2, Frag.le_cup_left _ _, Frag.cup_le (Frag.le_cup_left _ _) ((Frag.one_le hfb).trans (Frag.le_cup_right d)), l2, Frag.cup_dj (d.symm.le l2).symm df,
    .emp, f2, .emp _, .emp _, .refl _, Frag.le_cup_right dz _ _ (Frag.one_self b o), satL.mono (Frag.le_cup_left _ _) (.refl _) r⟩
/-- A chunk of one's own is given up: all of its blocks are written no more. -/
theorem Ent.freezeC {c c' : Chunk} (cs : List Chunk) (h : ∀ Z f, Z.Dj f → c.holds Z f → c'.holds (Z.cup f) .emp) : Ent (c :: cs) (c' :: cs) := by
  rintro Z f d ⟨f1, f2, e, l1, l2, x, r⟩
  have d1 : Z.Dj f1 := (d.symm.le l1).symm
  refine ⟨Z.cup f1, f2, Frag.le_cup_left _ _, Frag.cup_le (Frag.le_cup_left _ _) (l1.trans (Frag.le_cup_right d)), l2, Frag.cup_dj (d.symm.le l2).symm e,
    .emp, f2, .emp _, .emp _, .refl _, h Z f1 d1 x, satL.mono (Frag.le_cup_left _ _) (.refl _) r⟩

end Go.Sep
