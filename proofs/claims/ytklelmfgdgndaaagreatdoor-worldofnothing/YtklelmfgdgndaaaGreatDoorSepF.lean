/- Slices: what they hold, as plain lists. -/
import Derived.Test.YtklelmfgdgndaaaGreatDoorSepE
namespace Go.Sep

/-- How a value of a Go type lies in cells. -/
class Rep (α : Type) where
  sz : Nat
  bytes : Nat
  rep : Frag → List Value → α → Prop
  mono : ∀ {Z Z' : Frag} {us : List Value} {x : α}, Z.Le Z' → rep Z us x → rep Z' us x
  len : ∀ {Z : Frag} {us : List Value} {x : α}, rep Z us x → us.length = sz
  one : ∀ {Z : Frag} {us : List Value} {x : α}, rep Z us x → ∀ u ∈ us, u.oneCell' = true
  pos : 0 < sz
  bpos : 0 < bytes
/-- One whose cells lead to no memory. -/
class Flat (α : Type) extends Rep α where
  enc : α → List Value
  flat : ∀ {Z : Frag} {us : List Value} {x : α}, rep Z us x ↔ us = enc x

@[reducible] def Flat.mk' {α : Type} (n m : Nat) (enc : α → List Value) (len : ∀ x, (enc x).length = n + 1) (one : ∀ x, ∀ u ∈ enc x, u.oneCell' = true) : Flat α where
  sz := n + 1
  bytes := m + 1
  rep := fun _ us x => us = enc x
  mono := fun _ h => h
  len := fun h => by rw [h]; exact len _
  one := fun h => by rw [h]; exact one _
  pos := Nat.succ_pos n
  bpos := Nat.succ_pos m
  enc := enc
  flat := Iff.rfl

/-- A Go text. -/
abbrev Str := List UInt8
instance : Flat (List UInt8) := .mk' 0 15 (fun s => [str s]) (fun _ => rfl) (fun _ u h => by simp at h; subst h; rfl)
instance : Flat UInt8 := .mk' 0 0 (fun c => [.int .u8 (c.toNat : Int)]) (fun _ => rfl) (fun _ u h => by simp at h; subst h; rfl)
instance : Flat Int := .mk' 0 7 (fun n => [.int .i64 n]) (fun _ => rfl) (fun _ u h => by simp at h; subst h; rfl)

/-- A slice that is only read. -/
def repSl {α : Type} [Rep α] (Z : Frag) (v : Value) (xs : List α) : Prop :=
  ∃ a c, v = .slice a xs.length c ∧ xs.length ≤ c ∧ c ≤ 9223372036854775807 ∧ (0 < xs.length → ∃ b o arr T fr, a = some ⟨b, o, none⟩ ∧ Z b = some (.cells arr T fr) ∧
    ∀ (i : Nat) (x : α), xs[i]? = some x → ∃ us, Rep.rep Z us x ∧ ∀ (j : Nat) (u : Value), us[j]? = some u → arr[o + i * Rep.sz α + j]? = some u)
theorem repSl.mono {α : Type} [Rep α] {Z Z' : Frag} {v : Value} {xs : List α} (l : Z.Le Z') (h : repSl Z v xs) : repSl Z' v xs := by
  obtain ⟨a, c, hv, h1, h2, h3⟩ := h
  refine ⟨a, c, hv, h1, h2, fun hp => ?_⟩
  obtain ⟨b, o, arr, T, fr, e1, e2, e3⟩ := h3 hp
  exact ⟨b, o, arr, T, fr, e1, l _ _ e2, fun i x hx => let ⟨us, r, k⟩ := e3 i x hx; ⟨us, Rep.mono l r, k⟩⟩
def dat {α : Type} [Rep α] (v : Value) (xs : List α) : Chunk := per ⟨fun Z => repSl Z v xs, repSl.mono⟩
/-- Cells that represent something, whatever memory they lead to. -/
def repc {α : Type} [Rep α] (us : List Value) (x : α) : Chunk := per ⟨fun Z => Rep.rep Z us x, Rep.mono⟩

/-- A slice of one's own, which may be appended to. -/
def repRow {α : Type} [Rep α] (T : TypeId) (Z f : Frag) (v : Value) (xs : List α) : Prop :=
  (v = .slice none 0 0 ∧ xs = []) ∨ ∃ g c arr, v = .slice (some ⟨g, 0, none⟩) xs.length c ∧ f g = some (.cells arr T (0, 0)) ∧ xs.length ≤ c ∧ c ≤ 9223372036854775807 ∧ arr.size = c * Rep.sz α ∧
    ∀ (i : Nat) (x : α), xs[i]? = some x → ∃ us, Rep.rep Z us x ∧ ∀ (j : Nat) (u : Value), us[j]? = some u → arr[i * Rep.sz α + j]? = some u
def row {α : Type} [Rep α] (T : TypeId) (v : Value) (xs : List α) : Chunk := ⟨fun Z f => repRow T Z f v xs, fun {Z Z' f f'} l m h => by
  rcases h with h | ⟨g, c, arr, e1, e2, e3, e4, e5, e6⟩
  · exact .inl h
  · exact .inr ⟨g, c, arr, e1, m _ _ e2, e3, e4, e5, fun i x hx => let ⟨us, r, k⟩ := e6 i x hx; ⟨us, Rep.mono l r, k⟩⟩⟩

theorem Ent.rowNil {α : Type} [Rep α] (T : TypeId) (cs : List Chunk) : Ent cs (row (α := α) T (.slice none 0 0) [] :: cs) :=
  .of fun _ f x => ⟨.emp, f, .emp _, .emp _, .refl _, .inl ⟨rfl, rfl⟩, x⟩
theorem Ent.datNil {α : Type} [Rep α] (cs : List Chunk) : Ent cs (dat (α := α) (.slice none 0 0) [] :: cs) :=
  .of fun _ f x => ⟨.emp, f, .emp _, .emp _, .refl _, ⟨none, 0, rfl, by simp, by simp, fun h => by simp at h⟩, x⟩
theorem Ent.rowDat {α : Type} [Rep α] {T : TypeId} {v : Value} {xs : List α} (cs : List Chunk) : Ent (row T v xs :: cs) (dat v xs :: cs) := by
  refine Ent.freezeC cs fun Z f d h => ?_
  rcases h with ⟨e1, e2⟩ | ⟨g, c, arr, e1, e2, e3, e4, e5, e6⟩
  · subst e1; subst e2; exact ⟨none, 0, rfl, by simp, by simp, fun h => by simp at h⟩
  · refine ⟨_, c, e1, e3, e4, fun _ => ⟨g, 0, arr, T, (0, 0), rfl, Frag.le_cup_right d _ _ e2, fun i x hx => ?_⟩⟩
    obtain ⟨us, r, k⟩ := e6 i x hx
    exact ⟨us, Rep.mono (Frag.le_cup_left _ _) r, fun j u hu => by rw [Nat.zero_add]; exact k j u hu⟩
theorem Ent.dupDat {α : Type} [Rep α] {v : Value} {xs : List α} (cs : List Chunk) : Ent (dat v xs :: cs) (dat v xs :: dat v xs :: cs) := Ent.dupPer _ _
/-- Memory that nobody writes any more may be named twice. -/
theorem Ent.dup {cs cs' : List Chunk} (i : Nat) {p : Per} (h : cs[i]? = some (per p)) (r : Ent (per p :: cs) cs') : Ent cs cs' := by
  refine Ent.trans ?_ r
  have h1 := Ent.front i cs _ h
  refine Ent.of fun Z f x => ?_
  obtain ⟨f1, f2, d, l1, l2, y, z⟩ := Ent0.front i cs _ h Z f x
  exact ⟨.emp, f, .emp _, .emp _, .refl _, p.mono (.refl _) y, x⟩

theorem Sat.perAt {E : Env0} {w : World} {cs : List Chunk} {i : Nat} {p : Per} (h : Sat E w cs) (hi : cs[i]? = some (per p)) : ∃ Z f, Z.Dj f ∧ Z.In w ∧ f.In w ∧ satL Z f cs ∧ p.holds Z := by
  obtain ⟨_, _, _, Z, f, d, hz, hf, s⟩ := h
  obtain ⟨f1, f2, _, _, _, y, _⟩ := Ent0.front i cs _ hi Z f s
  exact ⟨Z, f, d, hz, hf, s, y⟩
theorem len_le {n c : Nat} (h : n ≤ c) (k : c ≤ 9223372036854775807) : n ≤ 9223372036854775807 := Nat.le_trans h k
/-- What a slice's value looks like. -/
theorem dat_form {E : Env0} {w : World} {cs : List Chunk} {i : Nat} {α : Type} [Rep α] {v : Value} {xs : List α} (h : Sat E w cs) (hi : cs[i]? = some (dat v xs)) :
    ∃ a c, v = .slice a xs.length c ∧ xs.length ≤ 9223372036854775807 := by
  obtain ⟨Z, f, _, _, _, _, a, c, hv, h1, h2, _⟩ := h.perAt hi
  exact ⟨a, c, hv, len_le h1 h2⟩
theorem row_form {E : Env0} {w : World} {cs : List Chunk} {i : Nat} {α : Type} [Rep α] {T : TypeId} {v : Value} {xs : List α} (h : Sat E w cs) (hi : cs[i]? = some (row T v xs)) :
    ∃ a c, v = .slice a xs.length c ∧ xs.length ≤ 9223372036854775807 := by
  obtain ⟨_, _, _, Z, f, _, _, _, s⟩ := h
  obtain ⟨f1, f2, _, _, _, y, _⟩ := Ent0.front i cs _ hi Z f s
  rcases y with ⟨e1, e2⟩ | ⟨g, c, arr, e1, e2, e3, e4, _⟩
  · subst e2; exact ⟨none, 0, e1, by simp⟩
  · exact ⟨_, c, e1, len_le e3 e4⟩

section
variable {P : Program} {N : Nat} {E : Env0} {ops : Array Oper} {rest : List Oper} {K : Env → List Chunk → Prop} {e : Env} {cs : List Chunk}
variable {dst : Option Tmp} {ty : TypeId} {pos : String} {af : Array Edge} {g : Option (Nat × Bool)}
variable {α : Type} [Rep α]

/-- What is known of a slice's value may be used: it is one, of so many elements. -/
theorem ws_form {c : Code} {Kp : Post} {v : Value} {xs : List α} (i : Nat) (hi : cs[i]? = some (dat v xs)) (h : ∀ a c', v = .slice a xs.length c' → xs.length ≤ 9223372036854775807 → WS P N E c Kp e cs) : WS P N E c Kp e cs :=
  fun Q ho hQ a w ha hw => let ⟨b, c', h1, h2⟩ := dat_form hw hi; h b c' h1 h2 Q ho hQ a w ha hw
theorem wo_form {v : Value} {xs : List α} (i : Nat) {l : List Oper} (hi : cs[i]? = some (dat v xs)) (h : ∀ a c', v = .slice a xs.length c' → xs.length ≤ 9223372036854775807 → WO P N E ops l K e cs) : WO P N E ops l K e cs :=
  fun Q ho hQ a w ha hw => let ⟨b, c', h1, h2⟩ := dat_form hw hi; h b c' h1 h2 Q ho hQ a w ha hw
theorem wo_formR {T : TypeId} {v : Value} {xs : List α} (i : Nat) {l : List Oper} (hi : cs[i]? = some (row T v xs)) (h : ∀ a c', v = .slice a xs.length c' → xs.length ≤ 9223372036854775807 → WO P N E ops l K e cs) : WO P N E ops l K e cs :=
  fun Q ho hQ a w ha hw => let ⟨b, c', h1, h2⟩ := row_form hw hi; h b c' h1 h2 Q ho hQ a w ha hw

theorem wo_len_dat {t el : TypeId} {x : Operand} {v : Value} {xs : List α} (i : Nat) (hs : sideB N e ops ⟨dst, .call { callee := .builtin .len, args := #[x], argTypes := #[t] }, ty, pos, af, g⟩ = true)
    (ht : P.underlying t = some (.slice el)) (hx : e.val x = some v) (hi : cs[i]? = some (dat v xs)) (k : xs.length ≤ 9223372036854775807 → WO P N E ops rest K (putE dst (.int .i64 (xs.length : Int)) e) cs) :
    WO P N E ops (⟨dst, .call { callee := .builtin .len, args := #[x], argTypes := #[t] }, ty, pos, af, g⟩ :: rest) K e cs :=
  wo_form i hi fun a c' hv hl => by subst hv; exact wo_len_slice hs ht hx (k hl)
theorem wo_len_row {t el T : TypeId} {x : Operand} {v : Value} {xs : List α} (i : Nat) (hs : sideB N e ops ⟨dst, .call { callee := .builtin .len, args := #[x], argTypes := #[t] }, ty, pos, af, g⟩ = true)
    (ht : P.underlying t = some (.slice el)) (hx : e.val x = some v) (hi : cs[i]? = some (row T v xs)) (k : xs.length ≤ 9223372036854775807 → WO P N E ops rest K (putE dst (.int .i64 (xs.length : Int)) e) cs) :
    WO P N E ops (⟨dst, .call { callee := .builtin .len, args := #[x], argTypes := #[t] }, ty, pos, af, g⟩ :: rest) K e cs :=
  wo_formR i hi fun a c' hv hl => by subst hv; exact wo_len_slice hs ht hx (k hl)

/-- The address of an element of a slice that is only read: its cells. -/
theorem wo_indexAddr {t el : TypeId} {x ix : Operand} {v : Value} {k : IntKind} {n : Nat} {xs : List α} {z : α} (i : Nat) (hs : sideB N e ops ⟨dst, .indexAddr t x ix, ty, pos, af, g⟩ = true)
    (ht : P.underlying t = some (.slice el)) (hz : ∀ w, (sizeOf el).run P w = .ok (Rep.sz α) w) (hx : e.val x = some v) (hix : e.val ix = some (.int k (n : Int))) (hi : cs[i]? = some (dat v xs)) (hn : xs[n]? = some z)
    (h : ∀ b o us, WO P N E ops rest K (putE dst (.pointer (some ⟨b, o, none⟩)) e) (icel b o us :: repc us z :: cs)) : WO P N E ops (⟨dst, .indexAddr t x ix, ty, pos, af, g⟩ :: rest) K e cs :=
  wo_step hs (R := fun v cs' => ∃ b o us, v = .pointer (some ⟨b, o, none⟩) ∧ cs' = icel b o us :: repc us z :: cs) (fun A w ha hw next Q _ hn' => by
    refine .inl ?_
    have hos := hw.os; have htp := hw.tape; have hot := hw.output
    obtain ⟨Z, f, d, hz1, hf1, s, a, c, hv, h1, h2, h3⟩ := hw.perAt hi
    obtain ⟨hlt, _⟩ := List.getElem?_eq_some_iff.1 hn
    obtain ⟨b, o, arr, T, fr, e1, e2, e3⟩ := h3 (by omega)
    obtain ⟨us, hr, hu⟩ := e3 n z hn
    subst hv
    subst e1
    have hrun : (execOp A.eval ⟨dst, .indexAddr t x ix, ty, pos, af, g⟩).run P w = .ok (.value (.pointer (some ⟨b, o + n * Rep.sz α, none⟩))) w := by
      simp [execOp, Instr.indexAt, ha.eval hx, ha.eval hix, asIntOf, run_underlying ht, hz, hlt, add_plain]
    unfold Oper.wp
    rw [hrun]
    refine hn' _ _ _ ⟨b, o + n * Rep.sz α, us, rfl, rfl⟩ ⟨hos, htp, hot, Z, f, d, hz1, hf1, .emp, f, .emp _, .emp _, .refl _, ⟨arr, T, fr, e2, hu⟩, .emp, f, .emp _, .emp _, .refl _, hr, s⟩)
    (by rintro _ _ ⟨b, o, us, rfl, rfl⟩; exact h b o us)
end

section
variable {P : Program} {N : Nat} {E : Env0} {ops : Array Oper} {rest : List Oper} {K : Env → List Chunk → Prop} {e : Env} {cs : List Chunk}
variable {dst : Option Tmp} {ty : TypeId} {pos : String} {af : Array Edge} {g : Option (Nat × Bool)}
variable {α : Type} [Flat α]

/-- The same where the element's cells lead nowhere. -/
theorem wo_indexAddrF {t el : TypeId} {x ix : Operand} {v : Value} {k : IntKind} {n : Nat} {xs : List α} {z : α} (i : Nat) (hs : sideB N e ops ⟨dst, .indexAddr t x ix, ty, pos, af, g⟩ = true)
    (ht : P.underlying t = some (.slice el)) (hz : ∀ w, (sizeOf el).run P w = .ok (Rep.sz α) w) (hx : e.val x = some v) (hix : e.val ix = some (.int k (n : Int))) (hi : cs[i]? = some (dat v xs)) (hn : xs[n]? = some z)
    (h : ∀ b o, WO P N E ops rest K (putE dst (.pointer (some ⟨b, o, none⟩)) e) (icel b o (Flat.enc z) :: cs)) : WO P N E ops (⟨dst, .indexAddr t x ix, ty, pos, af, g⟩ :: rest) K e cs := by
  refine wo_indexAddr i hs ht hz hx hix hi hn fun b o us => ?_
  intro Q ho hQ a w ha hw
  obtain ⟨Z, f, _, _, _, _, hr⟩ := hw.perAt (i := 1) (p := ⟨fun Z => Rep.rep Z us z, Rep.mono⟩) rfl
  obtain rfl := Flat.flat.1 hr
  exact h b o Q ho hQ a w ha (hw.ent (Ent.tail (Ent.drop _ _)))
end

/-! ### Appending -/
theorem cells_get {cells : List Value} {j : Nat} {u : Value} (h : cells[j]? = some u) : j < cells.length := (List.getElem?_eq_some_iff.1 h).1

/-- What an append onto a row of one's own comes to, the memory's other blocks being as they were. -/
theorem run_append {P : Program} (w : World) {α : Type} [Rep α] {t ty T : TypeId} {i : TypeInfo} {zv : Value} (ht : P.underlying t = some (.slice T)) (hi : P.info? T = some i) (hz : i.zero = some zv)
    (hsize : i.size = Rep.sz α) (hby : i.bytes = Rep.bytes α) (hzs : zv.cells.size = Rep.sz α)
    {Z f f2 fx : Frag} {v : Value} {xs ys : List α} (hZf : Z.Dj f) (hff : f.Dj f2) (hZ : Z.In w) (hf : f.In w) (hf2 : f2.In w) (hrow : repRow T Z f v xs)
    {b o c' : Nat} {arr' : Array Value} {T' : TypeId} {fr' : Nat × Nat} (hb : fx b = some (.cells arr' T' fr')) (hfx : fx.In w) (hfxf : f.Dj fx) (hys : 0 < ys.length) (hroom : (xs.length + ys.length) * Rep.bytes α ≤ 140737488355328)
    (hel : ∀ (k : Nat) (y : α), ys[k]? = some y → ∃ us, Rep.rep Z us y ∧ ∀ (j : Nat) (u : Value), us[j]? = some u → arr'[o + k * Rep.sz α + j]? = some u) :
    ∃ v' w' f', (Builtin.append_ #[t, t] ty #[v, .slice (some ⟨b, o, none⟩) ys.length c']).run P w = .ok v' w' ∧ w'.os = w.os ∧ w'.tape = w.tape ∧ w'.output = w.output ∧ Z.In w' ∧ f2.In w' ∧ f'.In w' ∧ Z.Dj f' ∧ f'.Dj f2 ∧ repRow T Z f' v' (xs ++ ys) := by
  have hpos := Rep.pos (α := α)
  -- the cells that are appended
  have hnews : ∃ news : List Value, news.length = ys.length * Rep.sz α ∧ (∀ j u, news[j]? = some u → arr'[o + j]? = some u ∧ u.oneCell' = true) := by
    refine ⟨(List.range (ys.length * Rep.sz α)).map (fun j => arr'.getD (o + j) undef), by simp, fun j u hj => ?_⟩
    have hjl : j < ys.length * Rep.sz α := by have := cells_get hj; simpa using this
    have hk : j / Rep.sz α < ys.length := Nat.div_lt_of_lt_mul (by rw [Nat.mul_comm]; exact hjl)
    obtain ⟨us, hr, hu⟩ := hel (j / Rep.sz α) _ (List.getElem?_eq_getElem hk)
    have hm : j % Rep.sz α < us.length := by rw [Rep.len hr]; exact Nat.mod_lt _ hpos
    have h1 := hu (j % Rep.sz α) _ (List.getElem?_eq_getElem hm)
    have h2 : o + j / Rep.sz α * Rep.sz α + j % Rep.sz α = o + j := by
      have := Nat.div_add_mod' j (Rep.sz α)
      omega
    rw [h2] at h1
    simp only [List.getElem?_map, List.getElem?_range hjl, Option.map_some, Option.some.injEq] at hj
    have h3 : arr'.getD (o + j) undef = us[j % Rep.sz α] := by rw [Array.getD_eq_getD_getElem?, h1]; rfl
    rw [h3] at hj
    subst hj
    exact ⟨h1, Rep.one hr _ (List.getElem_mem hm)⟩
  obtain ⟨news, hnl, hn⟩ := hnews
  have hbw := hfx _ _ hb
  have hcell : ∀ j u, news[j]? = some u → w.cell? ((⟨b, o, none⟩ : Addr).add j) = some u := fun j u hj => by
    rw [add_plain, cell_of_row w b (o + j) arr' T' fr' hbw]; exact (hn j u hj).1
  have hone : ∀ u ∈ news, u.oneCell' = true := fun u hu => by
    obtain ⟨j, hj, e⟩ := List.getElem_of_mem hu
    exact (hn j u (by rw [List.getElem?_eq_getElem hj, e])).2
  have hhold : Room.holdsV w ⟨b, o, none⟩ (ys.length * Rep.sz α) = true := by
    have h1 : ys.length * Rep.sz α - 1 < news.length := by have := Nat.mul_pos hys hpos; omega
    have h2 := (hn _ _ (List.getElem?_eq_getElem h1)).1
    obtain ⟨h3, _⟩ := Array.getElem?_eq_some_iff.1 h2
    have := Nat.mul_pos hys hpos
    simp only [Room.holdsV, World.shape?, hbw]
    simp
    omega
  -- the row itself
  have hown : ∃ cells, w.ownsRow 0 T (Rep.sz α) v xs.length cells ∧ v.ownBlock ≠ some b ∧
      (∀ g, v.ownBlock = some g → ∃ o, f g = some o) ∧ (∀ (k : Nat) (x : α), xs[k]? = some x → ∃ us, Rep.rep Z us x ∧ ∀ (j : Nat) (u : Value), us[j]? = some u → cells[k * Rep.sz α + j]? = some u) := by
    rcases hrow with ⟨e1, e2⟩ | ⟨g, c, arr, e1, e2, e3, e4, e5, e6⟩
    · subst e1; subst e2
      exact ⟨[], World.ownsRow_nil w 0 T _, by simp [Value.ownBlock], by simp [Value.ownBlock], by simp⟩
    · subst e1
      refine ⟨arr.toList.take (xs.length * Rep.sz α), ⟨?_, .inr ⟨g, c, arr, rfl, Nat.zero_le _, hf _ _ e2, e3, ?_, e5, rfl⟩⟩, ?_, ?_, fun k x hx => ?_⟩
      · have h7 : xs.length * Rep.sz α ≤ arr.toList.length := by simp only [Array.length_toList, e5]; exact Nat.mul_le_mul_right _ e3
        simp only [List.length_take, Array.length_toList] at h7 ⊢
        exact Nat.min_eq_left h7
      · simp only [maxLen]; omega
      · intro hc
        simp only [Value.ownBlock, Option.some.injEq] at hc
        subst hc
        rcases hfxf g with h | h
        · rw [e2] at h; cases h
        · rw [hb] at h; cases h
      · intro g' hg'
        simp only [Value.ownBlock, Option.some.injEq] at hg'
        subst hg'
        exact ⟨_, e2⟩
      · obtain ⟨us, hr, hu⟩ := e6 k x hx
        refine ⟨us, hr, fun j u hj => ?_⟩
        have h1 := hu j u hj
        have hk : k < xs.length := (List.getElem?_eq_some_iff.1 hx).1
        have hjl : j < Rep.sz α := by rw [← Rep.len hr]; exact cells_get hj
        have h2 : k * Rep.sz α + j < xs.length * Rep.sz α := by
          have : (k + 1) * Rep.sz α ≤ xs.length * Rep.sz α := Nat.mul_le_mul_right _ hk
          rw [Nat.add_mul] at this
          omega
        rw [List.getElem?_take, if_pos h2]
        simpa using h1
  obtain ⟨cells, hO, hne, hfg, hel'⟩ := hown
  have h63 : xs.length + ys.length ≤ maxLen := by
    have := Nat.le_mul_of_pos_right (xs.length + ys.length) (Rep.bpos (α := α)); simp only [maxLen]; omega
  obtain ⟨v', w', hr, hO', hg, _, hat⟩ := run_append_own_at (P := P) w 0 t ty T i zv (Rep.sz α) (Rep.bytes α) ht hi hz hsize hby hzs hpos v xs.length cells hO ⟨b, o, none⟩ ys.length c' news hnl hcell hone h63 hroom (Nat.zero_le _)
  · skip
    rcases hO'.2 with ⟨_, h0⟩ | ⟨g', cap, cur, hv', _, hh, hle, hcm, hcs, htk⟩
    · omega
    · subst hv'
      have keep : ∀ q : Frag, q.In w → q.Dj f → q.In w' := fun q hq hd k ob hk => by
        have hlt := hq.lt hk
        rw [hg.block k hlt ?_]
        · exact hq k ob hk
        · intro hc
          obtain ⟨ob', hob⟩ := hfg k hc.symm
          rcases hd k with h | h
          · rw [hk] at h; cases h
          · rw [hob] at h; cases h
      have hg' : ∀ q : Frag, q.In w → q.Dj f → q g' = none := fun q hq hd => by
        cases hx : q g' with
        | none => rfl
        | some ob =>
          rcases hat with h | h
          · obtain ⟨ob', hob⟩ := hfg g' h.symm
            rcases hd g' with h | h
            · rw [hx] at h; cases h
            · rw [hob] at h; cases h
          · simp only [Value.ownBlock, Option.some.injEq] at h
            have := hq.lt hx
            omega
      refine ⟨_, w', Frag.one g' (.cells cur T (0, 0)), hr, hg.os, hg.tape, hg.output, keep Z hZ hZf, keep f2 hf2 hff.symm, ?_, (Frag.one_dj (hg' Z hZ hZf)).symm, Frag.one_dj (hg' f2 hf2 hff.symm), .inr ⟨g', cap, cur, by simp, Frag.one_self _ _, by simpa using hle, ?_, hcs, fun k x hx => ?_⟩⟩
      · intro k ob hk
        unfold Frag.one at hk
        split at hk
        · rename_i e; subst e; rw [← hk]; exact hh
        · cases hk
      · simpa [maxLen] using hcm
      · have hcl : cells.length = xs.length * Rep.sz α := hO.1
        have hget : ∀ j u, (cells ++ news)[j]? = some u → cur[j]? = some u := fun j u hj => by
          rw [← htk] at hj
          rw [List.getElem?_take] at hj
          split at hj
          · simpa using hj
          · cases hj
        rw [List.getElem?_append] at hx
        split at hx
        · rename_i hk
          obtain ⟨us, hr, hu⟩ := hel' k x hx
          refine ⟨us, hr, fun j u hj => hget _ _ ?_⟩
          have := hu j u hj
          rw [List.getElem?_append_left (cells_get this)]; exact this
        · rename_i hk
          have hk' : xs.length ≤ k := by omega
          obtain ⟨us, hr, hu⟩ := hel (k - xs.length) x hx
          refine ⟨us, hr, fun j u hj => hget _ _ ?_⟩
          have h1 := hu j u hj
          have hjl : j < Rep.sz α := by rw [← Rep.len hr]; exact cells_get hj
          have e1 : k * Rep.sz α + j = cells.length + ((k - xs.length) * Rep.sz α + j) := by
            rw [hcl]
            have : k = xs.length + (k - xs.length) := by omega
            rw [this, Nat.add_mul]
            simp [Nat.add_assoc]
          rw [e1, List.getElem?_append_right (by omega), Nat.add_sub_cancel_left]
          have hkl : k - xs.length < ys.length := (List.getElem?_eq_some_iff.1 hx).1
          have h2 : (k - xs.length) * Rep.sz α + j < news.length := by
            rw [hnl]
            have : (k - xs.length + 1) * Rep.sz α ≤ ys.length * Rep.sz α := Nat.mul_le_mul_right _ hkl
            rw [Nat.add_mul] at this
            omega
          have h3 := (hn _ _ (List.getElem?_eq_getElem h2)).1
          rw [← Nat.add_assoc, h1] at h3
          rw [List.getElem?_eq_getElem h2, ← h3]

/-- An append of nothing. -/
theorem run_append_zero {P : Program} (w : World) {t ty T : TypeId} {i : TypeInfo} (ht : P.underlying t = some (.slice T)) (hi : P.info? T = some i) (a a' : Option Addr) (n c c' : Nat) (hn : n ≤ c) :
    (Builtin.append_ #[t, t] ty #[.slice a n c, .slice a' 0 c']).run P w = .ok (.slice a n c) w := by
  cases a' <;> cases a <;> simp [Builtin.append_, run_underlying ht, sizeOf, typeInfo, hi, Builtin.lenOf, hn, Builtin.firstCells, loadCells, loadCellsFrom, storeCells]

section
variable {P : Program} {N : Nat} {E : Env0} {ops : Array Oper} {rest : List Oper} {K : Env → List Chunk → Prop} {e : Env} {cs : List Chunk}
variable {dst : Option Tmp} {ty : TypeId} {pos : String} {af : Array Edge} {g : Option (Nat × Bool)}
variable {α : Type} [Rep α]

/-- What an element's type says. -/
structure ElT (P : Program) (α : Type) [Rep α] (t T : TypeId) : Prop where
  under : P.underlying t = some (.slice T)
  info : ∃ i zv, P.info? T = some i ∧ i.zero = some zv ∧ i.size = Rep.sz α ∧ i.bytes = Rep.bytes α ∧ zv.cells.size = Rep.sz α
theorem ElT.size {t T : TypeId} (h : ElT P α t T) (w : World) : (sizeOf T).run P w = .ok (Rep.sz α) w := by
  obtain ⟨i, zv, h1, _, h2, _⟩ := h.info
  simp [sizeOf, typeInfo, h1, h2]

theorem row_src {Z f : Frag} {T : TypeId} {v : Value} {ys : List α} (h : repRow T Z f v ys) : (ys = [] ∧ ∃ c, v = .slice none 0 c) ∨ ∃ b c arr, v = .slice (some ⟨b, 0, none⟩) ys.length c ∧ f b = some (.cells arr T (0, 0)) ∧
    ∀ (k : Nat) (y : α), ys[k]? = some y → ∃ us, Rep.rep Z us y ∧ ∀ (j : Nat) (u : Value), us[j]? = some u → arr[0 + k * Rep.sz α + j]? = some u := by
  rcases h with ⟨e1, e2⟩ | ⟨g, c, arr, e1, e2, e3, e4, e5, e6⟩
  · exact .inl ⟨e2, 0, e1⟩
  · exact .inr ⟨g, c, arr, e1, e2, fun k y hy => by rw [Nat.zero_add]; exact e6 k y hy⟩

theorem opT_append_src {t T : TypeId} {s x : Operand} {v v1 : Value} {xs ys : List α} {fr : List Chunk} {src : Chunk} (hT : ElT P α t T)
    (hx : e.val s = some v) (hy : e.val x = some v1) (hroom : (xs.length + ys.length) * Rep.bytes α ≤ 140737488355328)
    (hsrc : ∀ Z f, src.holds Z f → (ys = [] ∧ ∃ a c, v1 = .slice a 0 c) ∨ ∃ b o c arr T' fr', v1 = .slice (some ⟨b, o, none⟩) ys.length c ∧ (f b = some (.cells arr T' fr') ∨ Z b = some (.cells arr T' fr')) ∧
      ∀ (k : Nat) (y : α), ys[k]? = some y → ∃ us, Rep.rep Z us y ∧ ∀ (j : Nat) (u : Value), us[j]? = some u → arr[o + k * Rep.sz α + j]? = some u) :
    OpT P N E ⟨dst, .call { callee := .builtin .append, args := #[s, x], argTypes := #[t, t] }, ty, pos, af, g⟩ e (row T v xs :: src :: fr) (fun v' cs' => cs' = row T v' (xs ++ ys) :: src :: fr) := by
  intro a w ha hw next Q ho hn
  obtain ⟨i, zv, h1, h2, h3, h4, h5⟩ := hT.info
  have hos := hw.os; have htp := hw.tape; have hot := hw.output
  obtain ⟨_, _, _, Z, f, d, hz, hf, f1, f2, d12, l1, l2, hrow, g1, g2, e12, m1, m2, hs, hr⟩ := hw
  have dz1 : Z.Dj f1 := (d.symm.le l1).symm
  have dz2 : Z.Dj f2 := (d.symm.le l2).symm
  have hrunform : ∀ r, (Builtin.append_ #[t, t] ty #[v, v1]).run P w = r → (execOp a.eval ⟨dst, .call { callee := .builtin .append, args := #[s, x], argTypes := #[t, t] }, ty, pos, af, g⟩).run P w = r.andThen fun u w' => .ok (.value u) w' := by
    rintro r rfl
    simp [execOp, resolve, invoke, builtin, ha.eval hx, ha.eval hy]
  rcases hsrc Z g1 hs with ⟨hy0, a', c', hv1⟩ | ⟨b, o, c', arr', T', fr', hv1, hblk, hel⟩
  · -- nothing is appended
    subst hy0; subst hv1
    refine .inl ?_
    have hform : ∃ A n c, v = .slice A n c ∧ n ≤ c := by
      rcases hrow with ⟨e1, _⟩ | ⟨q, c, arr, e1, _, e3, _⟩
      · exact ⟨none, 0, 0, e1, Nat.le_refl _⟩
      · exact ⟨_, _, c, e1, e3⟩
    obtain ⟨A, n, c, hv, hle⟩ := hform
    have hr0 := run_append_zero (P := P) w (ty := ty) hT.under h1 A a' n c c' hle
    rw [← hv] at hr0
    unfold Oper.wp
    rw [hrunform _ hr0]
    exact hn v (row T v xs :: src :: fr) w (by simp) ⟨hos, htp, hot, Z, f, d, hz, hf, f1, f2, d12, l1, l2, hrow, g1, g2, e12, m1, m2, hs, hr⟩
  · subst hv1
    by_cases hy0 : ys = []
    · subst hy0
      refine .inl ?_
      have hform : ∃ A n c, v = .slice A n c ∧ n ≤ c := by
        rcases hrow with ⟨e1, _⟩ | ⟨q, c, arr, e1, _, e3, _⟩
        · exact ⟨none, 0, 0, e1, Nat.le_refl _⟩
        · exact ⟨_, _, c, e1, e3⟩
      obtain ⟨A, n, c, hv, hle⟩ := hform
      have hr0 := run_append_zero (P := P) w (ty := ty) hT.under h1 A (some ⟨b, o, none⟩) n c c' hle
      rw [← hv] at hr0
      unfold Oper.wp
      rw [hrunform _ hr0]
      exact hn v (row T v xs :: src :: fr) w (by simp) ⟨hos, htp, hot, Z, f, d, hz, hf, f1, f2, d12, l1, l2, hrow, g1, g2, e12, m1, m2, hs, hr⟩
    · have hpos : 0 < ys.length := List.length_pos_iff.2 hy0
      have hsrcfx : ∃ fx : Frag, fx b = some (.cells arr' T' fr') ∧ fx.In w ∧ f1.Dj fx := by
        rcases hblk with h | h
        · exact ⟨f2, m1 _ _ h, hf.le l2, d12⟩
        · exact ⟨Z, h, hz, dz1.symm⟩
      obtain ⟨fx, hb, hfx, hdfx⟩ := hsrcfx
      obtain ⟨v', w', f', hrun, o1, o2, o3, z', f2', fin', dz', df', hrow'⟩ := run_append (P := P) w (ty := ty) (c' := c') hT.under h1 h2 h3 h4 h5 dz1 d12 hz (hf.le l1) (hf.le l2) hrow hb hfx hdfx hpos hroom hel
      refine .inl ?_
      unfold Oper.wp
      rw [hrunform _ hrun]
      exact hn v' _ w' rfl ⟨o1.trans hos, o2.trans htp, o3.trans hot, Z, f'.cup f2, (Frag.cup_dj dz'.symm dz2.symm).symm, z', Frag.cup_in fin' f2', f', f2, df', Frag.le_cup_left _ _, Frag.le_cup_right df', hrow', g1, g2, e12, m1, m2, hs, hr⟩

theorem wo_append_row {t T : TypeId} {s x : Operand} {v v1 : Value} {xs ys : List α} {fr : List Chunk} (hT : ElT P α t T)
    (hs : sideB N e ops ⟨dst, .call { callee := .builtin .append, args := #[s, x], argTypes := #[t, t] }, ty, pos, af, g⟩ = true) (hx : e.val s = some v) (hy : e.val x = some v1) (hroom : (xs.length + ys.length) * Rep.bytes α ≤ 140737488355328)
    (hent : Ent cs (row T v xs :: row T v1 ys :: fr))
    (h : ∀ v', WO P N E ops rest K (putE dst v' e) (row T v' (xs ++ ys) :: fr)) : WO P N E ops (⟨dst, .call { callee := .builtin .append, args := #[s, x], argTypes := #[t, t] }, ty, pos, af, g⟩ :: rest) K e cs := by
  refine WO.weak (cs' := row T v xs :: row T v1 ys :: fr) ?_ (Env.Sub.refl _) hent
  refine wo_step hs (opT_append_src (ys := ys) hT hx hy hroom fun Z f hr => ?_) ?_
  · rcases row_src hr with ⟨h1, c, h2⟩ | ⟨b, c, arr, h1, h2, h3⟩
    · exact .inl ⟨h1, none, c, h2⟩
    · exact .inr ⟨b, 0, c, arr, T, (0, 0), h1, .inl h2, h3⟩
  · rintro v' _ rfl
    exact (h v').weak (Env.Sub.refl _) (Ent.tail (Ent.drop _ _))
theorem wo_append_dat {t T : TypeId} {s x : Operand} {v v1 : Value} {xs ys : List α} {fr : List Chunk} (hT : ElT P α t T)
    (hs : sideB N e ops ⟨dst, .call { callee := .builtin .append, args := #[s, x], argTypes := #[t, t] }, ty, pos, af, g⟩ = true) (hx : e.val s = some v) (hy : e.val x = some v1) (hroom : (xs.length + ys.length) * Rep.bytes α ≤ 140737488355328)
    (hent : Ent cs (row T v xs :: dat v1 ys :: fr))
    (h : ∀ v', WO P N E ops rest K (putE dst v' e) (row T v' (xs ++ ys) :: dat v1 ys :: fr)) : WO P N E ops (⟨dst, .call { callee := .builtin .append, args := #[s, x], argTypes := #[t, t] }, ty, pos, af, g⟩ :: rest) K e cs := by
  refine WO.weak (cs' := row T v xs :: dat v1 ys :: fr) ?_ (Env.Sub.refl _) hent
  refine wo_step hs (opT_append_src (ys := ys) hT hx hy hroom fun Z f hr => ?_) ?_
  · obtain ⟨a, c, hv, h1, h2, h3⟩ := hr
    by_cases hy0 : ys = []
    · subst hy0; exact .inl ⟨rfl, a, c, hv⟩
    · obtain ⟨b, o, arr, T', fr', e1, e2, e3⟩ := h3 (List.length_pos_iff.2 hy0)
      exact .inr ⟨b, o, c, arr, T', fr', by rw [hv, e1], .inr e2, e3⟩
  · rintro v' _ rfl
    exact h v'
end
end Go.Sep
