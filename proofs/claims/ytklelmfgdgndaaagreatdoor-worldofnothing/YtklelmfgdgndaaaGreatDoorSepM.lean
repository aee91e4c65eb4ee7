/- Maps. -/
import Derived.Test.YtklelmfgdgndaaaGreatDoorSepL
import Derived.MapKept
namespace Go.Sep
open Go.MapKept
/-- What may be a map's key. -/
class Key (κ : Type) where
  desc : TypeDesc
  enc : κ → Value
  eq : DecidableEq κ
  inj : ∀ {a b : κ}, enc a = enc b → a = b
  is : ∀ a, IsKey desc (enc a)
instance (κ : Type) [Key κ] : DecidableEq κ := Key.eq
instance : Key (List UInt8) := ⟨.string, str, inferInstance, fun h => by simpa using h, fun _ => trivial⟩
instance : Key Int := ⟨.int .i64, int, inferInstance, fun h => by simpa using h, fun _ => rfl⟩
def assoc {κ : Type} [Key κ] (l : List (κ × Value)) (k : κ) : Option Value := match l with
  | [] => none
  | (q, v) :: l => if q = k then some v else assoc l k
def update {κ : Type} [Key κ] (l : List (κ × Value)) (k : κ) (v : Value) : List (κ × Value) := match l with
  | [] => [(k, v)]
  | (q, u) :: l => if q = k then (q, v) :: l else (q, u) :: update l k v
def mapIs {κ : Type} [Key κ] (es : Array MapEntry) (clock : Nat) (l : List (κ × Value)) : Prop := Stamped es clock ∧ es.toList.map (fun e => (e.key, e.val)) = l.map fun p => (Key.enc p.1, p.2)
/-- A map of one's own. -/
def mp {κ : Type} [Key κ] (m : Nat) (l : List (κ × Value)) : Chunk := ⟨fun _ f => ∃ es clock, f m = some (.map es clock) ∧ mapIs es clock l, fun {_ _ _ _} _ l ⟨es, c, h, k⟩ => ⟨es, c, l _ _ h, k⟩⟩
theorem Sat.mpAt {κ : Type} [Key κ] {E : Env0} {w : World} {cs : List Chunk} {i m : Nat} {l : List (κ × Value)} (h : Sat E w cs) (hi : cs[i]? = some (mp m l)) : ∃ es clock, w.heap[m]? = some (.map es clock) ∧ mapIs es clock l := by
  obtain ⟨_, _, _, Z, f, _, _, hf, s⟩ := h
  obtain ⟨f1, f2, _, l1, _, ⟨es, c, h1, h2⟩, _⟩ := Ent0.front i cs _ hi Z f s
  exact ⟨es, c, hf _ _ (l1 _ _ h1), h2⟩
theorem mapIs.keys {κ : Type} [Key κ] {es : Array MapEntry} {clock : Nat} {l : List (κ × Value)} (h : mapIs es clock l) : ∀ x ∈ es.toList, IsKey (Key.desc κ) x.key := fun x hx => by
  have : (x.key, x.val) ∈ es.toList.map (fun e => (e.key, e.val)) := List.mem_map.2 ⟨x, hx, rfl⟩
  rw [h.2] at this
  obtain ⟨p, _, hp⟩ := List.mem_map.1 this
  injection hp with h1 _
  rw [← h1]; exact Key.is _
theorem find_assoc {κ : Type} [Key κ] (k : κ) : ∀ (es : List MapEntry) (l : List (κ × Value)) (i : Nat), es.map (fun e => (e.key, e.val)) = l.map (fun p => (Key.enc p.1, p.2)) →
    (Instr.findNow (Key.desc κ) (Key.enc k) es i = some none ∧ assoc l k = none) ∨ ∃ j e, Instr.findNow (Key.desc κ) (Key.enc k) es i = some (some (i + j, e.val)) ∧ es[j]? = some e ∧ e.key = Key.enc k ∧ assoc l k = some e.val ∧
      ∀ v : Value, List.map (fun e : MapEntry => (e.key, e.val)) (es.modify j (fun e => { e with key := Key.enc k, val := v })) = (update l k v).map (fun p => (Key.enc p.1, p.2))
  | [], l, i, h => by
    cases l with
    | nil => exact .inl ⟨rfl, rfl⟩
    | cons p l => simp at h
  | e :: es, [], i, h => by simp at h
  | e :: es, (q, v) :: l, i, h => by
    simp only [List.map_cons, List.cons.injEq, Prod.mk.injEq] at h
    obtain ⟨⟨h1, h2⟩, h3⟩ := h
    obtain ⟨r, hr, hiff⟩ := sameNow_of_keys (Key.is k) (by rw [h1]; exact Key.is q : IsKey (Key.desc κ) e.key)
    cases r with
    | true =>
      have hk : Key.enc k = e.key := hiff.1 rfl
      have hq : q = k := Key.inj (by rw [← h1, ← hk])
      refine .inr ⟨0, e, by simp [Instr.findNow, hr], rfl, hk.symm, by simp [assoc, hq, h2], fun v' => ?_⟩
      simp [update, hq, h3]
    | false =>
      have hk : Key.enc k ≠ e.key := fun c => by have := hiff.2 c; cases this
      have hq : q ≠ k := fun c => hk (by rw [h1, c])
      rcases find_assoc k es l (i + 1) h3 with ⟨g1, g2⟩ | ⟨j, e', g1, g2, g3, g4, g5⟩
      · exact .inl ⟨by simp [Instr.findNow, hr, g1], by simp [assoc, hq, g2]⟩
      · refine .inr ⟨j + 1, e', by simp [Instr.findNow, hr, g1]; omega, by simpa using g2, g3, by simp [assoc, hq, g4], fun v' => ?_⟩
        simp [update, hq, g5, h1, h2]
theorem update_none {κ : Type} [Key κ] {k : κ} {v : Value} : ∀ {l : List (κ × Value)}, assoc l k = none → update l k v = l ++ [(k, v)]
  | [], _ => rfl
  | (q, u) :: l, h => by
    simp only [assoc] at h
    split at h
    · cases h
    · rename_i hq; simp [update, hq, update_none h]
theorem Sat.setMp {κ : Type} [Key κ] {E : Env0} {w : World} {cs : List Chunk} {i m : Nat} {l l' : List (κ × Value)} {es es' : Array MapEntry} {clock clock' : Nat} (h : Sat E w cs) (hi : cs[i]? = some (mp m l)) (hb : w.heap[m]? = some (.map es clock)) (hm : mapIs es' clock' l') :
    Sat E { w with heap := w.heap.setIfInBounds m (.map es' clock') } (cs.set i (mp m l')) := by
  have hlt : i < cs.length := (List.getElem?_eq_some_iff.1 hi).1
  have h1 := h.ent (Ent.front i cs _ hi)
  have h2 : Sat E w (own m (.map es clock) :: cs.eraseIdx i) := by
    obtain ⟨a, b, c, Z, f, d, z, hf, f1, f2, d', l1, l2, ⟨es0, c0, g1, g2⟩, r⟩ := h1
    have := hf _ _ (l1 _ _ g1)
    rw [hb] at this; injection this with this
    exact ⟨a, b, c, Z, f, d, z, hf, f1, f2, d', l1, l2, by show f1 m = some _; rw [g1, this], r⟩
  have h3 := h2.setOwn (w' := { w with heap := w.heap.setIfInBounds m (.map es' clock') }) (o' := .map es' clock') rfl rfl rfl (heap_set hb).1 (fun k hk _ => (heap_set hb).2 k hk)
  have h4 : Sat E { w with heap := w.heap.setIfInBounds m (.map es' clock') } (mp m l' :: cs.eraseIdx i) := by
    obtain ⟨a, b, c, Z, f, d, z, hf, f1, f2, d', l1, l2, g1, r⟩ := h3
    exact ⟨a, b, c, Z, f, d, z, hf, f1, f2, d', l1, l2, ⟨es', clock', g1, hm⟩, r⟩
  refine h4.ent (Ent.of fun Z f x => ?_)
  have key : ∀ (i : Nat) (cs : List Chunk), i < cs.length → ∀ Z f, satL Z f (mp m l' :: cs.eraseIdx i) → satL Z f (cs.set i (mp m l')) := by
    intro i
    induction i with
    | zero => intro cs hl Z f h; cases cs with | nil => simp at hl | cons c cs => exact h
    | succ i ih =>
      intro cs hl Z f h
      cases cs with
      | nil => simp at hl
      | cons c cs =>
        have h' := Ent0.swap _ _ _ Z f h
        obtain ⟨f1, f2, d, l1, l2, x, r⟩ := h'
        exact ⟨f1, f2, d, l1, l2, x, ih cs (by simpa using hl) Z f2 r⟩
  exact key i cs hlt Z f x
section
variable {P : Program} {N : Nat} {E : Env0} {ops : Array Oper} {rest : List Oper} {K : Env → List Chunk → Prop} {e : Env} {cs : List Chunk}
variable {dst : Option Tmp} {ty : TypeId} {pos : String} {af : Array Edge} {g : Option (Nat × Bool)}
theorem wo_makeMap {t : TypeId} (κ : Type) [Key κ] (hs : sideB N e ops ⟨dst, .makeMap t none, ty, pos, af, g⟩ = true)
    (h : ∀ m, WO P N E ops rest K (putE dst (.map (some m)) e) (mp (κ := κ) m [] :: cs)) : WO P N E ops (⟨dst, .makeMap t none, ty, pos, af, g⟩ :: rest) K e cs :=
  wo_step hs (R := fun v cs' => ∃ m, v = .map (some m) ∧ cs' = mp (κ := κ) m [] :: cs) (fun A w _ hw next Q _ hn => by
    refine .inl ?_
    have : (execOp A.eval ⟨dst, .makeMap t none, ty, pos, af, g⟩).run P w = .ok (.value (.map (some w.heap.size))) (w.alloc (.map #[] 0)) := by
      simp [execOp, Instr.makeMap]
    unfold Oper.wp
    rw [this]
    refine hn _ _ _ ⟨_, rfl, rfl⟩ ?_
    obtain ⟨a, b, c, Z, f, d, z, hf, f1, f2, d', l1, l2, g1, r⟩ := hw.alloc (.map #[] 0)
    exact ⟨a, b, c, Z, f, d, z, hf, f1, f2, d', l1, l2, ⟨#[], 0, g1, stamped_empty 0, rfl⟩, r⟩) (by rintro _ _ ⟨b, rfl, rfl⟩; exact h b)
theorem wo_len_map {κ : Type} [Key κ] {t kt el : TypeId} {x : Operand} {m : Nat} {l : List (κ × Value)} (i : Nat) (hs : sideB N e ops ⟨dst, .call { callee := .builtin .len, args := #[x], argTypes := #[t] }, ty, pos, af, g⟩ = true)
    (ht : P.underlying t = some (.map kt el)) (hx : e.val x = some (.map (some m))) (hi : cs[i]? = some (mp m l))
    (h : WO P N E ops rest K (putE dst (int (l.length : Int)) e) cs) : WO P N E ops (⟨dst, .call { callee := .builtin .len, args := #[x], argTypes := #[t] }, ty, pos, af, g⟩ :: rest) K e cs :=
  wo_run hs (fun A w ha hw => by
    obtain ⟨es, c, h1, h2⟩ := hw.mpAt hi
    have hl : es.size = l.length := by have := congrArg List.length h2.2; simpa using this
    simp [execOp, resolve, invoke, builtin, Builtin.len_, run_underlying ht, ha.eval hx, MapKept.run_getObj_map h1, goInt, hl]) h
theorem wo_lookup {κ : Type} [Key κ] {t kt el : TypeId} {x ix : Operand} {m : Nat} {l : List (κ × Value)} {k : κ} {z : Value} (i : Nat) (hs : sideB N e ops ⟨dst, .lookup t x ix false, ty, pos, af, g⟩ = true)
    (ht : P.underlying t = some (.map kt el)) (hk : P.underlying kt = some (Key.desc κ)) (hz : ∀ w, (zeroValue el).run P w = .ok z w) (hx : e.val x = some (.map (some m))) (hi : cs[i]? = some (mp m l)) (hix : e.val ix = some (Key.enc k))
    (h : WO P N E ops rest K (putE dst ((assoc l k).getD z) e) cs) : WO P N E ops (⟨dst, .lookup t x ix false, ty, pos, af, g⟩ :: rest) K e cs :=
  wo_run hs (fun A w ha hw => by
    obtain ⟨es, c, h1, h2⟩ := hw.mpAt hi
    rcases find_assoc k es.toList l 0 h2.2 with ⟨g1, g2⟩ | ⟨j, e', g1, _, _, g4, _⟩
    · simp [execOp, ha.eval hx, ha.eval hix, Instr.lookup, run_underlying ht, MapKept.run_getObj_map h1, run_checkKey hk (Key.is k), run_findKey hk g1, hz, g2]
    · simp [execOp, ha.eval hx, ha.eval hix, Instr.lookup, run_underlying ht, MapKept.run_getObj_map h1, run_checkKey hk (Key.is k), run_findKey hk g1, g4]) h
theorem wo_lookupOk {κ : Type} [Key κ] {t kt el : TypeId} {x ix : Operand} {m : Nat} {l : List (κ × Value)} {k : κ} {z : Value} (i : Nat) (hs : sideB N e ops ⟨dst, .lookup t x ix true, ty, pos, af, g⟩ = true)
    (ht : P.underlying t = some (.map kt el)) (hk : P.underlying kt = some (Key.desc κ)) (hz : ∀ w, (zeroValue el).run P w = .ok z w) (hx : e.val x = some (.map (some m))) (hi : cs[i]? = some (mp m l)) (hix : e.val ix = some (Key.enc k))
    (h : WO P N E ops rest K (putE dst (.tuple #[(assoc l k).getD z, .bool (assoc l k).isSome]) e) cs) : WO P N E ops (⟨dst, .lookup t x ix true, ty, pos, af, g⟩ :: rest) K e cs :=
  wo_run hs (fun A w ha hw => by
    obtain ⟨es, c, h1, h2⟩ := hw.mpAt hi
    rcases find_assoc k es.toList l 0 h2.2 with ⟨g1, g2⟩ | ⟨j, e', g1, _, _, g4, _⟩
    · simp [execOp, ha.eval hx, ha.eval hix, Instr.lookup, run_underlying ht, MapKept.run_getObj_map h1, run_checkKey hk (Key.is k), run_findKey hk g1, hz, g2]
    · simp [execOp, ha.eval hx, ha.eval hix, Instr.lookup, run_underlying ht, MapKept.run_getObj_map h1, run_checkKey hk (Key.is k), run_findKey hk g1, g4]) h
theorem opT_update {κ : Type} [Key κ] {t kt el : TypeId} {o : Oper} {x ix y : Operand} {m : Nat} {l : List (κ × Value)} {k : κ} {v : Value} (i : Nat) (ho : o.op = .mapUpdate t x ix y ∨ o.op = .insert t x ix y)
    (ht : P.underlying t = some (.map kt el)) (hk : P.underlying kt = some (Key.desc κ)) (hx : e.val x = some (.map (some m))) (hi : cs[i]? = some (mp m l)) (hix : e.val ix = some (Key.enc k)) (hy : e.val y = some v) :
    OpT P N E o e cs (fun u cs' => u = undef ∧ cs' = cs.set i (mp m (update l k v))) := fun A w ha hw next Q ho' hn => by
  refine .inl ?_
  obtain ⟨es, c, h1, h2⟩ := hw.mpAt hi
  have hex : (execOp A.eval o) = (do Instr.mapUpdate t (A.eval x) (A.eval ix) (A.eval y); pure .skip) := by
    obtain ⟨d, op, ty, pos, af, g⟩ := o
    rcases ho with rfl | rfl <;> rfl
  have hrun : ∃ es' c', (Instr.mapUpdate t (.map (some m)) (Key.enc k) v).run P w = .ok () { w with heap := w.heap.setIfInBounds m (.map es' c') } ∧ mapIs es' c' (update l k v) := by
    rcases find_assoc k es.toList l 0 h2.2 with ⟨g1, g2⟩ | ⟨j, e', g1, gj, g3, g4, g5⟩
    · refine ⟨es.push { key := Key.enc k, val := v, born := c }, c + 1, by simp [Instr.mapUpdate, run_underlying ht, MapKept.run_getObj_map h1, run_checkKey hk (Key.is k), run_findKey hk g1, run_setObj_map _ h1], ?_, ?_⟩
      · refine stamped_push h2.1 fun x hx hc => ?_
        rcases findNow_spec (Key.is k) es.toList 0 h2.keys with ⟨_, q⟩ | ⟨_, _, q, _⟩
        · exact q x hx hc
        · rw [g1] at q; cases q
      · rw [update_none g2]; simp [h2.2]
    · have gj' : es[j]? = some e' := by simpa using gj
      have hkey : ∀ e'', es[j]? = some e'' → ({ e'' with key := Key.enc k, val := v } : MapEntry).key = e''.key := fun e'' h => by rw [gj'] at h; cases h; exact g3.symm
      refine ⟨es.modify j fun e => { e with key := Key.enc k, val := v }, c, by
        simp [Instr.mapUpdate, run_underlying ht, MapKept.run_getObj_map h1, run_checkKey hk (Key.is k), run_findKey hk g1, gj', g3, run_keyThatStays (Key.is k), run_setObj_map _ h1], stamped_modify h2.1 _ _ (fun _ _ => rfl) (fun e'' _ he => hkey e'' he), ?_⟩
      rw [Array.toList_modify]; exact g5 v
  obtain ⟨es', c', hr, hm⟩ := hrun
  have : (execOp A.eval o).run P w = .ok .skip { w with heap := w.heap.setIfInBounds m (.map es' c') } := by
    rw [hex, ha.eval hx, ha.eval hix, ha.eval hy]; simp [hr]
  unfold Oper.wp
  rw [this]
  exact hn _ _ _ ⟨rfl, rfl⟩ (hw.setMp hi h1 hm)
theorem wo_update {κ : Type} [Key κ] {t kt el : TypeId} {x ix y : Operand} {m : Nat} {l : List (κ × Value)} {k : κ} {v : Value} (i : Nat) (hs : sideB N e ops ⟨dst, .mapUpdate t x ix y, ty, pos, af, g⟩ = true)
    (ht : P.underlying t = some (.map kt el)) (hk : P.underlying kt = some (Key.desc κ)) (hx : e.val x = some (.map (some m))) (hi : cs[i]? = some (mp m l)) (hix : e.val ix = some (Key.enc k)) (hy : e.val y = some v)
    (h : WO P N E ops rest K (putE dst undef e) (cs.set i (mp m (update l k v)))) : WO P N E ops (⟨dst, .mapUpdate t x ix y, ty, pos, af, g⟩ :: rest) K e cs :=
  wo_step hs (opT_update i (.inl rfl) ht hk hx hi hix hy) (by rintro _ _ ⟨rfl, rfl⟩; exact h)
theorem wo_insert {κ : Type} [Key κ] {t kt el : TypeId} {x ix y : Operand} {m : Nat} {l : List (κ × Value)} {k : κ} {v : Value} (i : Nat) (hs : sideB N e ops ⟨dst, .insert t x ix y, ty, pos, af, g⟩ = true)
    (ht : P.underlying t = some (.map kt el)) (hk : P.underlying kt = some (Key.desc κ)) (hx : e.val x = some (.map (some m))) (hi : cs[i]? = some (mp m l)) (hix : e.val ix = some (Key.enc k)) (hy : e.val y = some v)
    (h : WO P N E ops rest K (putE dst undef e) (cs.set i (mp m (update l k v)))) : WO P N E ops (⟨dst, .insert t x ix y, ty, pos, af, g⟩ :: rest) K e cs :=
  wo_step hs (opT_update i (.inr rfl) ht hk hx hi hix hy) (by rintro _ _ ⟨rfl, rfl⟩; exact h)
/-- A way over a map. -/
def mit (r : Nat) (m : Option Nat) : Chunk := ⟨fun _ f => ∃ since seen last, f r = some (.mapIter m since seen last), fun {_ _ _ _} _ l ⟨a, b, c, h⟩ => ⟨a, b, c, l _ _ h⟩⟩
theorem wo_range {κ : Type} [Key κ] {t kt el : TypeId} {x : Operand} {m : Nat} {l : List (κ × Value)} (i : Nat) (hs : sideB N e ops ⟨dst, .range t x, ty, pos, af, g⟩ = true)
    (ht : P.underlying t = some (.map kt el)) (hx : e.val x = some (.map (some m))) (hi : cs[i]? = some (mp m l))
    (h : ∀ r, WO P N E ops rest K (putE dst (.pointer (some ⟨r, 0, none⟩)) e) (mit r (some m) :: cs)) : WO P N E ops (⟨dst, .range t x, ty, pos, af, g⟩ :: rest) K e cs :=
  wo_step hs (R := fun v cs' => ∃ r, v = .pointer (some ⟨r, 0, none⟩) ∧ cs' = mit r (some m) :: cs) (fun A w ha hw next Q _ hn => by
    refine .inl ?_
    obtain ⟨es, c, h1, h2⟩ := hw.mpAt hi
    have : (execOp A.eval ⟨dst, .range t x, ty, pos, af, g⟩).run P w = .ok (.value (.pointer (some ⟨w.heap.size, 0, none⟩))) (w.alloc (.mapIter (some m) c #[] c)) := by
      simp [execOp, ha.eval hx, Instr.range, run_underlying ht, MapKept.run_getObj_map h1]
    unfold Oper.wp
    rw [this]
    refine hn _ _ _ ⟨_, rfl, rfl⟩ ?_
    obtain ⟨a, b, c', Z, f, d, z, hf, f1, f2, d', l1, l2, g1, r⟩ := hw.alloc (.mapIter (some m) c #[] c)
    exact ⟨a, b, c', Z, f, d, z, hf, f1, f2, d', l1, l2, ⟨c, #[], c, g1⟩, r⟩) (by rintro _ _ ⟨b, rfl, rfl⟩; exact h b)
theorem wo_next_none {κ : Type} [Key κ] {x : Operand} {m r : Nat} (i j : Nat) (hs : sideB N e ops ⟨dst, .next x false, ty, pos, af, g⟩ = true)
    (hx : e.val x = some (.pointer (some ⟨r, 0, none⟩))) (hj : cs[j]? = some (mit r (some m))) (hi : cs[i]? = some (mp (κ := κ) m []))
    (h : WO P N E ops rest K (putE dst (.tuple #[.bool false]) e) cs) : WO P N E ops (⟨dst, .next x false, ty, pos, af, g⟩ :: rest) K e cs :=
  wo_run hs (fun A w ha hw => by
    obtain ⟨es, c, h1, h2⟩ := hw.mpAt hi
    have he : es = #[] := by have := h2.2; simpa using this
    subst he
    have h3 : ∃ since seen last, w.heap[r]? = some (.mapIter (some m) since seen last) := by
      obtain ⟨_, _, _, Z, f, _, _, hf, s⟩ := hw
      obtain ⟨f1, f2, _, l1, _, ⟨a, b, c, h4⟩, _⟩ := Ent0.front j cs _ hj Z f s
      exact ⟨a, b, c, hf _ _ (l1 _ _ h4)⟩
    obtain ⟨a, b, c', h3⟩ := h3
    have h4 : (getObj r).run P w = .ok (.mapIter (some m) a b c') w := by simp [getObj, Sem.run, h3]
    simp [execOp, ha.eval hx, Instr.next, h4, MapKept.run_getObj_map h1, Question.forced]) h
end
end Go.Sep
