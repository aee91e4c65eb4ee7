/- Memory: fields, variables, loads, stores, calls. -/
import Derived.Test.YtklelmfgdgndaaaGreatDoorSepD
import Derived.Laws.Tables
namespace Go.Sep

def setAt (vs : List Value) (o : Nat) (us : List Value) : List Value := vs.take o ++ us ++ vs.drop (o + us.length)
/-- Cells that nobody writes any more: what stands from o on in block b. -/
@[reducible] def icel (b o : Nat) (us : List Value) : Chunk :=
  per ⟨fun Z => ∃ arr T fr, Z b = some (.cells arr T fr) ∧ ∀ j v, us[j]? = some v → arr[o + j]? = some v, fun l ⟨arr, T, fr, h, k⟩ => ⟨arr, T, fr, l _ _ h, k⟩⟩

theorem Sat.icelAt {E : Env0} {w : World} {cs : List Chunk} {i b o : Nat} {us : List Value} (h : Sat E w cs) (hi : cs[i]? = some (icel b o us)) :
    ∀ j v, us[j]? = some v → w.cell? ⟨b, o + j, none⟩ = some v := by
  obtain ⟨_, _, _, Z, f, _, hz, _, f1, f2, _, _, _, ⟨arr, T, fr, h1, h2⟩, _⟩ := h.ent (Ent.front i cs _ hi)
  intro j v hj
  rw [cell_of_row w b (o + j) arr T fr (hz _ _ h1)]
  exact h2 j v hj
theorem Sat.celAt {E : Env0} {w : World} {cs : List Chunk} {i b T : Nat} {vs : List Value} (h : Sat E w cs) (hi : cs[i]? = some (cel b T vs)) (o : Nat) :
    w.cell? ⟨b, o, none⟩ = vs[o]? := by
  rw [cell_of_row w b o _ T (0, 0) (h.ownAtI hi)]; simp
theorem Sat.celFree {E : Env0} {w : World} {cs : List Chunk} {i b T : Nat} {vs : List Value} (h : Sat E w cs) (hi : cs[i]? = some (cel b T vs)) (o : Nat) :
    w.frozen? ⟨b, o, none⟩ = false := frozen_of_row w b o _ T (h.ownAtI hi)
theorem add_plain (b o j : Nat) : (⟨b, o, none⟩ : Addr).add j = ⟨b, o + j, none⟩ := by unfold Addr.add; split <;> simp_all

section
variable {P : Program} {N : Nat} {E : Env0} {ops : Array Oper} {rest : List Oper} {K : Env → List Chunk → Prop} {e : Env} {cs : List Chunk}
variable {dst : Option Tmp} {ty : TypeId} {pos : String} {af : Array Edge} {g : Option (Nat × Bool)}

def nilCmp (op : BinOp) (b : Bool) : Option Bool := match op with | .eql => some b | .neq => some (!b) | _ => none
theorem equalIn_ptr_nil (w : World) (d : Nat) (t el : TypeId) (p : Option Addr) (ht : P.underlying t = some (.pointer el)) : (Op.equalIn (d + 1) t (.pointer p) (.pointer none)).run P w = .ok p.isNone w := by
  cases p <;> simp [Op.equalIn, run_underlying ht]
theorem wo_ptr_nil {op : BinOp} {t u el : TypeId} {x y : Operand} {p : Option Addr} {b : Bool} (hs : sideB N e ops ⟨dst, .binOp op t x y u, ty, pos, af, g⟩ = true)
    (ht : P.underlying t = some (.pointer el)) (hx : e.val x = some (.pointer p)) (hy : e.val y = some (.pointer none))
    (hb : nilCmp op p.isNone = some b)
    (h : WO P N E ops rest K (putE dst (.bool b) e) cs) : WO P N E ops (⟨dst, .binOp op t x y u, ty, pos, af, g⟩ :: rest) K e cs :=
  wo_run hs (fun A w ha _ => by
    have h1 : (Op.equal t (.pointer p) (.pointer none)).run P w = .ok p.isNone w := equalIn_ptr_nil w 9999 t el p ht
    cases op <;> simp only [nilCmp, Option.some.injEq, reduceCtorEq] at hb <;> subst hb <;> simp only [execOp, ha.eval hx, ha.eval hy, eqGuard, binOp] <;> cases p <;> simp [h1]) h
theorem equalIn_slice_nil (w : World) (d : Nat) (t el : TypeId) (p : Option Addr) (n c : Nat) (ht : P.underlying t = some (.slice el)) : (Op.equalIn (d + 1) t (.slice p n c) (.slice none 0 0)).run P w = .ok p.isNone w := by
  cases p <;> simp [Op.equalIn, run_underlying ht]
theorem equalIn_map_nil (w : World) (d : Nat) (t kt el : TypeId) (p : Option Nat) (ht : P.underlying t = some (.map kt el)) : (Op.equalIn (d + 1) t (.map p) (.map none)).run P w = .ok p.isNone w := by
  cases p <;> simp [Op.equalIn, run_underlying ht]
theorem wo_slice_nil {op : BinOp} {t u el : TypeId} {x y : Operand} {p : Option Addr} {n c : Nat} {b : Bool} (hs : sideB N e ops ⟨dst, .binOp op t x y u, ty, pos, af, g⟩ = true)
    (ht : P.underlying t = some (.slice el)) (hx : e.val x = some (.slice p n c)) (hy : e.val y = some (.slice none 0 0))
    (hb : nilCmp op p.isNone = some b)
    (h : WO P N E ops rest K (putE dst (.bool b) e) cs) : WO P N E ops (⟨dst, .binOp op t x y u, ty, pos, af, g⟩ :: rest) K e cs :=
  wo_run hs (fun A w ha _ => by
    have h1 : (Op.equal t (.slice p n c) (.slice none 0 0)).run P w = .ok p.isNone w := equalIn_slice_nil w 9999 t el p n c ht
    cases op <;> simp only [nilCmp, Option.some.injEq, reduceCtorEq] at hb <;> subst hb <;> simp only [execOp, ha.eval hx, ha.eval hy, eqGuard, binOp] <;> cases p <;> simp [h1]) h
theorem wo_map_nil {op : BinOp} {t u kt el : TypeId} {x y : Operand} {p : Option Nat} {b : Bool} (hs : sideB N e ops ⟨dst, .binOp op t x y u, ty, pos, af, g⟩ = true)
    (ht : P.underlying t = some (.map kt el)) (hx : e.val x = some (.map p)) (hy : e.val y = some (.map none))
    (hb : nilCmp op p.isNone = some b)
    (h : WO P N E ops rest K (putE dst (.bool b) e) cs) : WO P N E ops (⟨dst, .binOp op t x y u, ty, pos, af, g⟩ :: rest) K e cs :=
  wo_run hs (fun A w ha _ => by
    have h1 : (Op.equal t (.map p) (.map none)).run P w = .ok p.isNone w := equalIn_map_nil w 9999 t kt el p ht
    cases op <;> simp only [nilCmp, Option.some.injEq, reduceCtorEq] at hb <;> subst hb <;> simp only [execOp, ha.eval hx, ha.eval hy, eqGuard, binOp] <;> cases p <;> simp [h1]) h

theorem wo_field {s i b o o' n : Nat} {x : Operand} {fs : Array Field} {f : Field} (hs : sideB N e ops ⟨dst, .fieldAddr s x i, ty, pos, af, g⟩ = true)
    (h1 : P.underlying s = some (.struct fs)) (h2 : fs[i]? = some f) (h3 : ∀ w, (sizeOf f.type).run P w = .ok (n + 1) w) (hx : e.val x = some (.pointer (some ⟨b, o, none⟩))) (ho : o + f.offset = o')
    (h : WO P N E ops rest K (putE dst (.pointer (some ⟨b, o', none⟩)) e) cs) : WO P N E ops (⟨dst, .fieldAddr s x i, ty, pos, af, g⟩ :: rest) K e cs :=
  wo_run hs (fun A w ha _ => by
    subst ho
    simp [execOp, ha.eval hx, Instr.fieldAt, run_underlying h1, h2, Instr.sureAddr, fieldPlace, h3, add_plain]) h

theorem wo_alloc {t : TypeId} {z : Value} {zs : List Value} (hs : sideB N e ops ⟨dst, .alloc t, ty, pos, af, g⟩ = true) (hz : ∀ w, (zeroValue t).run P w = .ok z w) (hzs : z.cells = zs.toArray)
    (h : ∀ b, WO P N E ops rest K (putE dst (.pointer (some ⟨b, 0, none⟩)) e) (cel b t zs :: cs)) : WO P N E ops (⟨dst, .alloc t, ty, pos, af, g⟩ :: rest) K e cs :=
  wo_step hs (R := fun v cs' => ∃ b, v = .pointer (some ⟨b, 0, none⟩) ∧ cs' = cel b t zs :: cs) (fun A w _ hw next Q _ hn => by
    refine .inl ?_
    have : (execOp A.eval ⟨dst, .alloc t, ty, pos, af, g⟩).run P w = .ok (.value (.pointer (some ⟨w.heap.size, 0, none⟩))) (w.alloc (.cells z.cells t)) := by
      simp [execOp, Instr.alloc, hz, newVar, newRow]
    unfold Oper.wp
    rw [this]
    exact hn _ _ _ ⟨_, rfl, rfl⟩ (by have := hw.alloc (.cells z.cells t); rw [hzs] at this ⊢; exact this)) (by rintro _ _ ⟨b, rfl, rfl⟩; exact h b)
theorem wo_box {t : TypeId} {x : Operand} {v : Value} {vs : List Value} (hs : sideB N e ops ⟨dst, .box t x, ty, pos, af, g⟩ = true) (hx : e.val x = some v) (hvs : v.cells = vs.toArray)
    (h : ∀ b, WO P N E ops rest K (putE dst (.pointer (some ⟨b, 0, none⟩)) e) (cel b t vs :: cs)) : WO P N E ops (⟨dst, .box t x, ty, pos, af, g⟩ :: rest) K e cs :=
  wo_step hs (R := fun v cs' => ∃ b, v = .pointer (some ⟨b, 0, none⟩) ∧ cs' = cel b t vs :: cs) (fun A w ha hw next Q _ hn => by
    refine .inl ?_
    have : (execOp A.eval ⟨dst, .box t x, ty, pos, af, g⟩).run P w = .ok (.value (.pointer (some ⟨w.heap.size, 0, none⟩))) (w.alloc (.cells v.cells t)) := by
      simp [execOp, Instr.box, ha.eval hx, newVar, newRow]
    unfold Oper.wp
    rw [this]
    exact hn _ _ _ ⟨_, rfl, rfl⟩ (by have := hw.alloc (.cells v.cells t); rw [hvs] at this ⊢; exact this)) (by rintro _ _ ⟨b, rfl, rfl⟩; exact h b)

/-- A load of one cell: from a row of one's own, or from memory that nobody writes any more. -/
theorem wo_load {t T b o : Nat} {x : Operand} {vs : List Value} {v : Value} (i : Nat) (hs : sideB N e ops ⟨dst, .load t x, ty, pos, af, g⟩ = true) (hagg : ∀ w, (isAgg t).run P w = .ok false w)
    (hx : e.val x = some (.pointer (some ⟨b, o, none⟩))) (hi : cs[i]? = some (cel b T vs)) (hv : vs[o]? = some v)
    (h : WO P N E ops rest K (putE dst v e) cs) : WO P N E ops (⟨dst, .load t x, ty, pos, af, g⟩ :: rest) K e cs :=
  wo_run hs (fun A w ha hw => by
    have := hw.celAt hi o
    rw [hv] at this
    simp [execOp, ha.eval hx, Instr.loadAt, Instr.sureAddr, loadVar, hagg, this]) h
theorem wo_iload {t b o j : Nat} {x : Operand} {us : List Value} {v : Value} {o' : Nat} (i : Nat) (hs : sideB N e ops ⟨dst, .load t x, ty, pos, af, g⟩ = true) (hagg : ∀ w, (isAgg t).run P w = .ok false w)
    (hx : e.val x = some (.pointer (some ⟨b, o', none⟩))) (hi : cs[i]? = some (icel b o us)) (ho : o + j = o') (hv : us[j]? = some v)
    (h : WO P N E ops rest K (putE dst v e) cs) : WO P N E ops (⟨dst, .load t x, ty, pos, af, g⟩ :: rest) K e cs :=
  wo_run hs (fun A w ha hw => by
    subst ho
    have := hw.icelAt hi j v hv
    simp [execOp, ha.eval hx, Instr.loadAt, Instr.sureAddr, loadVar, hagg, this]) h
theorem wo_loadS {t T b o n : Nat} {x : Operand} {vs us : List Value} (i : Nat) (hs : sideB N e ops ⟨dst, .load t x, ty, pos, af, g⟩ = true) (hagg : ∀ w, (isAgg t).run P w = .ok true w)
    (hn : ∀ w, (sizeOf t).run P w = .ok n w) (hx : e.val x = some (.pointer (some ⟨b, o, none⟩))) (hi : cs[i]? = some (cel b T vs)) (hu : (vs.drop o).take n = us) (hl : Nat.beq us.length n = true)
    (h : WO P N E ops rest K (putE dst (.agg us.toArray) e) cs) : WO P N E ops (⟨dst, .load t x, ty, pos, af, g⟩ :: rest) K e cs :=
  wo_run hs (fun A w ha hw => by
    have hl' := Nat.eq_of_beq_eq_true hl
    have hr := run_loadCells_list (P := P) w ⟨b, o, none⟩ us (fun j v hj => by
      rw [add_plain, hw.celAt hi (o + j), ← hj, ← hu, List.getElem?_take, List.getElem?_drop]
      have : j < n := by rw [← hl']; exact (List.getElem?_eq_some_iff.1 hj).1
      simp [this])
    rw [hl'] at hr
    simp [execOp, ha.eval hx, Instr.loadAt, Instr.sureAddr, loadVar, hagg, hn, hr]) h
theorem wo_iloadS {t b o j n : Nat} {x : Operand} {us us' : List Value} {o' : Nat} (i : Nat) (hs : sideB N e ops ⟨dst, .load t x, ty, pos, af, g⟩ = true) (hagg : ∀ w, (isAgg t).run P w = .ok true w)
    (hn : ∀ w, (sizeOf t).run P w = .ok n w) (hx : e.val x = some (.pointer (some ⟨b, o', none⟩))) (hi : cs[i]? = some (icel b o us)) (ho : o + j = o') (hu : (us.drop j).take n = us') (hl : us'.length = n)
    (h : WO P N E ops rest K (putE dst (.agg us'.toArray) e) cs) : WO P N E ops (⟨dst, .load t x, ty, pos, af, g⟩ :: rest) K e cs :=
  wo_run hs (fun A w ha hw => by
    subst ho
    have hr := run_loadCells_list (P := P) w ⟨b, o + j, none⟩ us' (fun q v hq => by
      rw [add_plain, Nat.add_assoc]
      refine hw.icelAt hi (j + q) v ?_
      rw [← hq, ← hu, List.getElem?_take, List.getElem?_drop]
      have : q < n := by rw [← hl]; exact (List.getElem?_eq_some_iff.1 hq).1
      simp [this])
    rw [hl] at hr
    simp [execOp, ha.eval hx, Instr.loadAt, Instr.sureAddr, loadVar, hagg, hn, hr]) h

theorem storeCells_own (P : Program) {T b : Nat} (o : Nat) : ∀ (us : List Value) (k : Nat) {E : Env0} {w : World} {cs : List Chunk} {vs : List Value} {i : Nat}, Sat E w cs → cs[i]? = some (cel b T vs) → o + k + us.length ≤ vs.length →
    (∀ u ∈ us, u.oneCell' = true) → ∃ w', (storeCells ⟨b, o, none⟩ us k).run P w = .ok () w' ∧ Sat E w' (cs.set i (cel b T (setAt vs (o + k) us)))
  | [], k, E, w, cs, vs, i, h, hi, _, _ => by
    refine ⟨w, by simp [storeCells], ?_⟩
    have : setAt vs (o + k) [] = vs := by simp [setAt]
    rw [this]
    have : cs.set i (cel b T vs) = cs := by
      obtain ⟨hlt, hg⟩ := List.getElem?_eq_some_iff.1 hi
      rw [← hg]; exact List.set_getElem_self hlt
    rw [this]; exact h
  | u :: us, k, E, w, cs, vs, i, h, hi, hl, h1 => by
    simp only [List.length_cons] at hl
    have hu := h1 u (by simp)
    have hc := h.celAt hi (o + k)
    rw [List.getElem?_eq_getElem (by omega)] at hc
    have hf := h.celFree hi (o + k)
    have hb := h.ownAtI hi
    have hilt : i < cs.length := (List.getElem?_eq_some_iff.1 hi).1
    have h2 : Sat E (w.setCell ⟨b, o + k, none⟩ u) (cs.set i (cel b T (vs.set (o + k) u))) :=
      h.setOwnI hi rfl rfl rfl (by rw [heap_setCell_same w b (o + k) _ T u hb]; simp) (fun q hq _ => heap_setCell_other w _ q u hq)
    obtain ⟨w', hr, hs⟩ := storeCells_own P (b := b) (T := T) o us (k + 1) (i := i) (vs := vs.set (o + k) u) h2 (by simp [hilt]) (by simp; omega) (fun x hx => h1 x (by simp [hx]))
    refine ⟨w', ?_, ?_⟩
    · simp only [storeCells, Sem.run_bind, add_plain, run_store P w _ u .plain hu, hc, hf]
      simpa [add_plain] using hr
    · rw [List.set_set] at hs
      have : setAt (vs.set (o + k) u) (o + (k + 1)) us = setAt vs (o + k) (u :: us) := by
        simp only [setAt, List.length_cons]
        have e1 : o + (k + 1) = (o + k) + 1 := by omega
        rw [e1, List.drop_set_of_lt (by omega), List.take_set]
        have e2 : o + k + (us.length + 1) = o + k + 1 + us.length := by omega
        rw [e2, List.take_succ_eq_append_getElem (by omega)]
        rw [List.set_append_right _ _ (by simp; omega), List.length_take]
        simp [Nat.min_eq_left (show o + k ≤ vs.length by omega)]
      rw [this] at hs
      exact hs

theorem wo_store {t T b o : Nat} {x y : Operand} {vs us vs' : List Value} {v : Value} (i : Nat) (hs : sideB N e ops ⟨dst, .store t x y, ty, pos, af, g⟩ = true)
    (hx : e.val x = some (.pointer (some ⟨b, o, none⟩))) (hy : e.val y = some v) (hvs : v.cells = us.toArray) (hn : ∀ w, (sizeOf t).run P w = .ok us.length w) (hi : cs[i]? = some (cel b T vs))
    (hle : Nat.ble (o + us.length) vs.length = true) (h1 : us.all (·.oneCell') = true) (hset : setAt vs o us = vs')
    (h : WO P N E ops rest K (putE dst undef e) (cs.set i (cel b T vs'))) : WO P N E ops (⟨dst, .store t x y, ty, pos, af, g⟩ :: rest) K e cs :=
  wo_step hs (R := fun v cs' => v = undef ∧ cs' = cs.set i (cel b T vs')) (fun A w ha hw next Q _ hn' => by
    refine .inl ?_
    obtain ⟨w', hr, hsat⟩ := storeCells_own P (b := b) (T := T) o us 0 hw hi (by simpa using Nat.le_of_ble_eq_true hle) (fun u hu => List.all_eq_true.1 h1 u hu)
    simp only [Nat.add_zero, hset] at hsat
    have : (execOp A.eval ⟨dst, .store t x y, ty, pos, af, g⟩).run P w = .ok .skip w' := by
      simp [execOp, ha.eval hx, ha.eval hy, Instr.storeAt, Instr.sureAddr, storeVar, hn, hvs, hr]
    unfold Oper.wp
    rw [this]
    exact hn' _ _ _ ⟨rfl, rfl⟩ hsat) (by rintro _ _ ⟨rfl, rfl⟩; exact h)

theorem wo_build {t : TypeId} {ps : Array (Nat × Operand)} {vals : List (Nat × Value)} {us : List Value} (hs : sideB N e ops ⟨dst, .build t ps, ty, pos, af, g⟩ = true)
    (hv : ps.toList.mapM (fun p => match e.val p.2 with | some v => some (p.1, v) | none => none) = some vals) (hb : P.built t vals = some us.toArray)
    (h : WO P N E ops rest K (putE dst (.agg us.toArray) e) cs) : WO P N E ops (⟨dst, .build t ps, ty, pos, af, g⟩ :: rest) K e cs :=
  wo_run hs (fun A w ha _ => by
    have key : ∀ (l : List (Nat × Operand)) (vals : List (Nat × Value)), l.mapM (fun p => match e.val p.2 with | some v => some (p.1, v) | none => none) = some vals → l.map (fun p => (p.1, A.eval p.2)) = vals := by
      intro l
      induction l with
      | nil => intro vals h; simp at h; simp [h]
      | cons p l ih =>
        intro vals h
        simp only [List.mapM_cons, Option.bind_eq_bind, Option.pure_def] at h
        cases hp : e.val p.2 with
        | none => simp [hp] at h
        | some v =>
          simp only [hp, Option.bind_some] at h
          cases hl : l.mapM (fun p => match e.val p.2 with | some v => some (p.1, v) | none => none) with
          | none => rw [hl] at h; simp at h
          | some vs =>
            rw [hl] at h
            simp at h
            subst h
            simp [ha.eval hp, ih vs hl]
    have h2 := key _ _ hv
    have h3 : (ps.map fun p => (p.1, A.eval p.2)).toList = vals := by rw [← h2]; simp
    have hr := run_build (P := P) w t (ps.map fun p => (p.1, A.eval p.2)) us.toArray (by rw [h3]; exact hb)
    simp [execOp, hr]) h

/-! ### Calls -/
theorem wo_call {f : FuncId} {args : Array Operand} {tys : Array TypeId} {vs : List Value} {pre fr : List Chunk} {post : Value → List Chunk → Prop}
    (S : Con P f vs pre post) (hs : sideB N e ops ⟨dst, .call { callee := .value (.func f), args, argTypes := tys }, ty, pos, af, g⟩ = true)
    (hc : ∀ (args : Array Value) w, (callFunc f args).run P w = .ok (.enter f args) w) (hv : e.vals args.toList = some vs) (hent : Ent cs (pre ++ fr))
    (h : ∀ v cs', post v cs' → WO P N E ops rest K (putE dst v e) (cs' ++ fr)) : WO P N E ops (⟨dst, .call { callee := .value (.func f), args, argTypes := tys }, ty, pos, af, g⟩ :: rest) K e cs :=
  wo_step hs (R := fun v cs' => ∃ ds, post v ds ∧ cs' = ds ++ fr) (fun A w ha hw next Q ho hn => by
    refine .inl ?_
    have h2 : args.map A.eval = vs.toArray := by apply Array.toList_inj.1; rw [Array.toList_map, ha.evals hv]
    have h3 : A.eval (.func f) = .func (.func f) #[] #[] := rfl
    have : (execOp A.eval ⟨dst, .call { callee := .value (.func f), args, argTypes := tys }, ty, pos, af, g⟩).run P w = .ok (.enter f vs.toArray) w := by
      simp [execOp, resolve, h3, h2, Deferred.ofValue, invoke, hc]
    unfold Oper.wp
    rw [this, Oper.upon_enter]
    refine (S E fr w (hw.ent hent)).mono ?_
    intro r w' hr
    cases r with
    | returned v => obtain ⟨ds, hp, hsat⟩ := hr; exact hn v _ w' ⟨ds, hp, rfl⟩ hsat
    | panicked c => exact hr.elim
    | outgrown => exact hr.elim) (by rintro v _ ⟨ds, hp, rfl⟩; exact h v ds hp)
/-- A call of a function value. -/
theorem wo_callv {f : FuncId} {x : Operand} {first captured : Array Value} {args : Array Operand} {tys : Array TypeId} {vs : List Value} {pre fr : List Chunk} {post : Value → List Chunk → Prop}
    (S : Con P f (first.toList ++ vs ++ captured.toList) pre post) (hs : sideB N e ops ⟨dst, .call { callee := .value x, args, argTypes := tys }, ty, pos, af, g⟩ = true)
    (hx : e.val x = some (.func (.func f) first captured))
    (hc : ∀ (args : Array Value) w, (callFunc f args).run P w = .ok (.enter f args) w) (hv : e.vals args.toList = some vs) (hent : Ent cs (pre ++ fr))
    (h : ∀ v cs', post v cs' → WO P N E ops rest K (putE dst v e) (cs' ++ fr)) : WO P N E ops (⟨dst, .call { callee := .value x, args, argTypes := tys }, ty, pos, af, g⟩ :: rest) K e cs :=
  wo_step hs (R := fun v cs' => ∃ ds, post v ds ∧ cs' = ds ++ fr) (fun A w ha hw next Q ho hn => by
    refine .inl ?_
    have h2 : args.map A.eval = vs.toArray := by apply Array.toList_inj.1; rw [Array.toList_map, ha.evals hv]
    have h4 : first ++ vs.toArray ++ captured = (first.toList ++ vs ++ captured.toList).toArray := by apply Array.toList_inj.1; simp
    have : (execOp A.eval ⟨dst, .call { callee := .value x, args, argTypes := tys }, ty, pos, af, g⟩).run P w = .ok (.enter f (first.toList ++ vs ++ captured.toList).toArray) w := by
      simp only [execOp, resolve, ha.eval hx, h2, Deferred.ofValue, Sem.run_bind, Sem.run_pure, Result.andThen_ok, invoke, h4, hc]
    unfold Oper.wp
    rw [this, Oper.upon_enter]
    refine (S E fr w (hw.ent hent)).mono ?_
    intro r w' hr
    cases r with
    | returned v => obtain ⟨ds, hp, hsat⟩ := hr; exact hn v _ w' ⟨ds, hp, rfl⟩ hsat
    | panicked c => exact hr.elim
    | outgrown => exact hr.elim) (by rintro v _ ⟨ds, hp, rfl⟩; exact h v ds hp)
end
end Go.Sep
