/- Calls that give back what they were lent. -/
import Derived.Test.YtklelmfgdgndaaaGreatDoorSepI
import Derived.Lib.Bytealg
namespace Go.Sep
section
variable {P : Program} {N : Nat} {E : Env0} {ops : Array Oper} {rest : List Oper} {K : Env → List Chunk → Prop} {e : Env} {cs : List Chunk}
variable {dst : Option Tmp} {ty : TypeId} {pos : String} {af : Array Edge} {g : Option (Nat × Bool)}
/-- A call that answers r and leaves what it was lent as it was. -/
@[reducible] def ConR (P : Program) (f : FuncId) (args : List Value) (pre : List Chunk) (r : Value) : Prop := Con P f args pre (fun v cs => v = r ∧ cs = pre)
theorem wo_callk {f : FuncId} {args : Array Operand} {tys : Array TypeId} {vs : List Value} {pre fr : List Chunk} {r : Value}
    (S : ConR P f vs pre r) (hs : sideB N e ops ⟨dst, .call { callee := .value (.func f), args, argTypes := tys }, ty, pos, af, g⟩ = true)
    (hc : ∀ (args : Array Value) w, (callFunc f args).run P w = .ok (.enter f args) w) (hv : e.vals args.toList = some vs) (hent : Ent cs (pre ++ fr)) (hback : Ent (pre ++ fr) cs)
    (h : WO P N E ops rest K (putE dst r e) cs) : WO P N E ops (⟨dst, .call { callee := .value (.func f), args, argTypes := tys }, ty, pos, af, g⟩ :: rest) K e cs :=
  wo_call S hs hc hv hent (by rintro v cs' ⟨rfl, rfl⟩; exact h.weak (Env.Sub.refl _) hback)
theorem wo_callvk {f : FuncId} {x : Operand} {first captured : Array Value} {args : Array Operand} {tys : Array TypeId} {vs : List Value} {pre fr : List Chunk} {r : Value}
    (S : ConR P f (first.toList ++ vs ++ captured.toList) pre r) (hs : sideB N e ops ⟨dst, .call { callee := .value x, args, argTypes := tys }, ty, pos, af, g⟩ = true)
    (hx : e.val x = some (.func (.func f) first captured))
    (hc : ∀ (args : Array Value) w, (callFunc f args).run P w = .ok (.enter f args) w) (hv : e.vals args.toList = some vs) (hent : Ent cs (pre ++ fr)) (hback : Ent (pre ++ fr) cs)
    (h : WO P N E ops rest K (putE dst r e) cs) : WO P N E ops (⟨dst, .call { callee := .value x, args, argTypes := tys }, ty, pos, af, g⟩ :: rest) K e cs :=
  wo_callv S hs hx hc hv hent (by rintro v cs' ⟨rfl, rfl⟩; exact h.weak (Env.Sub.refl _) hback)
end
/-! ### Contracts whose result and memory are told -/
@[reducible] def ConX (P : Program) (f : FuncId) (args : List Value) (pre : List Chunk) {X : Type} (r : X → Value) (post : X → List Chunk) : Prop := Con P f args pre (fun v cs => ∃ x, v = r x ∧ cs = post x)
section
variable {P : Program} {N : Nat} {E : Env0} {ops : Array Oper} {rest : List Oper} {K : Env → List Chunk → Prop} {e : Env} {cs : List Chunk}
variable {dst : Option Tmp} {ty : TypeId} {pos : String} {af : Array Edge} {g : Option (Nat × Bool)}
theorem wo_callx {X : Type} {f : FuncId} {args : Array Operand} {tys : Array TypeId} {vs : List Value} {pre fr : List Chunk} {r : X → Value} {post : X → List Chunk}
    (S : ConX P f vs pre r post) (hs : sideB N e ops ⟨dst, .call { callee := .value (.func f), args, argTypes := tys }, ty, pos, af, g⟩ = true)
    (hc : ∀ (args : Array Value) w, (callFunc f args).run P w = .ok (.enter f args) w) (hv : e.vals args.toList = some vs) (hent : Ent cs (pre ++ fr))
    (h : ∀ x, WO P N E ops rest K (putE dst (r x) e) (post x ++ fr)) : WO P N E ops (⟨dst, .call { callee := .value (.func f), args, argTypes := tys }, ty, pos, af, g⟩ :: rest) K e cs :=
  wo_call S hs hc hv hent (by rintro v cs' ⟨x, rfl, rfl⟩; exact h x)
theorem wo_callvx {X : Type} {f : FuncId} {x : Operand} {first captured : Array Value} {args : Array Operand} {tys : Array TypeId} {vs : List Value} {pre fr : List Chunk} {r : X → Value} {post : X → List Chunk}
    (S : ConX P f (first.toList ++ vs ++ captured.toList) pre r post) (hs : sideB N e ops ⟨dst, .call { callee := .value x, args, argTypes := tys }, ty, pos, af, g⟩ = true)
    (hx : e.val x = some (.func (.func f) first captured))
    (hc : ∀ (args : Array Value) w, (callFunc f args).run P w = .ok (.enter f args) w) (hv : e.vals args.toList = some vs) (hent : Ent cs (pre ++ fr))
    (h : ∀ x, WO P N E ops rest K (putE dst (r x) e) (post x ++ fr)) : WO P N E ops (⟨dst, .call { callee := .value x, args, argTypes := tys }, ty, pos, af, g⟩ :: rest) K e cs :=
  wo_callv S hs hx hc hv hent (by rintro v cs' ⟨x, rfl, rfl⟩; exact h x)
/-- A call of a function that the model gives. -/
theorem wo_ext {f : FuncId} {args : Array Operand} {tys : Array TypeId} {vs : List Value} {r : Value}
    (hc : ∀ w, (callFunc f vs.toArray).run P w = .ok (.value r) w) (hs : sideB N e ops ⟨dst, .call { callee := .value (.func f), args, argTypes := tys }, ty, pos, af, g⟩ = true)
    (hv : e.vals args.toList = some vs)
    (h : WO P N E ops rest K (putE dst r e) cs) : WO P N E ops (⟨dst, .call { callee := .value (.func f), args, argTypes := tys }, ty, pos, af, g⟩ :: rest) K e cs :=
  wo_run hs (fun A w ha _ => by
    have h2 : args.map A.eval = vs.toArray := by apply Array.toList_inj.1; rw [Array.toList_map, ha.evals hv]
    have h3 : A.eval (.func f) = .func (.func f) #[] #[] := rfl
    simp [execOp, resolve, h3, h2, Deferred.ofValue, invoke, hc]) h
end
theorem Ent.eq {cs cs' : List Chunk} (h : cs = cs') : Ent cs cs' := by subst h; exact Ent.refl _
/-! ### Results -/
def resV (a : Act) : ResultVar → Sem Value
  | .tmp t => pure (a.tmps.getD t undef)
  | .cell x t => do loadVar t (← asAddr (a.tmps.getD x undef))
theorem results_resV (fn : Func) (a : Act) : results fn a.tmps = (do let vs ← fn.results.mapM (resV a); pure (if h : vs.size = 1 then vs[0] else .tuple vs)) := by
  unfold results
  congr 1
def RetE (P : Program) (N : Nat) (E : Env0) (e : Env) (cs : List Chunk) (r : ResultVar) (v : Value) : Prop := ∀ a w, Agree N e a → Sat E w cs → (resV a r).run P w = .ok v w
section
variable {P : Program} {N : Nat} {E : Env0} {e : Env} {cs : List Chunk} {fn : Func}
theorem RetE.slot {t : Tmp} {v : Value} (h : e.get? t = some v) : RetE P N E e cs (.tmp t) v := fun a w ha _ => by simp [resV, (ha.get t v h).1]
theorem RetE.row {x t T b o n : Nat} {vs us : List Value} (i : Nat) (hx : e.get? x = some (.pointer (some ⟨b, o, none⟩))) (hagg : ∀ w, (isAgg t).run P w = .ok true w)
    (hn : ∀ w, (sizeOf t).run P w = .ok n w) (hi : cs[i]? = some (cel b T vs)) (hu : (vs.drop o).take n = us) (hl : Nat.beq us.length n = true) : RetE P N E e cs (.cell x t) (.agg us.toArray) := fun a w ha hw => by
  have hl' := Nat.eq_of_beq_eq_true hl
  have hr := run_loadCells_list (P := P) w ⟨b, o, none⟩ us (fun j v hj => by
    rw [add_plain, hw.celAt hi (o + j), ← hj, ← hu, List.getElem?_take, List.getElem?_drop]
    have : j < n := by rw [← hl']; exact (List.getElem?_eq_some_iff.1 hj).1
    simp [this])
  rw [hl'] at hr
  simp [resV, (ha.get x _ hx).1, asAddr, loadVar, hagg, hn, hr]
theorem RetE.one {x t T b o : Nat} {vs : List Value} {v : Value} (i : Nat) (hx : e.get? x = some (.pointer (some ⟨b, o, none⟩))) (hagg : ∀ w, (isAgg t).run P w = .ok false w)
    (hi : cs[i]? = some (cel b T vs)) (hv : vs[o]? = some v) : RetE P N E e cs (.cell x t) v := fun a w ha hw => by
  have := hw.celAt hi o
  rw [hv] at this
  simp [resV, (ha.get x _ hx).1, asAddr, loadVar, hagg, this]
theorem retE1 {r : ResultVar} {v : Value} (hr : fn.results = #[r]) (h : RetE P N E e cs r v) : RetOK P N E fn e cs v := fun a w ha hw => by
  rw [results_resV, hr]; simp [h a w ha hw]
theorem retE2 {r s : ResultVar} {v u : Value} (hr : fn.results = #[r, s]) (h : RetE P N E e cs r v) (h2 : RetE P N E e cs s u) : RetOK P N E fn e cs (.tuple #[v, u]) := fun a w ha hw => by
  rw [results_resV, hr]; simp [h a w ha hw, h2 a w ha hw]
theorem retE3 {r s t : ResultVar} {v u x : Value} (hr : fn.results = #[r, s, t]) (h : RetE P N E e cs r v) (h2 : RetE P N E e cs s u) (h3 : RetE P N E e cs t x) : RetOK P N E fn e cs (.tuple #[v, u, x]) := fun a w ha hw => by
  rw [results_resV, hr]; simp [h a w ha hw, h2 a w ha hw, h3 a w ha hw]
theorem retE4 {r s t q : ResultVar} {v u x y : Value} (hr : fn.results = #[r, s, t, q]) (h : RetE P N E e cs r v) (h2 : RetE P N E e cs s u) (h3 : RetE P N E e cs t x) (h4 : RetE P N E e cs q y) : RetOK P N E fn e cs (.tuple #[v, u, x, y]) := fun a w ha hw => by
  rw [results_resV, hr]; simp [h a w ha hw, h2 a w ha hw, h3 a w ha hw, h4 a w ha hw]
end
theorem strGet {s : Str} {k : Nat} (h : k < s.length) : s[k]? = some (s.getD k 0) := by simp [h]
theorem lt_of_dec {a b : Nat} (h : decide ((a : Int) < (b : Int)) = true) : a < b := by simpa using h
theorem ext_indexByte {P : Program} {f : FuncId} {fn : Func} (hf : P.funcs[f]? = some fn) (hname : (fn.name == "runtime.NumGoroutine") = false) (hb : fn.body.isNone = true) (hn : Extern.findNext fn = none)
    (he : Extern.find fn = some Extern.BytealgIndexByte.indexByte) (s : Str) (c : UInt8) (w : World) : (callFunc f [str s, .int .u8 (c.toNat : Int)].toArray).run P w = .ok (.value (int (Lib.indexByte s c))) w := by
  rw [run_callFunc_extern hf hname hb hn he, Lib.run_indexByteString]
  simp
end Go.Sep
