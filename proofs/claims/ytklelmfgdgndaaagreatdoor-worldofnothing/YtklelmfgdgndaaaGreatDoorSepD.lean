/- The rules of the operations that ask for a type, or touch memory. -/
import Derived.Test.YtklelmfgdgndaaaGreatDoorSepC
import Derived.Room.AppendOwn
namespace Go.Sep

theorem Sat.ownAtI {E : Env0} {w : World} {cs : List Chunk} {i b : Nat} {o : Obj} (h : Sat E w cs) (hi : cs[i]? = some (own b o)) : w.heap[b]? = some o :=
  (h.ent (Ent.front i cs _ hi)).ownAt
theorem Ent.back {cs : List Chunk} {i : Nat} {c c' : Chunk} (hi : cs[i]? = some c) : Ent (c' :: cs.eraseIdx i) (cs.set i c') := by
  induction cs generalizing i with
  | nil => simp at hi
  | cons x cs ih =>
    cases i with
    | zero => simp; exact Ent.refl _
    | succ i =>
      simp only [List.getElem?_cons_succ] at hi
      simp only [List.eraseIdx_cons_succ, List.set_cons_succ]
      exact (Ent.swap _ _ _).trans (Ent.tail (ih hi))
theorem Sat.setOwnI {E : Env0} {w w' : World} {cs : List Chunk} {i b : Nat} {o o' : Obj} (h : Sat E w cs) (hi : cs[i]? = some (own b o))
    (hos : w'.os = w.os) (htape : w'.tape = w.tape) (hout : w'.output = w.output) (hb : w'.heap[b]? = some o') (hk : ∀ k, k ≠ b → k < w.heap.size → w'.heap[k]? = w.heap[k]?) :
    Sat E w' (cs.set i (own b o')) :=
  ((h.ent (Ent.front i cs _ hi)).setOwn hos htape hout hb hk).ent (Ent.back hi)

/-- A row of cells of one's own. -/
@[reducible] def cel (b : Nat) (T : TypeId) (vs : List Value) : Chunk := own b (.cells vs.toArray T (0, 0))

def bndV (e : Env) (x : Option Operand) (n : Nat) : Option Int := match x with | none => some (n : Int) | some q => match e.val q with | some (.int _ a) => some a | _ => none
theorem bndV_none {e : Env} {n i : Nat} (h : bndV e none n = some (i : Int)) : i = n := by simp [bndV] at h; omega
theorem bndV_some {e : Env} {q : Operand} {n i : Nat} (h : bndV e (some q) n = some (i : Int)) : ∃ k, e.val q = some (.int k (i : Int)) := by
  simp only [bndV] at h
  split at h
  · rename_i k a hq; injection h with h; subst h; exact ⟨k, hq⟩
  · cases h
def arithV (op : BinOp) (k : IntKind) (a b : Int) : Option Int := match op with | .add => some (k.wrap (a + b)) | .sub => some (k.wrap (a - b)) | .mul => some (k.wrap (a * b)) | _ => none
def shiftV (op : BinOp) (k : IntKind) (a : Int) (n : Nat) : Option Int := match op with | .shl => some (k.wrap (a * 2 ^ min n k.bits)) | .shr => some (a.fdiv (2 ^ min n k.bits)) | _ => none
def bitsV (op : BinOp) (k : IntKind) (a b : Int) : Option Int := match op with
  | .and => some (k.wrap (BitVec.ofInt k.bits a &&& BitVec.ofInt k.bits b).toNat)
  | .or => some (k.wrap (BitVec.ofInt k.bits a ||| BitVec.ofInt k.bits b).toNat)
  | .xor => some (k.wrap (BitVec.ofInt k.bits a ^^^ BitVec.ofInt k.bits b).toNat)
  | .andNot => some (k.wrap (BitVec.ofInt k.bits a &&& ~~~ BitVec.ofInt k.bits b).toNat)
  | _ => none
def divV (op : BinOp) (k : IntKind) (a b : Int) : Option Int := match op with | .quo => some (k.wrap (a.tdiv b)) | .rem => some (a.tmod b) | _ => none
def negV (op : UnOp) (k : IntKind) (a : Int) : Option Int := match op with
  | .neg => some (k.wrap (0 - a))
  | .xor => some (k.wrap (BitVec.ofInt k.bits (if k.signed then -1 else k.max) ^^^ BitVec.ofInt k.bits a).toNat)
  | _ => none
section
variable {P : Program} {N : Nat} {E : Env0} {ops : Array Oper} {rest : List Oper} {K : Env → List Chunk → Prop} {e : Env} {cs : List Chunk}
variable {dst : Option Tmp} {ty : TypeId} {pos : String} {af : Array Edge} {g : Option (Nat × Bool)}

/-! ### 1. Lengths, numbers, texts -/
theorem wo_len_str {t : TypeId} {x : Operand} {l : List UInt8} (hs : sideB N e ops ⟨dst, .call { callee := .builtin .len, args := #[x], argTypes := #[t] }, ty, pos, af, g⟩ = true)
    (ht : P.underlying t = some .string) (hx : e.val x = some (.string ⟨⟨l⟩⟩)) (k : WO P N E ops rest K (putE dst (.int .i64 (l.length : Int)) e) cs) :
    WO P N E ops (⟨dst, .call { callee := .builtin .len, args := #[x], argTypes := #[t] }, ty, pos, af, g⟩ :: rest) K e cs :=
  wo_run hs (fun a w ha _ => by
    simp [execOp, resolve, invoke, builtin, Builtin.len_, run_underlying ht, ha.eval hx, goInt]; rfl) k
theorem wo_len_slice {t el : TypeId} {x : Operand} {a : Option Addr} {n c : Nat} (hs : sideB N e ops ⟨dst, .call { callee := .builtin .len, args := #[x], argTypes := #[t] }, ty, pos, af, g⟩ = true)
    (ht : P.underlying t = some (.slice el)) (hx : e.val x = some (.slice a n c)) (k : WO P N E ops rest K (putE dst (.int .i64 (n : Int)) e) cs) :
    WO P N E ops (⟨dst, .call { callee := .builtin .len, args := #[x], argTypes := #[t] }, ty, pos, af, g⟩ :: rest) K e cs :=
  wo_run hs (fun a w ha _ => by
    simp [execOp, resolve, invoke, builtin, Builtin.len_, run_underlying ht, ha.eval hx, goInt]) k
theorem wo_arith {op : BinOp} {t u : TypeId} {x y : Operand} {k : IntKind} {a b c : Int} (hs : sideB N e ops ⟨dst, .binOp op t x y u, ty, pos, af, g⟩ = true)
    (hx : e.val x = some (.int k a)) (hy : e.val y = some (.int k b))
    (hc : arithV op k a b = some c)
    (h : WO P N E ops rest K (putE dst (.int k c) e) cs) : WO P N E ops (⟨dst, .binOp op t x y u, ty, pos, af, g⟩ :: rest) K e cs :=
  wo_run hs (fun A w ha _ => by
    cases op <;> simp only [arithV, Option.some.injEq, reduceCtorEq] at hc <;> subst hc <;> simp [execOp, ha.eval hx, ha.eval hy, eqGuard, binOp, Op.intArith]) h
theorem wo_add {t u : TypeId} {x y : Operand} {a b c : Int} (hs : sideB N e ops ⟨dst, .binOp .add t x y u, ty, pos, af, g⟩ = true)
    (hx : e.val x = some (.int .i64 a)) (hy : e.val y = some (.int .i64 b)) (hc : a + b = c) (hr : -9223372036854775808 ≤ c ∧ c ≤ 9223372036854775807)
    (h : WO P N E ops rest K (putE dst (.int .i64 c) e) cs) : WO P N E ops (⟨dst, .binOp .add t x y u, ty, pos, af, g⟩ :: rest) K e cs :=
  wo_arith hs hx hy (c := c) (by simp only [arithV]; rw [hc, IntWalk.i64_in c hr]) h
theorem wo_sub {t u : TypeId} {x y : Operand} {a b c : Int} (hs : sideB N e ops ⟨dst, .binOp .sub t x y u, ty, pos, af, g⟩ = true)
    (hx : e.val x = some (.int .i64 a)) (hy : e.val y = some (.int .i64 b)) (hc : a - b = c) (hr : -9223372036854775808 ≤ c ∧ c ≤ 9223372036854775807)
    (h : WO P N E ops rest K (putE dst (.int .i64 c) e) cs) : WO P N E ops (⟨dst, .binOp .sub t x y u, ty, pos, af, g⟩ :: rest) K e cs :=
  wo_arith hs hx hy (c := c) (by simp only [arithV]; rw [hc, IntWalk.i64_in c hr]) h
theorem wo_shift {op : BinOp} {t u : TypeId} {x y : Operand} {k j : IntKind} {a c : Int} {n : Nat} (hs : sideB N e ops ⟨dst, .binOp op t x y u, ty, pos, af, g⟩ = true)
    (hx : e.val x = some (.int k a)) (hy : e.val y = some (.int j (n : Int)))
    (hc : shiftV op k a n = some c)
    (h : WO P N E ops rest K (putE dst (.int k c) e) cs) : WO P N E ops (⟨dst, .binOp op t x y u, ty, pos, af, g⟩ :: rest) K e cs :=
  wo_run hs (fun A w ha _ => by
    have hn : ¬ ((n : Int) < 0) := by omega
    cases op <;> simp only [shiftV, Option.some.injEq, reduceCtorEq] at hc <;> subst hc <;> simp [execOp, ha.eval hx, ha.eval hy, eqGuard, binOp, Op.shift, hn]) h
theorem wo_bits {op : BinOp} {t u : TypeId} {x y : Operand} {k : IntKind} {a b c : Int} (hs : sideB N e ops ⟨dst, .binOp op t x y u, ty, pos, af, g⟩ = true)
    (hx : e.val x = some (.int k a)) (hy : e.val y = some (.int k b))
    (hc : bitsV op k a b = some c)
    (h : WO P N E ops rest K (putE dst (.int k c) e) cs) : WO P N E ops (⟨dst, .binOp op t x y u, ty, pos, af, g⟩ :: rest) K e cs :=
  wo_run hs (fun A w ha _ => by
    cases op <;> simp only [bitsV, Option.some.injEq, reduceCtorEq] at hc <;> subst hc <;> simp [execOp, ha.eval hx, ha.eval hy, eqGuard, binOp, Op.intBits]) h
theorem wo_div {op : BinOp} {t u : TypeId} {x y : Operand} {k : IntKind} {a b c : Int} (hs : sideB N e ops ⟨dst, .binOp op t x y u, ty, pos, af, g⟩ = true)
    (hx : e.val x = some (.int k a)) (hy : e.val y = some (.int k b)) (hb : b ≠ 0)
    (hc : divV op k a b = some c)
    (h : WO P N E ops rest K (putE dst (.int k c) e) cs) : WO P N E ops (⟨dst, .binOp op t x y u, ty, pos, af, g⟩ :: rest) K e cs :=
  wo_run hs (fun A w ha _ => by
    cases op <;> simp only [divV, Option.some.injEq, reduceCtorEq] at hc <;> subst hc <;> simp [execOp, ha.eval hx, ha.eval hy, eqGuard, binOp, Op.intDiv, hb]) h
theorem wo_neg {op : UnOp} {t : TypeId} {x : Operand} {k : IntKind} {a c : Int} (hs : sideB N e ops ⟨dst, .unOp op t x, ty, pos, af, g⟩ = true)
    (hx : e.val x = some (.int k a)) (hc : negV op k a = some c)
    (h : WO P N E ops rest K (putE dst (.int k c) e) cs) : WO P N E ops (⟨dst, .unOp op t x, ty, pos, af, g⟩ :: rest) K e cs :=
  wo_run hs (fun A w ha _ => by
    cases op <;> simp only [negV, Option.some.injEq, reduceCtorEq] at hc <;> subst hc <;> simp [execOp, ha.eval hx, Op.unary, Op.intArith, Op.intBits]) h
theorem wo_conv_int {s d : TypeId} {ds : TypeDesc} {x : Operand} {k j : IntKind} {a c : Int} (hs : sideB N e ops ⟨dst, .convert s d x, ty, pos, af, g⟩ = true)
    (h1 : P.underlying s = some ds) (h2 : P.underlying d = some (.int k)) (hx : e.val x = some (.int j a)) (hc : k.wrap a = c)
    (h : WO P N E ops rest K (putE dst (.int k c) e) cs) : WO P N E ops (⟨dst, .convert s d x, ty, pos, af, g⟩ :: rest) K e cs :=
  wo_run hs (fun A w ha _ => by
    subst hc; simp [execOp, ha.eval hx, convert, run_underlying h1, run_underlying h2, Conv.intToInt]) h
theorem wo_conv_str {s d : TypeId} {x : Operand} {l : ByteArray} (hs : sideB N e ops ⟨dst, .convert s d x, ty, pos, af, g⟩ = true)
    (h1 : P.underlying s = some .string) (h2 : P.underlying d = some .string) (hx : e.val x = some (.string l))
    (h : WO P N E ops rest K (putE dst (.string l) e) cs) : WO P N E ops (⟨dst, .convert s d x, ty, pos, af, g⟩ :: rest) K e cs :=
  wo_run hs (fun A w ha _ => by
    simp [execOp, ha.eval hx, convert, run_underlying h1, run_underlying h2]) h
theorem wo_concat {t u : TypeId} {x y : Operand} {a b : List UInt8} (hs : sideB N e ops ⟨dst, .binOp .add t x y u, ty, pos, af, g⟩ = true)
    (hx : e.val x = some (.string ⟨⟨a⟩⟩)) (hy : e.val y = some (.string ⟨⟨b⟩⟩)) (hl : a.length + b.length ≤ 9223372036854775807)
    (h : WO P N E ops rest K (putE dst (str (a ++ b)) e) cs) : WO P N E ops (⟨dst, .binOp .add t x y u, ty, pos, af, g⟩ :: rest) K e cs :=
  wo_run hs (fun A w ha _ => by
    have h1 : ¬ ((a.length : Int) + (b.length : Int) > IntKind.i64.max) := by
      have : IntKind.i64.max = 9223372036854775807 := by decide
      rw [this]; omega
    have h2 : (ByteArray.mk ⟨a⟩ ++ ByteArray.mk ⟨b⟩) = ByteArray.mk (a ++ b).toArray := by
      apply ByteArray.ext; simp
    have h3 : ((ByteArray.mk ⟨a⟩).size + (ByteArray.mk ⟨b⟩).size : Nat) = a.length + b.length := rfl
    have h4 : ¬ (((a.length + b.length : Nat) : Int) > IntKind.i64.max) := by
      intro hc; apply h1; simpa using hc
    simp only [execOp, ha.eval hx, ha.eval hy, eqGuard, binOp, Op.stringOp, h3, h2]
    rw [if_neg h4]
    simp) h
theorem wo_index_str {t : TypeId} {x ix : Operand} {l : List UInt8} {k : IntKind} {n : Nat} {c : UInt8} (hs : sideB N e ops ⟨dst, .index t x ix, ty, pos, af, g⟩ = true)
    (ht : P.underlying t = some .string) (hx : e.val x = some (.string ⟨⟨l⟩⟩)) (hi : e.val ix = some (.int k (n : Int))) (hn : l[n]? = some c)
    (h : WO P N E ops rest K (putE dst (.int .u8 (c.toNat : Int)) e) cs) : WO P N E ops (⟨dst, .index t x ix, ty, pos, af, g⟩ :: rest) K e cs :=
  wo_run hs (fun A w ha _ => by
    obtain ⟨hlt, hc⟩ := List.getElem?_eq_some_iff.1 hn
    have h3 : (ByteArray.mk ⟨l⟩)[n]? = some c := by
      have h4 : n < (ByteArray.mk ⟨l⟩).size := hlt
      rw [getElem?_pos (ByteArray.mk ⟨l⟩) n h4]
      exact congrArg some hc
    simp [execOp, ha.eval hx, ha.eval hi, Instr.index, run_underlying ht, asIntOf, h3]) h
theorem wo_slice_str {t : TypeId} {x : Operand} {lo hi : Option Operand} {l : List UInt8} {i j : Nat} (hs : sideB N e ops ⟨dst, .slice t x lo hi none, ty, pos, af, g⟩ = true)
    (ht : P.underlying t = some .string) (hx : e.val x = some (.string ⟨⟨l⟩⟩))
    (hlo : bndV e lo 0 = some (i : Int)) (hhi : bndV e hi l.length = some (j : Int))
    (hij : i ≤ j) (hj : j ≤ l.length)
    (h : WO P N E ops rest K (putE dst (str ((l.drop i).take (j - i))) e) cs) : WO P N E ops (⟨dst, .slice t x lo hi none, ty, pos, af, g⟩ :: rest) K e cs :=
  wo_run hs (fun A w ha _ => by
    have hx2 : (ByteArray.mk ⟨l⟩).extract i j = ByteArray.mk ((l.drop i).take (j - i)).toArray := by
      apply ByteArray.ext
      apply Array.ext'
      simp
    have hii : (i : Int) ≤ (j : Int) := by omega
    have hsz : (ByteArray.mk ⟨l⟩).size = l.length := rfl
    cases lo with
    | none =>
      obtain rfl := bndV_none hlo
      cases hi with
      | none => obtain rfl := bndV_none hhi; simp [execOp, ha.eval hx, Instr.sliceAt, Instr.slice, Instr.sliceBounds, run_underlying ht]
      | some q => obtain ⟨k, hk⟩ := bndV_some hhi; simpa [execOp, ha.eval hx, ha.eval hk, Instr.sliceAt, Instr.slice, Instr.sliceBounds, Instr.sliceBound, asIntOf, run_underlying ht, hsz, hj] using hx2
    | some p =>
      cases hi with
      | none => obtain ⟨k, hk⟩ := bndV_some hlo; obtain rfl := bndV_none hhi; simpa [execOp, ha.eval hx, ha.eval hk, Instr.sliceAt, Instr.slice, Instr.sliceBounds, Instr.sliceBound, asIntOf, run_underlying ht, hsz, hij] using hx2
      | some q =>
        obtain ⟨k, hk⟩ := bndV_some hlo; obtain ⟨k', hk'⟩ := bndV_some hhi
        simpa [execOp, ha.eval hx, ha.eval hk, ha.eval hk', Instr.sliceAt, Instr.slice, Instr.sliceBounds, Instr.sliceBound, asIntOf, run_underlying ht, hsz, hij, hj] using hx2) h
end
end Go.Sep
