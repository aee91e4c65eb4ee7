/- Bytes. -/
import Derived.Test.YtklelmfgdgndaaaGreatDoorSepJ
namespace Go.Sep
def byteI (n : Int) : UInt8 := UInt8.ofNat (n % 256).toNat
theorem byteI_toNat (n : Int) : ((byteI n).toNat : Int) = IntKind.u8.wrap n := by
  rw [IntKind.wrap_u8]
  unfold byteI
  have h0 : 0 ≤ n % 256 := Int.emod_nonneg _ (by omega)
  have h1 : n % 256 < 256 := Int.emod_lt_of_pos _ (by omega)
  have h2 : (n % 256).toNat < 256 := by omega
  rw [show (UInt8.ofNat (n % 256).toNat).toNat = (n % 256).toNat % 256 from rfl, Nat.mod_eq_of_lt h2]
  omega
theorem byteI_eq {n : Int} {m : Nat} (h : n % 256 = (m : Int)) : (byteI n).toNat = m := by
  have := byteI_toNat n; rw [IntKind.wrap_u8] at this; omega
def u8V (op : BinOp) (a b : UInt8) : Option UInt8 := match op with | .add => some (a + b) | .sub => some (a - b) | .and => some (a &&& b) | .or => some (a ||| b) | .xor => some (a ^^^ b) | _ => none
def u8S (op : BinOp) (a : UInt8) (n : Nat) : Option UInt8 := match op with | .shl => some (byteI (a.toNat * 2 ^ n)) | .shr => some (byteI (a.toNat / 2 ^ n : Nat)) | _ => none
theorem ofInt8 (a : UInt8) : BitVec.ofInt IntKind.u8.bits (a.toNat : Int) = a.toBitVec := by
  show BitVec.ofInt 8 (a.toNat : Int) = a.toBitVec
  rw [BitVec.ofInt_natCast]
  apply BitVec.eq_of_toNat_eq
  rw [BitVec.toNat_ofNat]
  exact Nat.mod_eq_of_lt a.toNat_lt
theorem u8_lt (a : UInt8) : a.toNat < 256 := a.toNat_lt
section
variable {P : Program} {N : Nat} {E : Env0} {ops : Array Oper} {rest : List Oper} {K : Env → List Chunk → Prop} {e : Env} {cs : List Chunk}
variable {dst : Option Tmp} {ty : TypeId} {pos : String} {af : Array Edge} {g : Option (Nat × Bool)}
theorem wo_u8 {op : BinOp} {t u : TypeId} {x y : Operand} {a b r : UInt8} (hs : sideB N e ops ⟨dst, .binOp op t x y u, ty, pos, af, g⟩ = true)
    (hx : e.val x = some (.int .u8 (a.toNat : Int))) (hy : e.val y = some (.int .u8 (b.toNat : Int))) (hc : u8V op a b = some r)
    (h : WO P N E ops rest K (putE dst (.int .u8 (r.toNat : Int)) e) cs) : WO P N E ops (⟨dst, .binOp op t x y u, ty, pos, af, g⟩ :: rest) K e cs := by
  have ha := u8_lt a
  have hb := u8_lt b
  have hr := u8_lt r
  cases op <;> simp only [u8V, Option.some.injEq, reduceCtorEq] at hc <;> subst hc
  case add => exact wo_arith hs hx hy (c := ((a + b).toNat : Int)) (by simp only [arithV, IntKind.wrap_u8, UInt8.toNat_add, Option.some.injEq]; omega) h
  case sub => exact wo_arith hs hx hy (c := ((a - b).toNat : Int)) (by simp only [arithV, IntKind.wrap_u8, UInt8.toNat_sub, Option.some.injEq]; omega) h
  case and => exact wo_bits hs hx hy (c := ((a &&& b).toNat : Int)) (by
    simp only [bitsV, ofInt8, Option.some.injEq]
    exact IntWalk.u8_in ((a &&& b).toNat : Int) (by omega)) h
  case or => exact wo_bits hs hx hy (c := ((a ||| b).toNat : Int)) (by
    simp only [bitsV, ofInt8, Option.some.injEq]
    exact IntWalk.u8_in ((a ||| b).toNat : Int) (by omega)) h
  case xor => exact wo_bits hs hx hy (c := ((a ^^^ b).toNat : Int)) (by
    simp only [bitsV, ofInt8, Option.some.injEq]
    exact IntWalk.u8_in ((a ^^^ b).toNat : Int) (by omega)) h
theorem wo_u8s {op : BinOp} {t u : TypeId} {x y : Operand} {j : IntKind} {a r : UInt8} {n : Nat} (hs : sideB N e ops ⟨dst, .binOp op t x y u, ty, pos, af, g⟩ = true)
    (hx : e.val x = some (.int .u8 (a.toNat : Int))) (hy : e.val y = some (.int j (n : Int))) (hn : Nat.ble n 8 = true) (hc : u8S op a n = some r)
    (h : WO P N E ops rest K (putE dst (.int .u8 (r.toNat : Int)) e) cs) : WO P N E ops (⟨dst, .binOp op t x y u, ty, pos, af, g⟩ :: rest) K e cs := by
  have hn' := Nat.le_of_ble_eq_true hn
  have hm : min n IntKind.u8.bits = n := Nat.min_eq_left hn'
  cases op <;> simp only [u8S, Option.some.injEq, reduceCtorEq] at hc <;> subst hc
  case shl => exact wo_shift hs hx hy (by simp only [shiftV, hm, byteI_toNat]) h
  case shr => exact wo_shift hs hx hy (by
    simp only [shiftV, hm, Option.some.injEq]
    have h1 := u8_lt a
    have h2 : a.toNat / 2 ^ n ≤ a.toNat := Nat.div_le_self _ _
    have h3 : IntKind.u8.wrap ((a.toNat / 2 ^ n : Nat) : Int) = ((a.toNat / 2 ^ n : Nat) : Int) := by
      generalize a.toNat / 2 ^ n = q at h2
      exact IntWalk.u8_in _ (by omega)
    rw [byteI_toNat, h3]
    rw [show ((a.toNat : Int).fdiv (2 ^ n)) = ((a.toNat / 2 ^ n : Nat) : Int) by rw [Int.natCast_ediv, Int.natCast_pow, Int.fdiv_eq_ediv_of_nonneg]; rfl; exact Int.le_of_lt (Int.pow_pos (by omega))]) h
theorem wo_conv_byte {s d : TypeId} {ds : TypeDesc} {x : Operand} {j : IntKind} {a : Int} (hs : sideB N e ops ⟨dst, .convert s d x, ty, pos, af, g⟩ = true)
    (h1 : P.underlying s = some ds) (h2 : P.underlying d = some (.int .u8)) (hx : e.val x = some (.int j a))
    (h : WO P N E ops rest K (putE dst (.int .u8 ((byteI a).toNat : Int)) e) cs) : WO P N E ops (⟨dst, .convert s d x, ty, pos, af, g⟩ :: rest) K e cs :=
  wo_conv_int hs h1 h2 hx (byteI_toNat a).symm h
end
end Go.Sep
