/- Parts of slices; bytes as a text. -/
import Derived.Test.YtklelmfgdgndaaaGreatDoorSepK
import Derived.Laws.BytesString
import Derived.Laws.Slices
namespace Go.Sep
/-- The part of a slice from i to j. -/
def subV (v : Value) (i j sz : Nat) : Value := match v with | .slice a _ c => sliced a i j c sz | v => v
theorem Ent.datSub {α : Type} [Rep α] {cs : List Chunk} {v : Value} {xs : List α} (k i j : Nat) (h : cs[k]? = some (dat v xs)) (hij : i ≤ j) (hj : j ≤ xs.length) :
    Ent cs (dat (subV v i j (Rep.sz α)) ((xs.drop i).take (j - i)) :: cs) := by
  refine Ent.perI fun Z f x => ?_
  obtain ⟨f1, f2, d, l1, l2, y, z⟩ := Ent0.front k cs _ h Z f x
  obtain ⟨a, c, hv, h1, h2, h3⟩ := y
  subst hv
  have hl : ((xs.drop i).take (j - i)).length = j - i := by rw [List.length_take, List.length_drop]; omega
  refine ⟨if c = i then a else a.map (·.add (i * Rep.sz α)), c - i, by rw [hl]; rfl, by rw [hl]; omega, Nat.le_trans (Nat.sub_le _ _) h2, fun hp => ?_⟩
  rw [hl] at hp
  obtain ⟨b, o, arr, T, fr, e1, e2, e3⟩ := h3 (by omega)
  have hc : c ≠ i := by omega
  refine ⟨b, o + i * Rep.sz α, arr, T, fr, by rw [if_neg hc, e1]; simp [add_plain], e2, fun q x' hx => ?_⟩
  rw [List.getElem?_take] at hx
  split at hx
  · rw [List.getElem?_drop] at hx
    obtain ⟨us, r, hu⟩ := e3 (i + q) x' hx
    refine ⟨us, r, fun m u hm => ?_⟩
    have := hu m u hm
    rw [Nat.add_mul] at this
    rw [← this]; congr 1; omega
  · cases hx
theorem run_slice_sub {P : Program} (w : World) {t el : TypeId} {a : Option Addr} {n c s : Nat} {i j : Nat} {lo hi : Option Value} (ht : P.underlying t = some (.slice el)) (hz : (sizeOf el).run P w = .ok s w)
    (hlo : (lo = none ∧ i = 0) ∨ ∃ k, lo = some (.int k (i : Int))) (hhi : (hi = none ∧ j = n) ∨ ∃ k, hi = some (.int k (j : Int))) (hij : i ≤ j) (hj : j ≤ n) (hn : n ≤ c) :
    (Instr.sliceAt t (.slice a n c) lo hi none).run P w = .ok (sliced a i j c s) w := by
  have he : P.elem t = el := by simp [Program.elem, ht]
  have ht' : P.underlying t = some (.slice (P.elem t)) := by rw [he]; exact ht
  rw [run_sliceAt_slice w t _ _ _ _ ht']
  rcases hlo with ⟨rfl, rfl⟩ | ⟨k, rfl⟩ <;> rcases hhi with ⟨rfl, rfl⟩ | ⟨k', rfl⟩
  · rw [run_slice_all w t a _ c ht', he, hz]; rfl
  · rw [run_slice_h w t a n c ht' k' (j : Int) (by omega) (by omega), he, hz]; rfl
  · rw [run_slice_l w t a _ c ht' k (i : Int) (by omega) (by omega), he, hz]; rfl
  · rw [run_slice_lh w t a n c ht' k k' (i : Int) (j : Int) (by omega) (by omega) (by omega), he, hz]; rfl
section
variable {P : Program} {N : Nat} {E : Env0} {ops : Array Oper} {rest : List Oper} {K : Env → List Chunk → Prop} {e : Env} {cs : List Chunk}
variable {dst : Option Tmp} {ty : TypeId} {pos : String} {af : Array Edge} {g : Option (Nat × Bool)}
variable {α : Type} [Rep α]
theorem wo_slice_dat {t el : TypeId} {x : Operand} {lo hi : Option Operand} {v : Value} {xs : List α} {i j : Nat} (k : Nat) (hs : sideB N e ops ⟨dst, .slice t x lo hi none, ty, pos, af, g⟩ = true)
    (ht : P.underlying t = some (.slice el)) (hz : ∀ w, (sizeOf el).run P w = .ok (Rep.sz α) w) (hx : e.val x = some v) (hk : cs[k]? = some (dat v xs))
    (hlo : bndV e lo 0 = some (i : Int)) (hhi : bndV e hi xs.length = some (j : Int)) (hij : i ≤ j) (hj : j ≤ xs.length)
    (h : WO P N E ops rest K (putE dst (subV v i j (Rep.sz α)) e) cs) : WO P N E ops (⟨dst, .slice t x lo hi none, ty, pos, af, g⟩ :: rest) K e cs :=
  wo_run hs (fun A w ha hw => by
    obtain ⟨Z, f, _, _, _, _, a, c, hv, h1, h2, _⟩ := hw.perAt hk
    subst hv
    have hsl := run_slice_sub (P := P) w (a := a) (c := c) (lo := lo.map A.eval) (hi := hi.map A.eval) ht (hz w) (i := i) (j := j) (n := xs.length)
      (by cases lo with | none => exact .inl ⟨rfl, bndV_none hlo⟩ | some q => obtain ⟨k, hk⟩ := bndV_some hlo; exact .inr ⟨k, by simp [ha.eval hk]⟩)
      (by cases hi with | none => exact .inl ⟨rfl, bndV_none hhi⟩ | some q => obtain ⟨k, hk⟩ := bndV_some hhi; exact .inr ⟨k, by simp [ha.eval hk]⟩) hij hj h1
    simp only [execOp, ha.eval hx, Option.map_none, Sem.run_bind, hsl, Result.andThen_ok]
    rfl) h
end
section
variable {P : Program} {N : Nat} {E : Env0} {ops : Array Oper} {rest : List Oper} {K : Env → List Chunk → Prop} {e : Env} {cs : List Chunk}
variable {dst : Option Tmp} {ty : TypeId} {pos : String} {af : Array Edge} {g : Option (Nat × Bool)}
theorem push_fold (xs : List UInt8) : ∀ (s : ByteArray), ((xs.map fun c => (c.toNat : Int)).foldl (fun r n => r.push (UInt8.ofNat n.toNat)) s) = ⟨s.data ++ xs.toArray⟩ := by
  induction xs with
  | nil => intro s; simp
  | cons c xs ih =>
    intro s
    simp only [List.map_cons, List.foldl_cons]
    rw [ih]
    simp [ByteArray.push]
theorem wo_bytes_str {s d el : TypeId} {x : Operand} {v : Value} {xs : List UInt8} (k : Nat) (hs : sideB N e ops ⟨dst, .convert s d x, ty, pos, af, g⟩ = true)
    (h1 : P.underlying s = some (.slice el)) (h2 : P.underlying el = some (.int .u8)) (h3 : P.underlying d = some .string) (hx : e.val x = some v) (hk : cs[k]? = some (dat v xs))
    (h : WO P N E ops rest K (putE dst (str xs) e) cs) : WO P N E ops (⟨dst, .convert s d x, ty, pos, af, g⟩ :: rest) K e cs :=
  wo_run hs (fun A w ha hw => by
    obtain ⟨Z, f, _, hz, _, _, a, c, hv, _, _, h4⟩ := hw.perAt hk
    subst hv
    have hr : (Conv.bytesToString (.slice a xs.length c)).run P w = .ok (str xs) w := by
      by_cases hp : 0 < xs.length
      · obtain ⟨b, o, arr, T, fr, rfl, e2, e3⟩ := h4 hp
        have hc := run_loadCells_list (P := P) w ⟨b, o, none⟩ (xs.map fun c => Value.int .u8 (c.toNat : Int)) (fun j u hj => by
          rw [List.getElem?_map] at hj
          cases hq : xs[j]? with
          | none => rw [hq] at hj; cases hj
          | some y =>
            rw [hq] at hj
            simp only [Option.map_some, Option.some.injEq] at hj
            obtain ⟨us, r, hu⟩ := e3 j y hq
            obtain rfl := Flat.flat.1 r
            rw [add_plain, cell_of_row w b (o + j) arr T fr (hz _ _ e2)]
            have := hu 0 u (by rw [← hj]; rfl)
            rw [← this]; congr 1
            show o + j = o + j * 1 + 0
            omega)
        rw [List.length_map] at hc
        have := run_bytesToString (P := P) w ⟨b, o, none⟩ xs.length c (xs.map fun c => (c.toNat : Int)) (by rw [hc]; simp)
        rw [this, push_fold]
        simp
      · have : xs = [] := List.eq_nil_of_length_eq_zero (by omega)
        subst this
        cases a with
        | none => rfl
        | some a =>
          have := run_bytesToString (P := P) w a 0 c [] (by rfl)
          exact this
    simp [execOp, ha.eval hx, run_convert_bytes_string w s d el a xs.length c h1 h2 h3, hr]) h
end
end Go.Sep
namespace Go.Sep
theorem Ent.rowDatI {α : Type} [Rep α] {cs : List Chunk} {T : TypeId} {v : Value} {xs : List α} (i : Nat) (h : cs[i]? = some (row T v xs)) : Ent cs (dat v xs :: cs.eraseIdx i) :=
  (Ent.front i cs _ h).trans (Ent.rowDat _)
end Go.Sep
namespace Go.Sep
def elB (P : Program) (T : TypeId) (sz bytes : Nat) : Bool := match P.info? T with
  | some i => match i.zero with | some zv => Nat.beq i.size sz && Nat.beq i.bytes bytes && Nat.beq zv.cells.size sz | none => false
  | none => false
theorem ElT.of {P : Program} {α : Type} [Rep α] {t T : TypeId} (h : P.underlying t = some (.slice T)) (k : elB P T (Rep.sz α) (Rep.bytes α) = true) : ElT P α t T := by
  refine ⟨h, ?_⟩
  unfold elB at k
  split at k
  · rename_i i hi
    split at k
    · rename_i zv hz
      simp only [Bool.and_eq_true] at k
      exact ⟨i, zv, hi, hz, Nat.eq_of_beq_eq_true k.1.1, Nat.eq_of_beq_eq_true k.1.2, Nat.eq_of_beq_eq_true k.2⟩
    · cases k
  · cases k
end Go.Sep
namespace Go.Sep
section
variable {P : Program} {N : Nat} {E : Env0} {ops : Array Oper} {rest : List Oper} {K : Env → List Chunk → Prop} {e : Env} {cs : List Chunk}
variable {dst : Option Tmp} {ty : TypeId} {pos : String} {af : Array Edge} {g : Option (Nat × Bool)}
variable {f : FuncId} {x : Operand} {first captured : Array Value} {args : Array Operand} {tys : Array TypeId} {vs al : List Value}
theorem wo_fvr {pre : List Chunk} {r : Value} (S : ConV P f al pre r) (hs : sideB N e ops ⟨dst, .call { callee := .value x, args, argTypes := tys }, ty, pos, af, g⟩ = true)
    (hx : e.val x = some (.func (.func f) first captured)) (hc : ∀ (args : Array Value) w, (callFunc f args).run P w = .ok (.enter f args) w) (hv : e.vals args.toList = some vs) (hal : first.toList ++ vs ++ captured.toList = al) (hent : Ent cs (pre ++ cs))
    (h : WO P N E ops rest K (putE dst r e) cs) : WO P N E ops (⟨dst, .call { callee := .value x, args, argTypes := tys }, ty, pos, af, g⟩ :: rest) K e cs := by
  subst hal; exact wo_callvr S hs hx hc hv hent h
theorem wo_fvk {pre fr : List Chunk} {r : Value} (S : ConR P f al pre r) (hs : sideB N e ops ⟨dst, .call { callee := .value x, args, argTypes := tys }, ty, pos, af, g⟩ = true)
    (hx : e.val x = some (.func (.func f) first captured)) (hc : ∀ (args : Array Value) w, (callFunc f args).run P w = .ok (.enter f args) w) (hv : e.vals args.toList = some vs) (hal : first.toList ++ vs ++ captured.toList = al) (hent : Ent cs (pre ++ fr)) (hback : Ent (pre ++ fr) cs)
    (h : WO P N E ops rest K (putE dst r e) cs) : WO P N E ops (⟨dst, .call { callee := .value x, args, argTypes := tys }, ty, pos, af, g⟩ :: rest) K e cs := by
  subst hal; exact wo_callvk S hs hx hc hv hent hback h
theorem wo_fvx {X : Type} {pre fr : List Chunk} {r : X → Value} {post : X → List Chunk} (S : ConX P f al pre r post) (hs : sideB N e ops ⟨dst, .call { callee := .value x, args, argTypes := tys }, ty, pos, af, g⟩ = true)
    (hx : e.val x = some (.func (.func f) first captured)) (hc : ∀ (args : Array Value) w, (callFunc f args).run P w = .ok (.enter f args) w) (hv : e.vals args.toList = some vs) (hal : first.toList ++ vs ++ captured.toList = al) (hent : Ent cs (pre ++ fr))
    (h : ∀ x, WO P N E ops rest K (putE dst (r x) e) (post x ++ fr)) : WO P N E ops (⟨dst, .call { callee := .value x, args, argTypes := tys }, ty, pos, af, g⟩ :: rest) K e cs := by
  subst hal; exact wo_callvx S hs hx hc hv hent h
end
theorem room_of {α : Type} [Rep α] {n m k : Nat} (h : Rep.bytes α = k) (hn : (n + m) * k ≤ 140737488355328) : (n + m) * Rep.bytes α ≤ 140737488355328 := by rw [h]; exact hn
end Go.Sep
