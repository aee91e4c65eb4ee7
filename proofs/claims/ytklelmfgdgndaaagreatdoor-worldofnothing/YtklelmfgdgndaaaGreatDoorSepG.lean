/- Rules put together for use: calls of plain functions, loops, literals of slices, conversions. -/
import Derived.Test.YtklelmfgdgndaaaGreatDoorSepF
import Derived.Lib.ConvBytes
namespace Go.Sep

section
variable {P : Program} {N : Nat} {E : Env0} {ops : Array Oper} {rest : List Oper} {K : Env → List Chunk → Prop} {e : Env} {cs : List Chunk}
variable {dst : Option Tmp} {ty : TypeId} {pos : String} {af : Array Edge} {g : Option (Nat × Bool)}

/-- A function that hands back a value and leaves memory alone. -/
@[reducible] def ConV (P : Program) (f : FuncId) (args : List Value) (pre : List Chunk) (r : Value) : Prop := Con P f args pre (fun v cs => v = r ∧ cs = [])
theorem wo_callp {f : FuncId} {args : Array Operand} {tys : Array TypeId} {vs : List Value} {r : Value}
    (S : ConV P f vs [] r) (hs : sideB N e ops ⟨dst, .call { callee := .value (.func f), args, argTypes := tys }, ty, pos, af, g⟩ = true)
    (hc : ∀ (args : Array Value) w, (callFunc f args).run P w = .ok (.enter f args) w) (hv : e.vals args.toList = some vs)
    (h : WO P N E ops rest K (putE dst r e) cs) : WO P N E ops (⟨dst, .call { callee := .value (.func f), args, argTypes := tys }, ty, pos, af, g⟩ :: rest) K e cs :=
  wo_call (fr := cs) S hs hc hv (Ent.refl _) (by rintro v _ ⟨rfl, rfl⟩; exact h)
/-- One that reads memory which nobody writes any more. -/
theorem wo_callr {f : FuncId} {args : Array Operand} {tys : Array TypeId} {vs : List Value} {pre : List Chunk} {r : Value}
    (S : ConV P f vs pre r) (hs : sideB N e ops ⟨dst, .call { callee := .value (.func f), args, argTypes := tys }, ty, pos, af, g⟩ = true)
    (hc : ∀ (args : Array Value) w, (callFunc f args).run P w = .ok (.enter f args) w) (hv : e.vals args.toList = some vs) (hent : Ent cs (pre ++ cs))
    (h : WO P N E ops rest K (putE dst r e) cs) : WO P N E ops (⟨dst, .call { callee := .value (.func f), args, argTypes := tys }, ty, pos, af, g⟩ :: rest) K e cs :=
  wo_call (fr := cs) S hs hc hv hent (by rintro v _ ⟨rfl, rfl⟩; exact h)
theorem wo_callvr {f : FuncId} {x : Operand} {first captured : Array Value} {args : Array Operand} {tys : Array TypeId} {vs : List Value} {pre : List Chunk} {r : Value}
    (S : ConV P f (first.toList ++ vs ++ captured.toList) pre r) (hs : sideB N e ops ⟨dst, .call { callee := .value x, args, argTypes := tys }, ty, pos, af, g⟩ = true)
    (hx : e.val x = some (.func (.func f) first captured))
    (hc : ∀ (args : Array Value) w, (callFunc f args).run P w = .ok (.enter f args) w) (hv : e.vals args.toList = some vs) (hent : Ent cs (pre ++ cs))
    (h : WO P N E ops rest K (putE dst r e) cs) : WO P N E ops (⟨dst, .call { callee := .value x, args, argTypes := tys }, ty, pos, af, g⟩ :: rest) K e cs :=
  wo_callv (fr := cs) S hs hx hc hv hent (by rintro v _ ⟨rfl, rfl⟩; exact h)

/-- The same value, said otherwise. -/
theorem wo_val_eq {t : Nat} {v v' : Value} {l : List Oper} (hv : v = v') (h : WO P N E ops l K ((t, v') :: e) cs) : WO P N E ops l K ((t, v) :: e) cs := by subst hv; exact h
theorem WO.ent {l : List Oper} {cs' : List Chunk} (t : Ent cs cs') (h : WO P N E ops l K e cs') : WO P N E ops l K e cs := h.weak (Env.Sub.refl _) t
theorem WS.ent {c : Code} {Kp : Post} {cs' : List Chunk} (t : Ent cs cs') (h : WS P N E c Kp e cs') : WS P N E c Kp e cs := h.weak (Env.Sub.refl _) t

/-- Each of these slots holds this. -/
def Env.All (a e : Env) : Prop := ∀ p ∈ a, e.get? p.1 = some p.2
theorem Env.All.nil {e : Env} : Env.All [] e := fun _ h => by cases h
theorem Env.All.cons {a e : Env} {t : Nat} {v : Value} (h : e.get? t = some v) (r : Env.All a e) : Env.All ((t, v) :: a) e := fun p hp => by
  rcases List.mem_cons.1 hp with h1 | h1
  · subst h1; exact h
  · exact r p h1
theorem Env.All.app {a b e : Env} (h : Env.All a e) (k : Env.All b e) : Env.All (a ++ b) e := fun p hp => by
  rcases List.mem_append.1 hp with h1 | h1
  · exact h p h1
  · exact k p h1
theorem Env.All.sub {a e : Env} (h : Env.All a e) : Env.Sub a e := by
  induction a with
  | nil => exact Env.Sub.nil _
  | cons p a ih => exact Env.Sub.cons (h p (by simp)) (ih fun q hq => h q (by simp [hq]))
def keepE : List Nat → Env → Env → Option Env
  | [], _, acc => some acc
  | k :: ks, e, acc => match e.get? k with | some v => keepE ks e ((k, v) :: acc) | none => none
theorem keepE_all : ∀ {ks : List Nat} {e acc e0 : Env}, keepE ks e acc = some e0 → Env.All acc e → Env.All e0 e
  | [], e, acc, e0, h, s => by simp [keepE] at h; subst h; exact s
  | k :: ks, e, acc, e0, h, s => by
    simp only [keepE] at h
    split at h
    · rename_i v hv; exact keepE_all h (Env.All.cons hv s)
    · cases h
/-- Only these slots still count. -/
theorem ws_keep {c : Code} {Kp : Post} {e0 : Env} (ks : List Nat) (hk : keepE ks e [] = some e0) (h : WS P N E c Kp e0 cs) : WS P N E c Kp e cs :=
  h.weak (keepE_all hk Env.All.nil).sub (Ent.refl _)
theorem wo_keep {l : List Oper} {e0 : Env} (ks : List Nat) (hk : keepE ks e [] = some e0) (h : WO P N E ops l K e0 cs) : WO P N E ops l K e cs :=
  h.weak (keepE_all hk Env.All.nil).sub (Ent.refl _)

/-- A loop: the slots 'ks' stay as they are, 'inv x' are those that turn; the chunks 'cs0' stay. -/
theorem ws_loopk {X : Type} {c : Code} {Kp : Post} (inv : X → Env) (ics : X → List Chunk) (ok : X → Prop) (m : X → Nat) (x0 : X) (ks : List Nat) {e0 : Env} (hk : keepE ks e [] = some e0) (cs0 : List Chunk)
    (hok : ok x0) (hs : Env.All (inv x0) e) (ht : Ent cs (ics x0 ++ cs0))
    (round : ∀ x, ok x → WS P N E c (thenK (fun e' cs' => ∃ y, ok y ∧ m y < m x ∧ Env.All (inv y) e' ∧ Env.All e0 e' ∧ Ent cs' (ics y ++ cs0)) Kp) (inv x ++ e0) (ics x ++ cs0)) :
    WS P N E (.loop c) Kp e cs :=
  ws_loop (fun x => (inv x ++ e0, ics x ++ cs0)) ok m x0 hok (hs.app (keepE_all hk Env.All.nil)).sub ht
    fun x hx => (round x hx).mono fun r e' cs' h => by
      cases r with
      | normal => obtain ⟨y, h1, h2, h3, h4, h5⟩ := h; exact ⟨y, h1, h2, (h3.app h4).sub, h5⟩
      | _ => exact h

/-! ### Literals of slices -/
theorem fold_set (off : Nat) : ∀ (us : List Value) (k : Nat) (arr : Array Value), off + k + us.length ≤ arr.size →
    ((us.zipIdx k).foldl (fun cs (p : Value × Nat) => cs.setIfInBounds (off + p.2) p.1) arr).toList = arr.toList.take (off + k) ++ us ++ arr.toList.drop (off + k + us.length)
  | [], k, arr, _ => by simp
  | u :: us, k, arr, h => by
    simp only [List.length_cons] at h
    simp only [List.zipIdx_cons, List.foldl_cons]
    rw [fold_set off us (k + 1) _ (by simp; omega)]
    simp only [Array.toList_setIfInBounds, List.length_cons]
    have e1 : off + (k + 1) = (off + k) + 1 := by omega
    have e2 : off + k + (us.length + 1) = off + k + 1 + us.length := by omega
    rw [e1, e2, List.drop_set_of_lt (by omega), List.take_set, List.take_succ_eq_append_getElem (by simp; omega), List.set_append_right _ _ (by simp; omega)]
    simp [Nat.min_eq_left (show off + k ≤ arr.size by omega)]
theorem fill_all (sz : Nat) : ∀ (vs : List Value) (k : Nat) (arr : Array Value), (∀ v ∈ vs, v.cells.size = sz) → (k + vs.length) * sz ≤ arr.size →
    ∃ out, Instr.fill (fun i => some (i * sz, sz)) arr ((vs.zipIdx k).map fun p => (p.2, p.1)) = some out ∧ out.toList = arr.toList.take (k * sz) ++ vs.flatMap (·.cells.toList) ++ arr.toList.drop ((k + vs.length) * sz)
  | [], k, arr, _, _ => ⟨arr, rfl, by simp⟩
  | v :: vs, k, arr, hv, hl => by
    have h0 := hv v (by simp)
    simp only [List.length_cons] at hl
    have hm : (k + 1) * sz ≤ (k + (vs.length + 1)) * sz := Nat.mul_le_mul_right _ (by omega)
    have hm1 : (k + 1) * sz = k * sz + sz := by rw [Nat.add_mul]; simp
    have hf := fold_set (k * sz) v.cells.toList 0 arr (by simp only [Array.length_toList]; omega)
    simp only [Nat.add_zero, Array.length_toList, h0] at hf
    have hx : (v.cells.zipIdx.foldl (fun cs (p : Value × Nat) => cs.setIfInBounds (k * sz + p.2) p.1) arr).toList = arr.toList.take (k * sz) ++ v.cells.toList ++ arr.toList.drop (k * sz + sz) := by
      rw [← hf, ← Array.foldl_toList]; simp
    obtain ⟨out, ho, hol⟩ := fill_all sz vs (k + 1) (v.cells.zipIdx.foldl (fun cs (p : Value × Nat) => cs.setIfInBounds (k * sz + p.2) p.1) arr) (fun u hu => hv u (by simp [hu])) (by
      have : (v.cells.zipIdx.foldl (fun cs (p : Value × Nat) => cs.setIfInBounds (k * sz + p.2) p.1) arr).size = arr.size := by
        rw [← Array.length_toList, hx]; simp only [List.length_append, List.length_take, List.length_drop, Array.length_toList, h0]; omega
      rw [this, show k + 1 + vs.length = k + (vs.length + 1) by omega]; exact hl)
    refine ⟨out, ?_, ?_⟩
    · simp only [List.zipIdx_cons, List.map_cons, Instr.fill, h0]
      rw [if_neg (by simp; omega)]
      exact ho
    · rw [hol, hx]
      have e1 : k + 1 + vs.length = k + (vs.length + 1) := by omega
      have hlen : (arr.toList.take (k * sz) ++ v.cells.toList).length = (k + 1) * sz := by simp [h0]; omega
      have h1 : ((arr.toList.take (k * sz) ++ v.cells.toList) ++ arr.toList.drop (k * sz + sz)).take ((k + 1) * sz) = arr.toList.take (k * sz) ++ v.cells.toList := by
        rw [← hlen]; exact List.take_left
      have h2 : (k + (vs.length + 1)) * sz = (arr.toList.take (k * sz) ++ v.cells.toList).length + vs.length * sz := by
        rw [hlen, ← Nat.add_mul]; congr 1; omega
      have h3 : ((arr.toList.take (k * sz) ++ v.cells.toList) ++ arr.toList.drop (k * sz + sz)).drop ((k + (vs.length + 1)) * sz) = arr.toList.drop ((k + (vs.length + 1)) * sz) := by
        rw [h2, List.drop_length_add_append, List.drop_drop, ← h2]
        congr 1
        have : (k + (vs.length + 1)) * sz = k * sz + vs.length * sz + sz := by rw [Nat.add_mul, Nat.add_mul]; omega
        omega
      rw [e1, h1, h3]
      simp

theorem run_buildSlice {t T : TypeId} {i : TypeInfo} {zv : Value} (w : World) (ht : P.underlying t = some (.slice T)) (hi : P.info? T = some i) (hz : i.zero = some zv) (vs : List Value) (hv : ∀ v ∈ vs, v.cells.size = i.size)
    (hzs : zv.cells.size = i.size) (hb : vs.length * i.size ≤ 16777216) (hpos : 0 < vs.length * i.size) :
    (Instr.buildSlice t vs.length ((vs.zipIdx 0).map fun p => (p.2, p.1)).toArray).run P w = .ok (.slice (some ⟨w.heap.size, 0, none⟩) vs.length vs.length) (w.alloc (.cells (vs.flatMap (·.cells.toList)).toArray T)) := by
  obtain ⟨out, ho, hol⟩ := fill_all i.size vs 0 ((Array.range (vs.length * i.size)).map (zv.cells[· % zv.cells.size]!)) hv (by simp)
  have hout : out = (vs.flatMap (·.cells.toList)).toArray := by
    apply Array.toList_inj.1
    rw [hol]; simp
  subst hout
  simp only [Instr.buildSlice, Sem.run_bind, run_underlying ht, Result.andThen_ok]
  simp [sizeOf, typeInfo, hi, zeroValue, hz, hzs]
  rw [if_neg (by omega), if_neg (by omega)]
  rw [hzs] at ho
  rw [ho]
  simp [newRow]

theorem pairs_of {ps : List (Nat × Operand)} {xs : List Operand} (k : Nat) (h1 : ps.map (·.2) = xs) (h2 : ps.map (·.1) = List.range' k xs.length) : ps = (xs.zipIdx k).map fun p => (p.2, p.1) := by
  induction ps generalizing xs k with
  | nil => simp at h1; subst h1; rfl
  | cons p ps ih =>
    cases xs with
    | nil => simp at h1
    | cons x xs =>
      simp only [List.map_cons, List.cons.injEq, List.length_cons, List.range'_succ] at h1 h2
      simp only [List.zipIdx_cons, List.map_cons]
      rw [← ih (k + 1) h1.2 h2.2, ← h1.1, ← h2.1]

variable {α : Type} [Rep α]
inductive RepL {α : Type} [Rep α] (Z : Frag) : List Value → List α → Prop
  | nil : RepL Z [] []
  | cons {v : Value} {z : α} {vs : List Value} {zs : List α} : Rep.rep Z v.cells.toList z → RepL Z vs zs → RepL Z (v :: vs) (z :: zs)
theorem RepL.length_eq {Z : Frag} {vs : List Value} {zs : List α} (h : RepL Z vs zs) : vs.length = zs.length := by
  induction h with
  | nil => rfl
  | cons _ _ ih => simp [ih]
theorem rows_get {Z : Frag} {vs : List Value} {zs : List α} (h : RepL Z vs zs) : ∀ (k : Nat) (z : α), zs[k]? = some z → ∃ us, Rep.rep Z us z ∧ ∀ (j : Nat) (u : Value), us[j]? = some u →
    (vs.flatMap (·.cells.toList))[k * Rep.sz α + j]? = some u := by
  induction h with
  | nil => intro k z hk; simp at hk
  | @cons v z vs zs hr _ ih =>
    intro k y hk
    have hl : v.cells.toList.length = Rep.sz α := Rep.len hr
    cases k with
    | zero =>
      simp only [List.getElem?_cons_zero, Option.some.injEq] at hk
      subst hk
      refine ⟨_, hr, fun j u hj => ?_⟩
      simp only [List.flatMap_cons, Nat.zero_mul, Nat.zero_add]
      rw [List.getElem?_append_left (cells_get hj)]; exact hj
    | succ k =>
      simp only [List.getElem?_cons_succ] at hk
      obtain ⟨us, h1, h2⟩ := ih k y hk
      refine ⟨us, h1, fun j u hj => ?_⟩
      simp only [List.flatMap_cons]
      rw [List.getElem?_append_right (by rw [hl, Nat.add_mul]; omega), hl]
      have : (k + 1) * Rep.sz α + j - Rep.sz α = k * Rep.sz α + j := by rw [Nat.add_mul]; omega
      rw [this]; exact h2 j u hj

/-- A slice written out: a row of one's own. -/
theorem wo_buildSlice {t T : TypeId} {n : Nat} {ps : Array (Nat × Operand)} {xs : List Operand} {vs : List Value} (zs : List α) (hT : ElT P α t T) (hs : sideB N e ops ⟨dst, .buildSlice t n ps, ty, pos, af, g⟩ = true)
    (hx : ps.toList.map (·.2) = xs) (hps : ps.toList.map (·.1) = List.range' 0 xs.length) (hv : e.vals xs = some vs) (hn : vs.length = n) (hn0 : Nat.blt 0 n = true) (hb : Nat.ble (n * (Rep.sz α + Rep.bytes α)) 16777216 = true)
    (hz : ∀ Z f, satL Z f cs → RepL Z vs zs)
    (h : ∀ v, WO P N E ops rest K (putE dst v e) (row T v zs :: cs)) : WO P N E ops (⟨dst, .buildSlice t n ps, ty, pos, af, g⟩ :: rest) K e cs :=
  wo_step hs (R := fun v cs' => cs' = row T v zs :: cs) (fun A w ha hw next Q _ hn' => by
    refine .inl ?_
    obtain ⟨i, zv, h1, h2, h3, h4, h5⟩ := hT.info
    subst hn
    have hb' := Nat.le_of_ble_eq_true hb
    have hn0' : 0 < vs.length := Nat.le_of_ble_eq_true hn0
    have hos := hw.os; have htp := hw.tape; have hot := hw.output
    obtain ⟨_, _, _, Z, f, d, hZ, hf, s⟩ := hw
    have hF := hz Z f s
    have hsz : ∀ v ∈ vs, v.cells.size = i.size := by
      have : ∀ {vs : List Value} {zs : List α}, RepL Z vs zs → ∀ v ∈ vs, v.cells.size = i.size := by
        intro vs zs hF
        induction hF with
        | nil => intro v hv; cases hv
        | cons hr _ ih =>
          intro v hv
          rcases List.mem_cons.1 hv with e1 | e1
          · subst e1; rw [h3, ← Array.length_toList]; exact Rep.len hr
          · exact ih v e1
      exact this hF
    have hlen : zs.length = vs.length := hF.length_eq.symm
    have hpos := Rep.pos (α := α)
    have hm : vs.length * Rep.sz α ≤ 16777216 ∧ vs.length * Rep.bytes α ≤ 16777216 := by rw [Nat.mul_add] at hb'; omega
    have hr := run_buildSlice (P := P) (t := t) w hT.under h1 h2 vs hsz (by rw [h3]; exact h5) (by rw [h3]; exact hm.1) (by rw [h3]; exact Nat.mul_pos hn0' hpos)
    have hargs : (ps.map fun p => (p.1, A.eval p.2)) = ((vs.zipIdx 0).map fun p => (p.2, p.1)).toArray := by
      apply Array.toList_inj.1
      have h6 := pairs_of (ps := ps.toList) 0 hx hps
      rw [Array.toList_map, h6]
      have h7 := ha.evals hv
      rw [← h7]
      simp [List.zipIdx_map]
    have hrun : (execOp A.eval ⟨dst, .buildSlice t vs.length ps, ty, pos, af, g⟩).run P w = .ok (.value (.slice (some ⟨w.heap.size, 0, none⟩) vs.length vs.length)) (w.alloc (.cells (vs.flatMap (·.cells.toList)).toArray T)) := by
      simp only [execOp, hargs, Sem.run_bind, hr, Result.andThen_ok, Sem.run_pure]
    unfold Oper.wp
    rw [hrun]
    have hw0 : Sat E w cs := ⟨hos, htp, hot, Z, f, d, hZ, hf, s⟩
    refine hn' _ _ _ rfl ⟨hos, htp, hot, Z, (Frag.one w.heap.size (.cells (vs.flatMap (·.cells.toList)).toArray T)).cup f, ?_, hZ.alloc _, ?_, Frag.one w.heap.size (.cells (vs.flatMap (·.cells.toList)).toArray T), f, Frag.one_dj hf.fresh, Frag.le_cup_left _ _, Frag.le_cup_right (Frag.one_dj hf.fresh), ?_, s⟩
    · exact (Frag.cup_dj (Frag.one_dj hZ.fresh) d.symm).symm
    · refine Frag.cup_in (fun k y hy => ?_) (hf.alloc _)
      unfold Frag.one at hy
      split at hy
      · rename_i e1; subst e1; rw [heap_alloc_new]; exact hy
      · cases hy
    · refine .inr ⟨w.heap.size, vs.length, (vs.flatMap (·.cells.toList)).toArray, by rw [hlen], Frag.one_self _ _, by rw [hlen]; exact Nat.le_refl _, by have := Nat.le_mul_of_pos_right vs.length hpos; omega, ?_, ?_⟩
      · have : ∀ {vs : List Value} {zs : List α}, RepL Z vs zs → (vs.flatMap (·.cells.toList)).length = vs.length * Rep.sz α := by
          intro vs zs hF
          induction hF with
          | nil => simp
          | cons hr _ ih => simp only [List.flatMap_cons, List.length_append, ih, List.length_cons, Rep.len hr, Nat.add_mul]; omega
        simpa using this hF
      · intro k x hk
        obtain ⟨us, h6, h7⟩ := rows_get hF k x hk
        exact ⟨us, h6, fun j u hj => by simpa using h7 j u hj⟩) (by rintro v _ rfl; exact h v)
theorem flats {α : Type} [Flat α] {Z : Frag} {vs : List Value} {zs : List α} (h : vs.map (·.cells.toList) = zs.map Flat.enc) : RepL Z vs zs := by
  induction vs generalizing zs with
  | nil => cases zs with
    | nil => exact .nil
    | cons z zs => simp at h
  | cons v vs ih => cases zs with
    | nil => simp at h
    | cons z zs =>
      simp only [List.map_cons, List.cons.injEq] at h
      exact .cons (Flat.flat.2 h.1) (ih h.2)
end
end Go.Sep
