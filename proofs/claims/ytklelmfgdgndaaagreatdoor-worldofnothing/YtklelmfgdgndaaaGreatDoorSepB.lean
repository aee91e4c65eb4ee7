/- The walk over code by what a state holds. -/
import Derived.Test.YtklelmfgdgndaaaGreatDoorSepA
namespace Go.Sep

/-! ### 1. The frame's slots -/
abbrev Env := List (Nat × Value)
def Env.get? : Env → Nat → Option Value
  | [], _ => none
  | (k, v) :: e, t => match Nat.beq k t with | true => some v | false => Env.get? e t
def Env.val (e : Env) : Operand → Option Value
  | .tmp t => e.get? t
  | .const v => some v
  | .global g => some (.pointer (some ⟨g, 0, none⟩))
  | .func f => some (.func (.func f) #[] #[])
def Env.vals (e : Env) : List Operand → Option (List Value)
  | [] => some []
  | x :: xs => match e.val x with | none => none | some v => match Env.vals e xs with | none => none | some vs => some (v :: vs)
@[reducible] def putE (d : Option Tmp) (v : Value) (e : Env) : Env := match d with | some t => (t, v) :: e | none => e
@[reducible] def dstB (N : Nat) (d : Option Tmp) : Bool := match d with | some t => Nat.blt t N | none => true

structure Agree (N : Nat) (e : Env) (a : Act) : Prop where
  size : a.tmps.size = N
  defers : a.defers = []
  get : ∀ t v, e.get? t = some v → a.tmps.getD t undef = v ∧ t < N

theorem Agree.eval {N : Nat} {e : Env} {a : Act} (h : Agree N e a) {x : Operand} {v : Value} (hx : e.val x = some v) : a.eval x = v := by
  cases x with
  | tmp t => exact (h.get t v hx).1
  | const u => simp [Env.val] at hx; subst hx; rfl
  | global g => simp [Env.val] at hx; subst hx; rfl
  | func f => simp [Env.val] at hx; subst hx; rfl
theorem Agree.evals {N : Nat} {e : Env} {a : Act} (h : Agree N e a) : ∀ {xs : List Operand} {vs : List Value}, e.vals xs = some vs → xs.map a.eval = vs
  | [], vs, hv => by simp [Env.vals] at hv; simp [hv]
  | x :: xs, vs, hv => by
    simp only [Env.vals] at hv
    split at hv
    · cases hv
    · rename_i v hx
      split at hv
      · cases hv
      · rename_i us hu
        injection hv with hv; subst hv
        simp [h.eval hx, h.evals hu]
theorem Agree.put {N : Nat} {e : Env} {a : Act} (h : Agree N e a) {d : Option Tmp} (hd : dstB N d = true) (v : Value) : Agree N (putE d v e) (a.put d v) := by
  cases d with
  | none => exact h
  | some t =>
    have ht : t < N := Nat.le_of_ble_eq_true hd
    refine ⟨by simp [Act.put, h.size], h.defers, fun u x hu => ?_⟩
    simp only [Env.get?] at hu
    split at hu
    · rename_i e'
      have : t = u := Nat.eq_of_beq_eq_true e'
      subst this
      injection hu with hu; subst hu
      refine ⟨?_, ht⟩
      simp [Act.put, h.size, ht]
    · rename_i e'
      have hne : t ≠ u := fun c => by subst c; simp at e'
      obtain ⟨h1, h2⟩ := h.get u x hu
      refine ⟨?_, h2⟩
      rw [← h1]
      simp [Act.put, hne]
def Env.Sub (e' e : Env) : Prop := ∀ t v, e'.get? t = some v → e.get? t = some v
theorem Env.Sub.refl (e : Env) : Env.Sub e e := fun _ _ h => h
theorem Env.Sub.nil (e : Env) : Env.Sub [] e := fun _ _ h => by cases h
theorem Env.Sub.cons {e' e : Env} {t : Nat} {v : Value} (h : e.get? t = some v) (r : Env.Sub e' e) : Env.Sub ((t, v) :: e') e := fun u x hu => by
  simp only [Env.get?] at hu
  split at hu
  · rename_i c
    have := Nat.eq_of_beq_eq_true c
    subst this
    rw [← hu]; exact h
  · exact r u x hu
theorem Agree.sub {N : Nat} {e e' : Env} {a : Act} (h : Agree N e a) (s : Env.Sub e' e) : Agree N e' a := ⟨h.size, h.defers, fun t v x => h.get t v (s t v x)⟩

/-! ### 2. Code -/
abbrev Post := Exit → Env → List Chunk → Prop
section
variable (P : Program) (N : Nat) (E : Env0)

/-- (No condition: an ending by want of room is not taken in.) -/
def LetsOut (_ : Exit → Act → World → Prop) : Prop := True
/-- From a state of these slots and chunks the code comes to one of K. -/
def WS (c : Code) (K : Post) (e : Env) (cs : List Chunk) : Prop :=
  ∀ Q : Exit → Act → World → Prop, LetsOut Q → (∀ x e' cs', K x e' cs' → ∀ a w, Agree N e' a → Sat E w cs' → Q x a w) →
    ∀ a w, Agree N e a → Sat E w cs → c.wp P Q a w
def WO (ops : Array Oper) (l : List Oper) (K : Env → List Chunk → Prop) (e : Env) (cs : List Chunk) : Prop :=
  ∀ Q : Exit → Act → World → Prop, LetsOut Q → (∀ e' cs', K e' cs' → ∀ a w, Agree N e' a → Sat E w cs' → Q .normal a w) →
    ∀ a w, Agree N e a → Sat E w cs → wpList P ops Q l a w
/-- One operation. -/
def OpT (o : Oper) (e : Env) (cs : List Chunk) (R : Value → List Chunk → Prop) : Prop :=
  ∀ a w, Agree N e a → Sat E w cs → ∀ (next : Act → World → Prop) (Q : Exit → Act → World → Prop), LetsOut Q →
    (∀ v cs' w', R v cs' → Sat E w' cs' → next (a.put o.dst v) w') → o.wp P a w next Q ∨ False
end
@[reducible] def thenK (A : Env → List Chunk → Prop) (K : Post) : Post
  | .normal, e, cs => A e cs
  | x, e, cs => K x e cs
@[reducible] def blockK (id : Nat) (K : Post) : Post
  | .exit j, e, cs => match Nat.beq j id with | true => K .normal e cs | false => K (.exit j) e cs
  | x, e, cs => K x e cs

section
variable {P : Program} {N : Nat} {E : Env0} {K : Post} {e : Env} {cs : List Chunk}

theorem WS.weak {c : Code} {e' : Env} {cs' : List Chunk} (h : WS P N E c K e' cs') (s : Env.Sub e' e) (t : Ent cs cs') : WS P N E c K e cs :=
  fun Q ho hQ a w ha hw => h Q ho hQ a w (ha.sub s) (hw.ent t)
theorem WS.mono {c : Code} {K' : Post} (h : WS P N E c K e cs) (hk : ∀ x e cs, K x e cs → K' x e cs) : WS P N E c K' e cs :=
  fun Q ho hQ a w ha hw => h Q ho (fun x e cs k => hQ x e cs (hk x e cs k)) a w ha hw

theorem LetsOut.then {Q : Exit → Act → World → Prop} {n : Act → World → Prop} (h : LetsOut Q) : LetsOut (Exit.then n Q) := trivial
theorem LetsOut.inBlock {Q : Exit → Act → World → Prop} {i : Nat} (h : LetsOut Q) : LetsOut (Exit.inBlock i Q) := trivial

theorem ws_seq {x y : Code} (h : WS P N E x (thenK (WS P N E y K) K) e cs) : WS P N E (.seq x y) K e cs := by
  intro Q ho hQ a w ha hw
  refine wp_seq (h _ (LetsOut.then ho) ?_ a w ha hw)
  intro r e' cs' hk a' w' ha' hw'
  cases r with
  | normal => exact hk Q ho hQ a' w' ha' hw'
  | exit i => exact hQ _ _ _ hk a' w' ha' hw'
  | goto l => exact hQ _ _ _ hk a' w' ha' hw'
  | ret => exact hQ _ _ _ hk a' w' ha' hw'
  | panic c => exact hQ _ _ _ hk a' w' ha' hw'
  | outgrown => exact hQ _ _ _ hk a' w' ha' hw'
theorem ws_skip (h : K .normal e cs) : WS P N E .skip K e cs := fun _ _ hQ a w ha hw => wp_skip (hQ _ _ _ h a w ha hw)
theorem ws_label {l : Nat} (h : K .normal e cs) : WS P N E (.label l) K e cs := fun _ _ hQ a w ha hw => wp_label (hQ _ _ _ h a w ha hw)
theorem ws_ret (h : K .ret e cs) : WS P N E .ret K e cs := fun _ _ hQ a w ha hw => wp_ret (hQ _ _ _ h a w ha hw)
theorem ws_exit {i : Nat} (h : K (.exit i) e cs) : WS P N E (.exit i) K e cs := fun _ _ hQ a w ha hw => wp_exit (hQ _ _ _ h a w ha hw)
theorem ws_block {i : Nat} {c : Code} (h : WS P N E c (blockK i K) e cs) : WS P N E (.block i c) K e cs := by
  intro Q ho hQ a w ha hw
  refine wp_block (h _ (LetsOut.inBlock ho) ?_ a w ha hw)
  intro r e' cs' hk a' w' ha' hw'
  cases r with
  | normal => exact hQ _ _ _ hk a' w' ha' hw'
  | exit j =>
    simp only [Exit.inBlock]
    simp only [blockK] at hk
    split at hk
    · rename_i c; rw [if_pos (Nat.eq_of_beq_eq_true c)]; exact hQ _ _ _ hk a' w' ha' hw'
    · rename_i c
      have : j ≠ i := fun d => by subst d; simp at c
      rw [if_neg this]; exact hQ _ _ _ hk a' w' ha' hw'
  | goto l => exact hQ _ _ _ hk a' w' ha' hw'
  | ret => exact hQ _ _ _ hk a' w' ha' hw'
  | panic c => exact hQ _ _ _ hk a' w' ha' hw'
  | outgrown => exact hQ _ _ _ hk a' w' ha' hw'
theorem ws_cond {c : Operand} {x y : Code} {t : Bool} (hc : e.val c = some (.bool t)) (ht : t = true → WS P N E x K e cs) (hf : t = false → WS P N E y K e cs) :
    WS P N E (.cond c x y) K e cs :=
  fun Q ho hQ a w ha hw => wp_cond_split (ha.eval hc) (fun h => ht h Q ho hQ a w ha hw) (fun h => hf h Q ho hQ a w ha hw)
theorem ws_cond1 {c : Operand} {x y : Code} (hc : e.val c = some (.bool true)) (h : WS P N E x K e cs) : WS P N E (.cond c x y) K e cs :=
  ws_cond hc (fun _ => h) (fun h => by cases h)
theorem ws_cond0 {c : Operand} {x y : Code} (hc : e.val c = some (.bool false)) (h : WS P N E y K e cs) : WS P N E (.cond c x y) K e cs :=
  ws_cond hc (fun h => by cases h) (fun _ => h)
theorem ws_cond_p {c : Operand} {x y : Code} {p : Prop} [Decidable p] (hc : e.val c = some (.bool (decide p))) (ht : p → WS P N E x K e cs) (hf : ¬ p → WS P N E y K e cs) :
    WS P N E (.cond c x y) K e cs :=
  ws_cond hc (fun h => ht (of_decide_eq_true h)) (fun h => hf (of_decide_eq_false h))

/-- A loop: 'inv x' is what stands at the head of a round, 'm x' goes down. -/
theorem ws_loop {X : Type} {c : Code} (inv : X → Env × List Chunk) (ok : X → Prop) (m : X → Nat) (x0 : X) (hok : ok x0)
    (hs : Env.Sub (inv x0).1 e) (ht : Ent cs (inv x0).2)
    (round : ∀ x, ok x → WS P N E c (thenK (fun e' cs' => ∃ y, ok y ∧ m y < m x ∧ Env.Sub (inv y).1 e' ∧ Ent cs' (inv y).2) K) (inv x).1 (inv x).2) :
    WS P N E (.loop c) K e cs := by
  intro Q ho hQ a w ha hw
  let I : Nat → Act → World → Prop := fun n a w => ∃ x, ok x ∧ m x = n ∧ Agree N (inv x).1 a ∧ Sat E w (inv x).2
  intro b k fs
  have key : ∀ n a w, I n a w → ∃ r a' w', Q r a' w' ∧ Arrives P (lone (b.at a (.code c :: .inLoop c :: k)) fs w) b k fs r a' w' := by
    intro n
    induction n using Nat.strongRecOn with
    | _ n ih =>
      rintro a w ⟨x, hx, hm, hA, hS⟩
      obtain ⟨r, a₁, w₁, hq, harr⟩ := round x hx (Exit.then (fun a' w' => ∃ n', n' < n ∧ I n' a' w') Q) (LetsOut.then ho) (by
        intro r e' cs' hk a' w' ha' hw'
        cases r with
        | normal => obtain ⟨y, hy, hlt, s, t⟩ := hk; exact ⟨m y, hm ▸ hlt, y, hy, rfl, ha'.sub s, hw'.ent t⟩
        | exit i => exact hQ _ _ _ hk a' w' ha' hw'
        | goto l => exact hQ _ _ _ hk a' w' ha' hw'
        | ret => exact hQ _ _ _ hk a' w' ha' hw'
        | panic c => exact hQ _ _ _ hk a' w' ha' hw'
        | outgrown => exact hQ _ _ _ hk a' w' ha' hw') a w hA hS b (.inLoop c :: k) fs
      cases r with
      | normal =>
        obtain ⟨n', hlt, hI⟩ := hq
        obtain ⟨r₂, a₂, w₂, hq₂, harr₂⟩ := ih n' hlt a₁ w₁ hI
        exact ⟨r₂, a₂, w₂, hq₂, .of_steps (Steps.trans harr (.one step_inLoop)) harr₂⟩
      | exit id => exact ⟨_, a₁, w₁, hq, .pass (x := .inLoop c) rfl (fun _ _ => .inl (by simp)) harr⟩
      | goto l => exact ⟨_, a₁, w₁, hq, .pass (x := .inLoop c) rfl (fun _ _ => .inl (by simp)) harr⟩
      | ret => exact ⟨_, a₁, w₁, hq, .pass (x := .inLoop c) rfl (fun _ _ => .inl (by simp)) harr⟩
      | panic ch => exact ⟨_, a₁, w₁, hq, .pass (x := .inLoop c) rfl (fun _ _ => .inl (by simp)) harr⟩
      | outgrown => exact ⟨_, a₁, w₁, hq, .pass (x := .inLoop c) rfl (fun _ _ => .inl (by simp)) harr⟩
  obtain ⟨r, a', w', hq, harr⟩ := key _ a w ⟨x0, hok, rfl, ha.sub hs, hw.ent ht⟩
  exact ⟨r, a', w', hq, .of_steps (.one step_loop) harr⟩

/-! ### 3. Operations -/
theorem ws_region {i : Nat} {l : List Oper} (h : WO P N E l.toArray l (K .normal) e cs) : WS P N E (.region i l.toArray false) K e cs :=
  fun Q ho hQ a w ha hw => wp_region_lit (h Q ho (fun _ _ k => hQ _ _ _ k) a w ha hw)
end

section
variable {P : Program} {N : Nat} {E : Env0} {ops : Array Oper} {rest : List Oper} {o : Oper} {K : Env → List Chunk → Prop} {e : Env} {cs : List Chunk}

theorem wo_nil (h : K e cs) : WO P N E ops [] K e cs := fun _ _ hQ a w ha hw => hQ _ _ h a w ha hw
theorem WO.weak {l : List Oper} {e' : Env} {cs' : List Chunk} (h : WO P N E ops l K e' cs') (s : Env.Sub e' e) (t : Ent cs cs') : WO P N E ops l K e cs :=
  fun Q ho hQ a w ha hw => h Q ho hQ a w (ha.sub s) (hw.ent t)

theorem wanted_none {o : Oper} (hg : o.guard = none) (y : Nat → Option Bool) : Region.wanted o y = true := by simp [Region.wanted, hg]
theorem yielded_of {a : Act} {ops : Array Oper} {j d : Nat} {b : Bool} (ha : Agree N e a) (hj : (ops[j]?).bind (·.dst) = some d) (hv : e.get? d = some (.bool b)) : yielded ops a.tmps j = some b := by
  obtain ⟨h1, h2⟩ := ha.get d _ hv
  have h3 : a.tmps[d]? = some (.bool b) := by
    have hs : d < a.tmps.size := by rw [ha.size]; exact h2
    rw [Array.getD_eq_getD_getElem?, Array.getElem?_eq_getElem hs] at h1
    rw [Array.getElem?_eq_getElem hs]; simpa using h1
  unfold yielded
  rw [hj]; simp [h3]

theorem wo_op {R : Value → List Chunk → Prop} (hg : o.guard = none) (hd : dstB N o.dst = true) (h : OpT P N E o e cs R)
    (k : ∀ v cs', R v cs' → WO P N E ops rest K (putE o.dst v e) cs') : WO P N E ops (o :: rest) K e cs := by
  intro Q ho hQ a w ha hw
  unfold wpList
  rw [if_pos (wanted_none hg _)]
  rcases h a w ha hw (wpList P ops Q rest) Q ho (fun v cs' w' hr hs => k v cs' hr Q ho hQ _ _ (ha.put hd v) hs) with h | h
  · exact .inl h
  · exact h.elim
/-- An operation that is done only where a test before it said so. -/
theorem wo_guard {R : Value → List Chunk → Prop} {j d : Nat} {want b : Bool} (hg : o.guard = some (j, want)) (hj : (ops[j]?).bind (·.dst) = some d) (hv : e.get? d = some (.bool b))
    (hd : dstB N o.dst = true) (yes : b = want → OpT P N E o e cs R ∧ ∀ v cs', R v cs' → WO P N E ops rest K (putE o.dst v e) cs')
    (no : b = !want → WO P N E ops rest K (putE o.dst undef e) cs) : WO P N E ops (o :: rest) K e cs := by
  intro Q ho hQ a w ha hw
  have hy := yielded_of ha hj hv
  unfold wpList
  by_cases hb : b = want
  · obtain ⟨h, k⟩ := yes hb
    rw [if_pos (by simp [Region.wanted, hg, hy, hb])]
    rcases h a w ha hw (wpList P ops Q rest) Q ho (fun v cs' w' hr hs => k v cs' hr Q ho hQ _ _ (ha.put hd v) hs) with h | h
    · exact .inl h
    · exact h.elim
  · have hn : b = !want := by cases b <;> cases want <;> simp_all
    rw [if_neg (by simp [Region.wanted, hg, hy, hn])]
    exact no hn Q ho hQ _ _ (ha.put hd undef) hw

/-- An operation that only reads. -/
theorem opT_val {v : Value} (h : ∀ a w, Agree N e a → Sat E w cs → (execOp a.eval o).run P w = .ok (.value v) w) : OpT P N E o e cs (fun v' cs' => v' = v ∧ cs' = cs) := by
  intro a w ha hw next Q _ hn
  refine .inl ?_
  unfold Oper.wp
  rw [h a w ha hw]
  exact hn v cs w ⟨rfl, rfl⟩ hw
theorem wo_val {v : Value} (hg : o.guard = none) (hd : dstB N o.dst = true) (h : ∀ a w, Agree N e a → Sat E w cs → (execOp a.eval o).run P w = .ok (.value v) w)
    (k : WO P N E ops rest K (putE o.dst v e) cs) : WO P N E ops (o :: rest) K e cs :=
  wo_op hg hd (opT_val h) (by rintro _ _ ⟨rfl, rfl⟩; exact k)
end

/-! ### 4. Functions -/
/-- A function called on these values and chunks comes back with what post says; whatever else there is stays. -/
def Con (P : Program) (f : FuncId) (args : List Value) (pre : List Chunk) (post : Value → List Chunk → Prop) : Prop :=
  ∀ E fr w, Sat E w (pre ++ fr) → Calls P f args.toArray w fun
    | .returned v, w' => ∃ cs', post v cs' ∧ Sat E w' (cs' ++ fr)
    | .panicked _, _ => False
    | .outgrown, _ => False

def RetOK (P : Program) (N : Nat) (E : Env0) (fn : Func) (e : Env) (cs : List Chunk) (v : Value) : Prop :=
  ∀ a w, Agree N e a → Sat E w cs → (results fn a.tmps).run P w = .ok v w
@[reducible] def retK (P : Program) (N : Nat) (E : Env0) (fn : Func) (post : Value → List Chunk → Prop) (fr : List Chunk) : Post
  | .normal, e, cs | .ret, e, cs => ∃ v cs', RetOK P N E fn e cs v ∧ post v cs' ∧ Ent cs (cs' ++ fr)
  | _, _, _ => False
def argEnv : Nat → List Value → Env
  | _, [] => []
  | i, v :: vs => (i, v) :: argEnv (i + 1) vs

theorem argEnv_get : ∀ (vs : List Value) (i t : Nat) (v : Value), (argEnv i vs).get? t = some v → i ≤ t ∧ vs[t - i]? = some v
  | [], _, _, _, h => by cases h
  | x :: vs, i, t, v, h => by
    simp only [argEnv, Env.get?] at h
    split at h
    · rename_i c
      have := Nat.eq_of_beq_eq_true c
      subst this
      exact ⟨Nat.le_refl _, by simpa using h⟩
    · obtain ⟨h1, h2⟩ := argEnv_get vs (i + 1) t v h
      refine ⟨by omega, ?_⟩
      have : t - i = (t - (i + 1)) + 1 := by omega
      rw [this]; simpa using h2

theorem con_body {P : Program} {f : FuncId} {fn : Func} {c : Code} {N : Nat} {args : List Value} {pre : List Chunk} {post : Value → List Chunk → Prop}
    (hf : P.funcs[f]? = some fn) (hb : fn.body = some c) (hn : fn.ntmps = N) (ha : Nat.ble args.length N = true)
    (h : ∀ E fr, WS P N E c (retK P N E fn post fr) (argEnv 0 args) (pre ++ fr)) : Con P f args pre post := by
  intro E fr w hw
  refine calls_of_wp hf hb ?_
  have hle : args.length ≤ N := Nat.le_of_ble_eq_true ha
  refine h E fr _ trivial ?_ _ w ⟨?_, rfl, ?_⟩ hw
  · intro x e' cs' hk a w' ha' hw'
    cases x with
    | normal => obtain ⟨v, ds, hr, hp, ht⟩ := hk; exact ⟨ha'.defers, v, hr a w' ha' hw', ds, hp, hw'.ent ht⟩
    | ret => obtain ⟨v, ds, hr, hp, ht⟩ := hk; exact ⟨ha'.defers, v, hr a w' ha' hw', ds, hp, hw'.ent ht⟩
    | exit i => exact hk.elim
    | goto l => exact hk.elim
    | panic c => exact hk.elim
    | outgrown => exact hk.elim
  · simp [hn]; omega
  · intro t v ht
    obtain ⟨_, h2⟩ := argEnv_get args 0 t v ht
    simp only [Nat.sub_zero] at h2
    have hlt : t < args.length := by
      rcases Nat.lt_or_ge t args.length with h | h
      · exact h
      · rw [List.getElem?_eq_none h] at h2; cases h2
    refine ⟨?_, by omega⟩
    rw [Array.getD_eq_getD_getElem?, Array.getElem?_append_left (by simpa using hlt)]
    simp [h2]

theorem ret1 {P : Program} {N : Nat} {E : Env0} {fn : Func} {t : Tmp} {e : Env} {cs : List Chunk} {v : Value} (hr : fn.results = #[.tmp t]) (hv : e.get? t = some v) : RetOK P N E fn e cs v := by
  intro a w ha _
  rw [results_tmp hr, (ha.get t v hv).1]
theorem ret0 {P : Program} {N : Nat} {E : Env0} {fn : Func} {e : Env} {cs : List Chunk} (hr : fn.results = #[]) : RetOK P N E fn e cs (.tuple #[]) := fun a w _ _ => results_none hr a.tmps P w
theorem ret2 {P : Program} {N : Nat} {E : Env0} {fn : Func} {t u : Tmp} {e : Env} {cs : List Chunk} {v x : Value} (hr : fn.results = #[.tmp t, .tmp u]) (hv : e.get? t = some v) (hx : e.get? u = some x) :
    RetOK P N E fn e cs (.tuple #[v, x]) := by
  intro a w ha _
  rw [results_tmp2 hr, (ha.get t v hv).1, (ha.get u x hx).1]

end Go.Sep
