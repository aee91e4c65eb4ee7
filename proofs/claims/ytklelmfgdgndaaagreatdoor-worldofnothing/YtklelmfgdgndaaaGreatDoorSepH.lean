/- Statements that leave their order open: whatever order is drawn. -/
import Derived.Test.YtklelmfgdgndaaaGreatDoorSepG
import Derived.Orders
namespace Go.Sep

section
variable (P : Program) (N : Nat) (E : Env0) (ops : Array Oper)

/-- An operation of which it does not count when it is done: its value, and what is had stays. -/
def gq (o : Oper) (e : Env) (cs : List Chunk) (v : Value) : Prop :=
  WO P N E ops [o] (fun e' cs' => (match o.dst with | some d => e'.get? d = some v | none => v = undef) ∧ Ent cs' cs) e cs

def readyL (L : List Nat) (i : Nat) : Bool :=
  match ops[i]? with | some o => o.after.all (fun ed => !Region.binds .any ed || L.contains ed.on) && !L.contains i | none => false
/-- All that is ready is done or one of M. -/
def restB (L M : List Nat) : Bool := (List.range ops.size).all fun j => M.contains j || L.contains j || !readyL ops L j
def depsL (i : Nat) : List Nat := match ops[i]? with | some o => (o.after.toList.filter (Region.binds .any ·)).map (·.on) | none => []
def reachL : Nat → List Nat → List Nat
  | 0, l => l
  | j + 1, l => reachL j (match l.any (fun k => (depsL ops k).contains j) with | true => j :: l | false => l)
def preds (i : Nat) : List Nat := reachL ops ops.size (depsL ops i)
/-- What may wait beside operation i is told of. -/
def coverB (L S F : List Nat) (i : Nat) : Bool := L.all fun q => (preds ops i).contains q || S.contains q || F.contains q
/-- An operation thought done is still to be had so. -/
def gqAt (q : Nat) (e : Env) (cs : List Chunk) : Prop := ∃ o d v, ops[q]? = some o ∧ o.dst = some d ∧ e.get? d = some v ∧ gq P N E ops o e cs v
@[reducible] def stays (e : Env) (cs : List Chunk) : List Nat → Prop
  | [] => True
  | q :: F => gqAt P N E ops q e cs ∧ stays e cs F
def keepF (i : Nat) (F : List Nat) : List Nat := F.filter fun q => !(preds ops i).contains q
def step1 (o : Oper) (R : Value → List Chunk → Prop) (e : Env) (cs : List Chunk) : Prop := WO P N E ops [o] (fun e' cs' => ∃ v, e' = putE o.dst v e ∧ R v cs') e cs

inductive WD (K : Env → List Chunk → Prop) : List Nat → List Nat → List Nat → Env → List Chunk → Prop
  | done {L S F : List Nat} {e : Env} {cs : List Chunk} : (List.range ops.size).all (fun i => L.contains i) = true → K e cs → WD K L S F e cs
  | quiet {L S F : List Nat} {e : Env} {cs : List Chunk} (i : Nat) {v : Value} {o : Oper} {d : Nat} : ops[i]? = some o → o.dst = some d → Nat.blt d N = true → readyL ops L i = true →
      gq P N E ops o e cs v → WD K (i :: L) S (i :: F) ((d, v) :: e) cs → WD K L S F e cs
  | steady {L S F : List Nat} {e : Env} {cs : List Chunk} (i : Nat) {v : Value} {o : Oper} {d : Nat} : ops[i]? = some o → o.dst = some d → Nat.blt d N = true → readyL ops L i = true →
      (∀ cs', gq P N E ops o e cs' v) → WD K (i :: L) (i :: S) F ((d, v) :: e) cs → WD K L S F e cs
  | mains {L S F : List Nat} {e : Env} {cs : List Chunk} (M : List Nat) {o : Nat → Oper} {R : Nat → Value → List Chunk → Prop} :
      (∀ i ∈ M, ops[i]? = some (o i) ∧ dstB N (o i).dst = true ∧ readyL ops L i = true ∧ coverB ops L S F i = true) → restB ops L M = true → M ≠ [] →
      (∀ i ∈ M, step1 P N E ops (o i) (R i) e cs) → (∀ i ∈ M, ∀ v cs', R i v cs' → stays P N E ops (putE (o i).dst v e) cs' (keepF ops i F)) →
      (∀ i ∈ M, ∀ v cs', R i v cs' → WD K (i :: L) S (keepF ops i F) (putE (o i).dst v e) cs') → WD K L S F e cs
  | weak {L S S' F F' : List Nat} {e e' : Env} {cs : List Chunk} : Env.Sub e' e → (∀ x ∈ F', x ∈ F) → (∀ j ∈ S', j ∈ S) → WD K L S' F' e' cs → WD K L S F e cs

def statB : Bool := (List.range ops.size).all fun (i : Nat) => match (ops[i]? : Option Oper) with
  | none => false
  | some o => (match o.op with | .select .. => false | _ => true) && o.after.all (fun ed => !Region.binds .any ed || ed.on < i) &&
      (List.range ops.size).all fun (j : Nat) => j == i || (match (ops[j]?).bind (fun (o : Oper) => o.dst) with
        | some d => (!(o.looksAt ops).contains d || (depsL ops i).contains j) && o.dst != some d
        | none => true) && (match o.dst with | some d => !(o.looksAt ops).contains d | none => true)
end

section
variable {P : Program} {N : Nat} {E : Env0} {ops : Array Oper} {K : Env → List Chunk → Prop}

theorem stays_mem {e : Env} {cs : List Chunk} : ∀ {F : List Nat}, stays P N E ops e cs F → ∀ q ∈ F, gqAt P N E ops q e cs
  | [], _, _, h => by cases h
  | q' :: F, h, q, hm => by
    obtain ⟨h1, h2⟩ := h
    rcases List.mem_cons.1 hm with e1 | e1
    · subst e1; exact h1
    · exact stays_mem h2 q e1

structure DStat (ops : Array Oper) : Prop where
  sel : ∀ (i : Nat) (o : Oper), ops[i]? = some o → ∀ cs b, o.op ≠ .select cs b
  back : ∀ (i : Nat) (o : Oper), ops[i]? = some o → ∀ ed ∈ o.after, Region.binds .any ed = true → ed.on < i
  looks : ∀ (i : Nat) (o : Oper), ops[i]? = some o → ∀ (j d : Nat), j ≠ i → (ops[j]?).bind (fun (o : Oper) => o.dst) = some d → d ∈ o.looksAt ops → ∃ ed ∈ o.after, Region.binds .any ed = true ∧ ed.on = j
  dsts : ∀ (i : Nat) (o : Oper), ops[i]? = some o → ∀ (j d : Nat), j ≠ i → (ops[j]?).bind (fun (o : Oper) => o.dst) = some d → o.dst ≠ some d
  own : ∀ (i : Nat) (o : Oper) (d : Nat), ops[i]? = some o → o.dst = some d → 2 ≤ ops.size → d ∉ o.looksAt ops
theorem depsL_mem {i j : Nat} {o : Oper} (ho : ops[i]? = some o) : j ∈ depsL ops i ↔ ∃ ed ∈ o.after, Region.binds .any ed = true ∧ ed.on = j := by
  simp only [depsL, ho, List.mem_map, List.mem_filter, Array.mem_toList_iff]
  constructor
  · rintro ⟨ed, ⟨h1, h2⟩, h3⟩; exact ⟨ed, h1, h2, h3⟩
  · rintro ⟨ed, h1, h2, h3⟩; exact ⟨ed, ⟨h1, h2⟩, h3⟩
theorem stat_of (h : statB ops = true) : DStat ops := by
  have key : ∀ (i : Nat) (o : Oper), ops[i]? = some o → (match o.op with | .select .. => false | _ => true) = true ∧ (∀ ed ∈ o.after, Region.binds .any ed = true → ed.on < i) ∧
      ∀ j, j < ops.size → j ≠ i → (∀ d, (ops[j]?).bind (·.dst) = some d → (d ∈ o.looksAt ops → j ∈ depsL ops i) ∧ o.dst ≠ some d) ∧ (∀ d, o.dst = some d → d ∉ o.looksAt ops) := by
    intro i o ho
    have hi : i < ops.size := (Array.getElem?_eq_some_iff.1 ho).1
    have h1 := List.all_eq_true.1 h i (List.mem_range.2 hi)
    simp only [ho, Bool.and_eq_true] at h1
    obtain ⟨⟨h2, h3⟩, h4⟩ := h1
    refine ⟨h2, fun ed hed hb => ?_, fun j hj hne => ?_⟩
    · have := (Array.all_eq_true_iff_forall_mem.1 h3) ed hed
      simpa [hb] using this
    · have h5 := List.all_eq_true.1 h4 j (List.mem_range.2 hj)
      have hne' : (j == i) = false := by simpa using hne
      simp only [hne', Bool.false_or, Bool.and_eq_true] at h5
      refine ⟨fun d hd => ?_, fun d hd => ?_⟩
      · have h6 := h5.1
        rw [hd] at h6
        simp only [Bool.and_eq_true, Bool.or_eq_true, Bool.not_eq_true', bne_iff_ne, ne_eq] at h6
        refine ⟨fun hm => ?_, h6.2⟩
        rcases h6.1 with h7 | h7
        · have : (o.looksAt ops).contains d = true := by simpa using hm
          rw [this] at h7; cases h7
        · simpa using h7
      · have h6 := h5.2
        rw [hd] at h6
        simpa using h6
  have lt_of : ∀ {j d : Nat}, (ops[j]?).bind (·.dst) = some d → j < ops.size := fun {j d} hd => by
    cases hj : ops[j]? with
    | none => rw [hj] at hd; cases hd
    | some o => exact (Array.getElem?_eq_some_iff.1 hj).1
  refine ⟨fun i o ho cs b hc => ?_, fun i o ho => (key i o ho).2.1, fun i o ho j d hne hd hm => ?_, fun i o ho j d hne hd => ?_, fun i o d ho hd h2 => ?_⟩
  · have := (key i o ho).1; rw [hc] at this; cases this
  · exact (depsL_mem ho).1 ((((key i o ho).2.2 j (lt_of hd) hne).1 d hd).1 hm)
  · exact (((key i o ho).2.2 j (lt_of hd) hne).1 d hd).2
  · have hi : i < ops.size := (Array.getElem?_eq_some_iff.1 ho).1
    obtain ⟨j, hj, hne⟩ : ∃ j, j < ops.size ∧ j ≠ i := by
      by_cases h0 : i = 0
      · exact ⟨1, by omega, by omega⟩
      · exact ⟨0, by omega, fun c => h0 c.symm⟩
    exact ((key i o ho).2.2 j hj hne).2 d hd


/-- What holds when the operations of A are done, and those of L may be thought done. -/
structure InvD (P : Program) (N : Nat) (E : Env0) (ops : Array Oper) (L S F : List Nat) (e : Env) (cs : List Chunk) (A : Array Bool) (a : Act) (w : World) : Prop where
  size : a.tmps.size = N
  defers : a.defers = []
  asize : A.size = ops.size
  sat : Sat E w cs
  sub : ∀ i, A.getD i false = true → i ∈ L
  closed : ∀ i o, A.getD i false = true → ops[i]? = some o → ∀ ed ∈ o.after, Region.binds .any ed = true → A.getD ed.on false = true
  agree : ∀ t v, e.get? t = some v → (∃ j ∈ L, A.getD j false = false ∧ (ops[j]?).bind (·.dst) = some t) ∨ (a.tmps.getD t undef = v ∧ t < N)
  pend : ∀ j ∈ L, A.getD j false = false → ∃ v o d, ops[j]? = some o ∧ o.dst = some d ∧ d < N ∧ e.get? d = some v ∧ gq P N E ops o e cs v ∧ (j ∈ S → ∀ cs', gq P N E ops o e cs' v)
  inS : ∀ j ∈ S, j ∈ L
  inF : ∀ j ∈ F, j ∈ L
  fresh : ∀ (i : Nat) (o : Oper) (d : Nat), i ∉ L → ops[i]? = some o → o.dst = some d → e.get? d = none

theorem getD_true_false {A : Array Bool} {i : Nat} (hi : i < A.size) : A.getD i true = A.getD i false := by
  simp [hi]

/-- The frame that the rules speak of: the slots of e set. -/
def overA (a : Act) (e : Env) : Act := { a with tmps := (Array.range a.tmps.size).map fun t => (e.get? t).getD (a.tmps.getD t undef) }
theorem overA_size (a : Act) (e : Env) : (overA a e).tmps.size = a.tmps.size := by simp [overA]
theorem overA_get (a : Act) (e : Env) (t : Nat) : (overA a e).tmps.getD t undef = if t < a.tmps.size then (e.get? t).getD (a.tmps.getD t undef) else undef := by
  by_cases h : t < a.tmps.size
  · simp [overA, h]
  · simp [overA, h]

section
variable {L S F : List Nat} {e : Env} {cs : List Chunk} {A : Array Bool} {a : Act} {w : World}
theorem InvD.lt (h : InvD P N E ops L S F e cs A a w) {t : Nat} {v : Value} (ht : e.get? t = some v) : t < N := by
  rcases h.agree t v ht with ⟨j, hj, hA, hd⟩ | ⟨_, h2⟩
  · obtain ⟨_, o, d, ho, hod, hlt, _⟩ := h.pend j hj hA
    rw [ho] at hd
    simp only [Option.bind_some, hod, Option.some.injEq] at hd
    subst hd; exact hlt
  · exact h2
theorem InvD.over (h : InvD P N E ops L S F e cs A a w) : Agree N e (overA a e) := by
  refine ⟨by rw [overA_size, h.size], h.defers, fun t v ht => ?_⟩
  have := h.lt ht
  rw [overA_get, h.size, if_pos this, ht]
  exact ⟨rfl, this⟩
/-- An operation whose forerunners are done sees the same in both. -/
theorem InvD.eval (st : DStat ops) (h : InvD P N E ops L S F e cs A a w) {i : Nat} {o : Oper} (ho : ops[i]? = some o) (hA : A.getD i false = false) (hdep : ∀ ed ∈ o.after, Region.binds .any ed = true → A.getD ed.on false = true)
    (h2 : 2 ≤ ops.size ∨ ∀ d, o.dst = some d → d ∉ o.looksAt ops) {t : Nat} (ht : t ∈ o.looksAt ops) : (overA a e).tmps.getD t undef = a.tmps.getD t undef := by
  rw [overA_get]
  by_cases hlt : t < a.tmps.size
  · rw [if_pos hlt]
    cases hx : e.get? t with
    | none => rfl
    | some v =>
      rcases h.agree t v hx with ⟨j, hj, hjA, hd⟩ | ⟨h3, _⟩
      · exfalso
        by_cases hji : j = i
        · subst hji
          rw [ho] at hd
          simp only [Option.bind_some] at hd
          rcases h2 with h2 | h2
          · exact st.own j o t ho hd h2 ht
          · exact h2 t hd ht
        · obtain ⟨ed, hed, hb, hon⟩ := st.looks i o ho j t hji hd ht
          have := hdep ed hed hb
          rw [hon, hjA] at this; cases this
      · simp [h3]
  · rw [if_neg hlt]; simp [hlt]
theorem InvD.exec (st : DStat ops) (h : InvD P N E ops L S F e cs A a w) {i : Nat} {o : Oper} (ho : ops[i]? = some o) (hA : A.getD i false = false) (hdep : ∀ ed ∈ o.after, Region.binds .any ed = true → A.getD ed.on false = true)
    (h2 : 2 ≤ ops.size ∨ ∀ d, o.dst = some d → d ∉ o.looksAt ops) : execOp (overA a e).eval o = execOp a.eval o := by
  refine execOp_congr o (st.sel i o ho) fun x hx => ?_
  cases x with
  | tmp t => exact h.eval st ho hA hdep h2 (by simp only [Oper.looksAt, List.mem_append, List.mem_filterMap, Array.mem_toList_iff]; exact .inl ⟨_, hx, rfl⟩)
  | _ => rfl
theorem yielded_getD (ops : Array Oper) (tmps : Array Value) (j d : Nat) (hd : (ops[j]?).bind (·.dst) = some d) : yielded ops tmps j = match tmps.getD d undef with | .bool b => some b | _ => none := by
  unfold yielded
  rw [hd]
  simp only [Option.bind_some]
  by_cases h : d < tmps.size
  · simp [h]
    cases tmps[d] <;> rfl
  · simp [h, undef]
theorem InvD.wanted (st : DStat ops) (h : InvD P N E ops L S F e cs A a w) {i : Nat} {o : Oper} (ho : ops[i]? = some o) (hA : A.getD i false = false) (hdep : ∀ ed ∈ o.after, Region.binds .any ed = true → A.getD ed.on false = true)
    (h2 : 2 ≤ ops.size ∨ ∀ d, o.dst = some d → d ∉ o.looksAt ops) : Region.wanted o (yielded ops (overA a e).tmps) = Region.wanted o (yielded ops a.tmps) := by
  cases hg : o.guard with
  | none => simp [Region.wanted, hg]
  | some p =>
    obtain ⟨j, b⟩ := p
    simp only [Region.wanted, hg]
    cases hd : (ops[j]?).bind (·.dst) with
    | none => simp [yielded, hd]
    | some d =>
      rw [yielded_getD ops _ j d hd, yielded_getD ops _ j d hd, h.eval st ho hA hdep h2 (by simp [Oper.looksAt, hg, hd])]
end

theorem put_get {a : Act} {d : Nat} {u : Value} (h : d < a.tmps.size) : (a.put (some d) u).tmps.getD d undef = u := by simp [Act.put, h]
theorem put_inj {a : Act} {dst : Option Tmp} {u v : Value} (hd : ∀ d, dst = some d → d < a.tmps.size) (h : a.put dst u = a.put dst v) (b : Act) : b.put dst u = b.put dst v := by
  cases dst with
  | none => rfl
  | some d =>
    have h1 := put_get (u := u) (hd d rfl)
    have h2 := put_get (u := v) (hd d rfl)
    rw [h] at h1
    rw [← h1, h2]
theorem put_defers' (a : Act) (dst : Option Tmp) (u : Value) : (a.put dst u).defers = a.defers := by cases dst <;> rfl

/-- From the frame that the rules speak of to the real one. -/
theorem upon_move {o : Oper} {a b : Act} {w : World} {Q0 Q : Exit → Act → World → Prop} {n0 n : Act → World → Prop} (he : execOp a.eval o = execOp b.eval o) (hd : a.defers = [])
    (hn : ∀ u w', n0 (a.put o.dst u) w' → n (b.put o.dst u) w') (hdef : ∀ d w', ¬ n0 ({ a with defers := d :: a.defers }.put o.dst undef) w') (hp : ∀ c w', Q0 (.panic c) a w' → Q (.panic c) b w') (ho : ¬ Go.LetsOut Q0)
    (h : o.wp P a w n0 Q0) : o.wp P b w n Q := by
  unfold Oper.wp at *
  rw [← he]
  generalize (execOp a.eval o).run P w = r at *
  cases r with
  | ok x w' =>
    cases x <;> simp only [Oper.upon] at h ⊢
    case value u => exact hn u w' h
    case skip => exact hn _ w' h
    case defer d => exact (hdef d w' h).elim
    case enter f args =>
      refine Calls.mono h fun r w'' hr => ?_
      cases r with
      | returned u => exact hn u w'' hr
      | panicked c => exact hp c w'' hr
      | outgrown => exact (ho hr).elim
    case row row args => exact Rows.mono h fun u w'' hr => hn u w'' hr
  | halt x w' =>
    cases x <;> simp only [Oper.upon] at h ⊢
    case panic v => exact hp _ w' h
def QN (N : Nat) (E : Env0) (d : Nat) (v : Value) (cs : List Chunk) : Exit → Act → World → Prop
  | .normal, a, w => a.tmps.getD d undef = v ∧ Sat E w cs ∧ a.defers = []
  | .outgrown, _, _ => False
  | _, _, _ => False
theorem gq_use {o : Oper} {e : Env} {cs : List Chunk} {v : Value} {d : Nat} (h : gq P N E ops o e cs v) (hd : o.dst = some d) (hdN : d < N) {a : Act} {w : World} (ha : Agree N e a) (hw : Sat E w cs) :
    (Region.wanted o (yielded ops a.tmps) = true → ∀ (b : Act) (Q : Exit → Act → World → Prop) (n : Act → World → Prop), LetsOut Q → execOp a.eval o = execOp b.eval o → (∀ w', Sat E w' cs → n (b.put (some d) v) w') → o.wp P b w n Q ∨ False) ∧
    (Region.wanted o (yielded ops a.tmps) = false → v = undef) := by
  have h1 := h (QN N E d v cs) trivial (fun e' cs' hk a' w' ha' hw' => by
    obtain ⟨h1, h2⟩ := hk
    rw [hd] at h1
    exact ⟨(ha'.get d v h1).1, hw'.ent h2, ha'.defers⟩) a w ha hw
  unfold wpList at h1
  have hsz : d < a.tmps.size := by rw [ha.size]; exact hdN
  constructor
  · intro hwt b Q n hout he hn
    rw [if_pos hwt] at h1
    rcases h1 with h1 | h1
    · refine .inl (upon_move he ha.defers ?_ ?_ ?_ (fun ⟨_, _, hq⟩ => hq) h1)
      · rintro u w' ⟨h2, h3, _⟩
        rw [hd] at h2 ⊢
        rw [put_get hsz] at h2
        subst h2; exact hn w' h3
      · rintro x w' ⟨_, _, h4⟩
        rw [put_defers'] at h4
        cases h4
      · intro c w' hc; exact hc.elim
    · obtain ⟨_, _, hq⟩ := h1.2; exact hq.elim
  · intro hwt
    rw [if_neg (by rw [hwt]; simp)] at h1
    obtain ⟨h2, _, _⟩ := h1
    rw [hd, put_get hsz] at h2
    exact h2.symm
theorem get_putE_same' {d : Tmp} {u : Value} {e : Env} : Env.get? (putE (some d) u e) d = some u := by simp [Env.get?]
def QM (N : Nat) (E : Env0) (dst : Option Tmp) (e : Env) (R : Value → List Chunk → Prop) : Exit → Act → World → Prop
  | .normal, a, w => (∃ v cs', R v cs' ∧ Agree N (putE dst v e) a ∧ Sat E w cs') ∧ a.defers = []
  | .outgrown, _, _ => False
  | _, _, _ => False
theorem main_use {o : Oper} {e : Env} {cs : List Chunk} {R : Value → List Chunk → Prop} (h : step1 P N E ops o R e cs) (hd : dstB N o.dst = true) {a : Act} {w : World} (ha : Agree N e a) (hw : Sat E w cs) :
    (Region.wanted o (yielded ops a.tmps) = true → ∀ (b : Act) (Q : Exit → Act → World → Prop) (n : Act → World → Prop), LetsOut Q → execOp a.eval o = execOp b.eval o → (∀ u cs' w', R u cs' → Sat E w' cs' → n (b.put o.dst u) w') → o.wp P b w n Q ∨ False) ∧
    (Region.wanted o (yielded ops a.tmps) = false → ∀ (b : Act) (n : Act → World → Prop), (∀ u cs' w', R u cs' → Sat E w' cs' → n (b.put o.dst u) w') → n (b.put o.dst undef) w) := by
  have h1 := h (QM N E o.dst e R) trivial (fun e' cs' hk a' w' ha' hw' => by
    obtain ⟨v, rfl, hr⟩ := hk
    exact ⟨⟨v, cs', hr, ha', hw'⟩, ha'.defers⟩) a w ha hw
  have key : ∀ (b : Act) (n : Act → World → Prop), (∀ u cs' w', R u cs' → Sat E w' cs' → n (b.put o.dst u) w') → ∀ u w', (∃ v cs', R v cs' ∧ Agree N (putE o.dst v e) (a.put o.dst u) ∧ Sat E w' cs') → n (b.put o.dst u) w' := by
    rintro b n hn u w' ⟨v, cs', hr, hag, hs⟩
    have : b.put o.dst u = b.put o.dst v := by
      cases hdd : o.dst with
      | none => rfl
      | some d =>
        rw [hdd] at hag hd
        have h3 := (hag.get d v get_putE_same').1
        rw [put_get (by rw [ha.size]; exact Nat.le_of_ble_eq_true hd)] at h3
        rw [h3]
    rw [this]; exact hn v cs' w' hr hs
  unfold wpList at h1
  constructor
  · intro hwt b Q n hout he hn
    rw [if_pos hwt] at h1
    rcases h1 with h1 | h1
    · refine .inl (upon_move he ha.defers ?_ ?_ ?_ (fun ⟨_, _, hq⟩ => hq) h1)
      · rintro u w' ⟨h2, _⟩
        exact key b n hn u w' h2
      · rintro x w' ⟨_, h4⟩
        rw [put_defers'] at h4
        cases h4
      · intro c w' hc; exact hc.elim
    · obtain ⟨_, _, hq⟩ := h1.2; exact hq.elim
  · intro hwt b n hn
    rw [if_neg (by rw [hwt]; simp)] at h1
    exact key b n hn undef w h1.1

/-! ### Soundness -/
theorem reach_closed {A : Array Bool} (hc : ∀ i o, A.getD i false = true → ops[i]? = some o → ∀ ed ∈ o.after, Region.binds .any ed = true → A.getD ed.on false = true) :
    ∀ (n : Nat) (l : List Nat), (∀ q ∈ l, A.getD q false = true) → ∀ q ∈ reachL ops n l, A.getD q false = true
  | 0, _, h, q, hq => h q hq
  | n + 1, l, h, q, hq => by
    simp only [reachL] at hq
    refine reach_closed hc n _ (fun p hp => ?_) q hq
    split at hp
    · rename_i hany
      rcases List.mem_cons.1 hp with e1 | e1
      · subst e1
        obtain ⟨k, hk, hkp⟩ := List.any_eq_true.1 hany
        have hkp : p ∈ depsL ops k := by simpa using hkp
        cases ho : ops[k]? with
        | none => rw [depsL, ho] at hkp; cases hkp
        | some o =>
          obtain ⟨ed, h1, h2, h3⟩ := (depsL_mem ho).1 hkp
          rw [← h3]; exact hc k o (h k hk) ho ed h1 h2
      · exact h p e1
    · exact h p hp

def unl (A : Array Bool) : Nat := A.toList.count false
theorem unl_set {A : Array Bool} {i : Nat} (hi : i < A.size) (h : A.getD i false = false) : unl (A.setIfInBounds i true) + 1 = unl A := by
  have h2 : A.toList[i]'(by simpa using hi) = false := by simpa [hi] using h
  have h3 : 0 < A.toList.count false := List.count_pos_iff.2 (by rw [← h2]; exact List.getElem_mem _)
  simp only [unl, Array.toList_setIfInBounds]
  rw [List.count_set (by simpa using hi), h2]
  have e1 : (true == false) = false := rfl
  have e2 : (false == false) = true := rfl
  rw [e1, e2]
  simp only [if_true, Bool.false_eq_true, if_false]
  omega
theorem unl_zero {A : Array Bool} {i : Nat} (hi : i < A.size) (h : unl A = 0) : A.getD i false = true := by
  have h2 : A.toList[i]'(by simpa using hi) ≠ false := fun c => by
    have h3 : 0 < A.toList.count false := List.count_pos_iff.2 (by rw [← c]; exact List.getElem_mem _)
    rw [unl] at h; omega
  simpa [hi] using h2

/-- Where nothing is ready, all is done. -/
theorem all_done {A : Array Bool} (st : DStat ops) (hs : A.size = ops.size) (h : Region.ready .any ops A = []) : ∀ n i, i ≤ n → i < ops.size → A.getD i false = true := by
  intro n
  induction n with
  | zero =>
    intro i hi hlt
    cases hb : A.getD i false with
    | true => rfl
    | false =>
      have : i ∈ Region.ready .any ops A := mem_ready.2 ⟨by rw [getD_true_false (by omega)]; exact hb, ops[i], by simp [hlt], fun ed hed hbd => by
        have := st.back i ops[i] (by simp [hlt]) ed hed hbd
        omega⟩
      rw [h] at this; cases this
  | succ n ih =>
    intro i hi hlt
    cases hb : A.getD i false with
    | true => rfl
    | false =>
      have : i ∈ Region.ready .any ops A := mem_ready.2 ⟨by rw [getD_true_false (by omega)]; exact hb, ops[i], by simp [hlt], fun ed hed hbd => by
        have := st.back i ops[i] (by simp [hlt]) ed hed hbd
        exact ih _ (by omega) (by omega)⟩
      rw [h] at this; cases this

theorem get_putE_other {dst : Option Tmp} {u : Value} {e : Env} {t : Nat} (h : dst ≠ some t) : Env.get? (putE dst u e) t = e.get? t := by
  cases dst with
  | none => rfl
  | some d =>
    have : d ≠ t := fun c => h (by rw [c])
    have hb : Nat.beq d t = false := by
      cases hx : Nat.beq d t with
      | false => rfl
      | true => exact (this (Nat.eq_of_beq_eq_true hx)).elim
    simp [putE, Env.get?, hb]
theorem get_putE_same {d : Tmp} {u : Value} {e : Env} : Env.get? (putE (some d) u e) d = some u := by simp [putE, Env.get?]

theorem put_other {a : Act} {dst : Option Tmp} {u : Value} {t : Nat} (h : dst ≠ some t) : (a.put dst u).tmps.getD t undef = a.tmps.getD t undef := by
  cases dst with
  | none => rfl
  | some d =>
    have : d ≠ t := fun c => h (by rw [c])
    simp [Act.put, Array.getElem?_setIfInBounds_ne this]
theorem put_size' (a : Act) (dst : Option Tmp) (u : Value) : (a.put dst u).tmps.size = a.tmps.size := by cases dst <;> simp [Act.put]

theorem getD_set_back {A : Array Bool} {i j : Nat} (h : (A.setIfInBounds i true).getD j false = true) : j = i ∨ A.getD j false = true := by
  by_cases hij : i = j
  · exact .inl hij.symm
  · rw [getD_set_ne false hij] at h; exact .inr h
theorem getD_set_false {A : Array Bool} {i j : Nat} (hi : i < A.size) (h : (A.setIfInBounds i true).getD j false = false) : j ≠ i ∧ A.getD j false = false := by
  by_cases hij : i = j
  · subst hij; simp [hi] at h
  · rw [getD_set_ne false hij] at h; exact ⟨fun c => hij c.symm, h⟩

/-- A pending operation is done. -/
theorem InvD.later {L S F : List Nat} {e : Env} {cs : List Chunk} {A : Array Bool} {a : Act} {w w' : World} (h : InvD P N E ops L S F e cs A a w)
    {i d : Nat} {o : Oper} {v : Value} (ho : ops[i]? = some o) (hd : o.dst = some d) (hdN : d < N) (hv : e.get? d = some v) (hiL : i ∈ L)
    (hdep : ∀ ed ∈ o.after, Region.binds .any ed = true → A.getD ed.on false = true) (hw : Sat E w' cs) : InvD P N E ops L S F e cs (A.setIfInBounds i true) (a.put (some d) v) w' := by
  have hiA : i < A.size := by rw [h.asize]; exact (Array.getElem?_eq_some_iff.1 ho).1
  refine ⟨by rw [put_size', h.size], by rw [put_defers', h.defers], by simp [h.asize], hw, fun j hj => ?_, fun j oj hj hoj ed hed hb => ?_, fun t u ht => ?_, fun j hj hjA => ?_, h.inS, h.inF, h.fresh⟩
  · rcases getD_set_back hj with e1 | e1
    · rw [e1]; exact hiL
    · exact h.sub j e1
  · rcases getD_set_back hj with e1 | e1
    · subst e1
      rw [ho] at hoj; injection hoj with hoj; subst hoj
      exact getD_set_true (hdep ed hed hb)
    · exact getD_set_true (h.closed j oj e1 hoj ed hed hb)
  · by_cases htd : d = t
    · subst htd
      rw [hv] at ht; injection ht with ht; subst ht
      exact .inr ⟨put_get (by rw [h.size]; exact hdN), hdN⟩
    · have hne : (some d : Option Tmp) ≠ some t := fun c => htd (by injection c)
      rcases h.agree t u ht with ⟨j, hj, hjA, hjd⟩ | ⟨h1, h2⟩
      · refine .inl ⟨j, hj, ?_, hjd⟩
        have : i ≠ j := fun c => by
          subst c
          rw [ho] at hjd
          simp only [Option.bind_some, hd, Option.some.injEq] at hjd
          exact htd hjd
        rw [getD_set_ne false this]; exact hjA
      · exact .inr ⟨by rw [put_other hne]; exact h1, h2⟩
  · exact h.pend j hj (getD_set_false hiA hjA).2

theorem sub_put {e : Env} {dst : Option Tmp} {v : Value} (h : ∀ d, dst = some d → e.get? d = none) : Env.Sub e (putE dst v e) := fun t u ht => by
  rw [get_putE_other]; exact ht
  intro c
  rw [h t c] at ht; cases ht
theorem put_mono {e e' : Env} {dst : Option Tmp} {v : Value} (h : Env.Sub e e') : Env.Sub (putE dst v e) (putE dst v e') := fun t u ht => by
  by_cases hd : dst = some t
  · subst hd
    rw [get_putE_same] at ht ⊢; exact ht
  · rw [get_putE_other hd] at ht ⊢; exact h t u ht

theorem InvD.think {L S S' F F' : List Nat} {e : Env} {cs : List Chunk} {A : Array Bool} {a : Act} {w : World} (h : InvD P N E ops L S F e cs A a w)
    {i d : Nat} {o : Oper} {v : Value} (st : DStat ops) (ho : ops[i]? = some o) (hd : o.dst = some d) (hdN : d < N) (hiL : i ∉ L) (hq : gq P N E ops o e cs v)
    (hS : ∀ j ∈ S', j ∈ S ∨ (j = i ∧ ∀ cs', gq P N E ops o e cs' v)) (hF : ∀ x ∈ F', x ∈ F ∨ x = i) :
    InvD P N E ops (i :: L) S' F' ((d, v) :: e) cs A a w := by
  have hv : e.get? d = none := h.fresh i o d hiL ho hd
  have hs : Env.Sub e ((d, v) :: e) := sub_put (dst := some d) (fun d' hd' => by injection hd' with hd'; subst hd'; exact hv)
  have weak : ∀ {o : Oper} {v' : Value} {cs : List Chunk}, gq P N E ops o e cs v' → gq P N E ops o ((d, v) :: e) cs v' := fun hg => WO.weak hg hs (Ent.refl _)
  have hiA : A.getD i false = false := by
    cases hb : A.getD i false with
    | false => rfl
    | true => exact (hiL (h.sub i hb)).elim
  refine ⟨h.size, h.defers, h.asize, h.sat, fun j hj => List.mem_cons_of_mem _ (h.sub j hj), h.closed, fun t u ht => ?_, fun j hj hjA => ?_, fun j hj => (hS j hj).elim (fun c => List.mem_cons_of_mem _ (h.inS j c)) (fun c => by rw [c.1]; exact List.mem_cons_self ..), fun x hx => (hF x hx).elim (fun c => List.mem_cons_of_mem _ (h.inF x c)) (fun c => by rw [c]; exact List.mem_cons_self ..), fun j oj dj hj hoj hdj => ?_⟩
  · by_cases htd : d = t
    · subst htd
      exact .inl ⟨i, List.mem_cons_self .., hiA, by rw [ho]; exact hd⟩
    · have hne : (some d : Option Tmp) ≠ some t := fun c => htd (by injection c)
      rw [show Env.get? ((d, v) :: e) t = Env.get? (putE (some d) v e) t from rfl, get_putE_other hne] at ht
      rcases h.agree t u ht with ⟨j, hj, hjA, hjd⟩ | h1
      · exact .inl ⟨j, List.mem_cons_of_mem _ hj, hjA, hjd⟩
      · exact .inr h1
  · by_cases hji : j = i
    · subst hji
      refine ⟨v, o, d, ho, hd, hdN, get_putE_same (e := e), weak hq, fun hjS cs' => ?_⟩
      rcases hS j hjS with e2 | ⟨_, e2⟩
      · exact (hiL (h.inS _ e2)).elim
      · exact weak (e2 cs')
    · have hjL : j ∈ L := (List.mem_cons.1 hj).resolve_left hji
      obtain ⟨v', o', d', h2, h3, h4, h5, h6, h8⟩ := h.pend j hjL hjA
      refine ⟨v', o', d', h2, h3, h4, hs _ _ h5, weak h6, fun hjS cs' => ?_⟩
      rcases hS j hjS with e2 | ⟨e2, _⟩
      · exact weak (h8 e2 cs')
      · exact (hji e2).elim
  · have hne : (some d : Option Tmp) ≠ some dj := fun c => by
      injection c with c; subst c
      exact st.dsts j oj hoj i d (fun c => hj (by rw [c]; exact List.mem_cons_self ..)) (by rw [ho]; exact hd) hdj
    rw [show Env.get? ((d, v) :: e) dj = Env.get? (putE (some d) v e) dj from rfl, get_putE_other hne]
    exact h.fresh j oj dj (fun c => hj (List.mem_cons_of_mem _ c)) hoj hdj

theorem InvD.after {L S F : List Nat} {e e0 : Env} {cs cs' : List Chunk} {A : Array Bool} {a : Act} {w w' : World} (h : InvD P N E ops L S F e0 cs A a w) (st : DStat ops) (hsub : Env.Sub e e0)
    {i : Nat} {o : Oper} {u : Value} (ho : ops[i]? = some o) (hdN : dstB N o.dst = true) (hiL : i ∉ L) (hA : A.getD i false = false) (hcov : coverB ops L S F i = true)
    (hdep : ∀ ed ∈ o.after, Region.binds .any ed = true → A.getD ed.on false = true) (hw : Sat E w' cs') (hst : stays P N E ops (putE o.dst u e) cs' (keepF ops i F)) :
    InvD P N E ops (i :: L) S (keepF ops i F) (putE o.dst u e0) cs' (A.setIfInBounds i true) (a.put o.dst u) w' := by
  have hiA : i < A.size := by rw [h.asize]; exact (Array.getElem?_eq_some_iff.1 ho).1
  have hdN' : ∀ d, o.dst = some d → d < N := fun d hx => by
    rw [hx] at hdN; exact Nat.le_of_ble_eq_true hdN
  have hfr : ∀ d, o.dst = some d → e0.get? d = none := fun d hd => h.fresh i o d hiL ho hd
  have hfl : ∀ j, A.getD j false = false → (preds ops i).contains j = false := fun j hj => by
    cases hb : (preds ops i).contains j with
    | false => rfl
    | true =>
      have hm : j ∈ preds ops i := by simpa using hb
      have := reach_closed h.closed ops.size (depsL ops i) (fun q hq => by
        obtain ⟨ed, h1, h2, h3⟩ := (depsL_mem ho).1 hq
        rw [← h3]; exact hdep ed h1 h2) j hm
      rw [hj] at this; cases this
  refine ⟨by rw [put_size', h.size], by rw [put_defers', h.defers], by simp [h.asize], hw, fun j hj => ?_, fun j oj hj hoj ed hed hb => ?_, fun t u' ht => ?_, fun j hj hjA => ?_,
    fun j hj => List.mem_cons_of_mem _ (h.inS j hj), fun x hx => List.mem_cons_of_mem _ (h.inF x (List.mem_filter.1 hx).1), fun j oj dj hj hoj hdj => ?_⟩
  · rcases getD_set_back hj with e1 | e1
    · rw [e1]; exact List.mem_cons_self ..
    · exact List.mem_cons_of_mem _ (h.sub j e1)
  · rcases getD_set_back hj with e1 | e1
    · subst e1
      rw [ho] at hoj; injection hoj with hoj; subst hoj
      exact getD_set_true (hdep ed hed hb)
    · exact getD_set_true (h.closed j oj e1 hoj ed hed hb)
  · by_cases htd : o.dst = some t
    · rw [htd] at ht ⊢
      rw [get_putE_same] at ht; injection ht with ht; subst ht
      exact .inr ⟨put_get (by rw [h.size]; exact hdN' t htd), hdN' t htd⟩
    · rw [get_putE_other htd] at ht
      rcases h.agree t u' ht with ⟨j, hj, hjA, hjd⟩ | ⟨h1, h2⟩
      · refine .inl ⟨j, List.mem_cons_of_mem _ hj, ?_, hjd⟩
        have : i ≠ j := fun c => hiL (by rw [c]; exact hj)
        rw [getD_set_ne false this]; exact hjA
      · exact .inr ⟨by rw [put_other htd]; exact h1, h2⟩
  · obtain ⟨hne, hjA⟩ := getD_set_false hiA hjA
    have hjL : j ∈ L := (List.mem_cons.1 hj).resolve_left hne
    obtain ⟨v', o', d', h2, h3, h4, h5, h6, h8⟩ := h.pend j hjL hjA
    have hs0 : Env.Sub e0 (putE o.dst u e0) := sub_put hfr
    have hgq : gq P N E ops o' (putE o.dst u e0) cs' v' := by
      have hc := List.all_eq_true.1 hcov j hjL
      rw [hfl j hjA] at hc
      simp only [Bool.false_or, Bool.or_eq_true] at hc
      rcases hc with hc | hc
      · exact WO.weak (h8 (by simpa using hc) cs') hs0 (Ent.refl _)
      · have hjF : j ∈ F := by simpa using hc
        obtain ⟨o2, d2, v2, g1, g2, g3, g4⟩ := stays_mem hst j (List.mem_filter.2 ⟨hjF, by simpa using hfl j hjA⟩)
        rw [h2] at g1; injection g1 with g1; subst g1
        rw [h3] at g2; injection g2 with g2; subst g2
        have g5 := put_mono (dst := o.dst) (v := u) hsub _ _ g3
        rw [hs0 _ _ h5] at g5; injection g5 with g5; subst g5
        exact WO.weak g4 (put_mono hsub) (Ent.refl _)
    exact ⟨v', o', d', h2, h3, h4, hs0 _ _ h5, hgq, fun hjS cs'' => WO.weak (h8 hjS cs'') hs0 (Ent.refl _)⟩
  · have hne : o.dst ≠ some dj := fun c => st.dsts j oj hoj i dj (fun c => hj (by rw [c]; exact List.mem_cons_self ..)) (by rw [ho]; exact c) hdj
    rw [get_putE_other hne]
    exact h.fresh j oj dj (fun c => hj (List.mem_cons_of_mem _ c)) hoj hdj

theorem InvD.less {L S S' F F' : List Nat} {e : Env} {cs : List Chunk} {A : Array Bool} {a : Act} {w : World} (h : InvD P N E ops L S F e cs A a w)
    (hS : ∀ j ∈ S', j ∈ S) (hF : ∀ x ∈ F', x ∈ F) : InvD P N E ops L S' F' e cs A a w :=
  ⟨h.size, h.defers, h.asize, h.sat, h.sub, h.closed, h.agree, fun j hj hjA => by
    obtain ⟨v', o', d', h2, h3, h4, h5, h6, h8⟩ := h.pend j hj hjA
    exact ⟨v', o', d', h2, h3, h4, h5, h6, fun hjS => h8 (hS _ hjS)⟩, fun j hj => h.inS j (hS j hj), fun x hx => h.inF x (hF x hx), h.fresh⟩

theorem readyL_not {L : List Nat} {i : Nat} {o : Oper} (ho : ops[i]? = some o) (hr : readyL ops L i = true) : i ∉ L := by
  simp only [readyL, ho, Bool.and_eq_true, Bool.not_eq_true'] at hr
  intro hm
  have : L.contains i = true := by simpa using hm
  rw [this] at hr; cases hr.2

theorem WD.sound (st : DStat ops) (hsz : 2 ≤ ops.size ∨ ∀ (i : Nat) (o : Oper) (d : Nat), ops[i]? = some o → o.dst = some d → d ∉ o.looksAt ops) {Q : Exit → Act → World → Prop} (hout : LetsOut Q)
    (hQ : ∀ e' cs', K e' cs' → ∀ a w, Agree N e' a → Sat E w cs' → Q .normal a w) {L S F : List Nat} {e : Env} {cs : List Chunk} (hd : WD P N E ops K L S F e cs) :
    ∀ (e0 : Env), Env.Sub e e0 → ∀ (fuel : Nat) (A : Array Bool) (a : Act) (w : World), InvD P N E ops L S F e0 cs A a w → unl A ≤ fuel → wpAny P .any ops Q fuel A a w := by
  have pendStep : ∀ {L S F : List Nat} {e : Env} {cs : List Chunk} (n : Nat) (A : Array Bool) (a : Act) (w : World), InvD P N E ops L S F e cs A a w → unl A ≤ n + 1 →
      (∀ (A : Array Bool) (a : Act) (w : World), InvD P N E ops L S F e cs A a w → unl A ≤ n → wpAny P .any ops Q n A a w) → ∀ i ∈ Region.ready .any ops A, i ∈ L →
      wpOp P ops Q i (wpAny P .any ops Q n (A.setIfInBounds i true)) a w := by
    intro L S F e cs n A a w hi hu ih i hr hiL
    obtain ⟨h0, o, ho, hdep⟩ := mem_ready.1 hr
    have hlt : i < A.size := by rw [hi.asize]; exact (Array.getElem?_eq_some_iff.1 ho).1
    rw [getD_true_false hlt] at h0
    obtain ⟨v, o', d, ho', hd, hdN, hev, hq, _⟩ := hi.pend i hiL h0
    rw [ho] at ho'; injection ho' with ho'; subst ho'
    have h2 : 2 ≤ ops.size ∨ ∀ d, o.dst = some d → d ∉ o.looksAt ops := hsz.imp id fun h d hd => h i o d ho hd
    obtain ⟨u1, u2⟩ := gq_use hq hd hdN hi.over hi.sat
    have hwt := hi.wanted st ho h0 hdep h2
    have fin : ∀ w', Sat E w' cs → wpAny P .any ops Q n (A.setIfInBounds i true) (a.put (some d) v) w' := fun w' hw' =>
      ih _ _ _ (hi.later ho hd hdN hev hiL hdep hw') (by have := unl_set hlt h0; omega)
    unfold wpOp
    simp only [ho]
    split
    · rename_i hw
      rw [← hwt] at hw
      rcases u1 hw a Q (wpAny P .any ops Q n (A.setIfInBounds i true)) hout (hi.exec st ho h0 hdep h2) fin with h | h
      · exact .inl h
      · exact h.elim
    · rename_i hw
      have hwf : Region.wanted o (yielded ops (overA a e).tmps) = false := by rw [hwt]; simpa using hw
      have := u2 hwf
      subst this
      rw [hd]
      exact fin w hi.sat
  induction hd with
  | @done L S F e cs hall hk =>
    intro e0 hsub
    have fin : ∀ (A : Array Bool) (a : Act) (w : World), InvD P N E ops L S F e0 cs A a w → Region.ready .any ops A = [] → Q .normal a w := fun A a w hi hr => by
      refine hQ _ _ hk a w ⟨hi.size, hi.defers, fun t v ht => ?_⟩ hi.sat
      rcases hi.agree t v (hsub t v ht) with ⟨j, hj, hjA, hjd⟩ | h1
      · have hjlt : j < ops.size := by
          cases hx : ops[j]? with
          | none => rw [hx] at hjd; cases hjd
          | some o => exact (Array.getElem?_eq_some_iff.1 hx).1
        rw [all_done st hi.asize hr j j (Nat.le_refl _) hjlt] at hjA; cases hjA
      · exact h1
    intro fuel
    induction fuel with
    | zero =>
      intro A a w hi hu
      have hr : Region.ready .any ops A = [] := by
        rw [List.eq_nil_iff_forall_not_mem]
        intro i hr
        obtain ⟨h0, o, ho, _⟩ := mem_ready.1 hr
        have hlt : i < A.size := by rw [hi.asize]; exact (Array.getElem?_eq_some_iff.1 ho).1
        rw [getD_true_false hlt, unl_zero hlt (by omega)] at h0; cases h0
      exact ⟨hr, fin A a w hi hr⟩
    | succ n ih =>
      intro A a w hi hu
      refine ⟨fin A a w hi, fun i hr => pendStep n A a w hi hu ih i hr ?_⟩
      obtain ⟨h0, o, ho, _⟩ := mem_ready.1 hr
      have := List.all_eq_true.1 hall i (List.mem_range.2 (Array.getElem?_eq_some_iff.1 ho).1)
      simpa using this
  | @quiet L S F e cs i v o d ho hd hdN hr hq _ ih =>
    intro e0 hsub fuel A a w hi hu
    exact ih _ (put_mono (dst := some d) hsub) fuel A a w (hi.think st ho hd (Nat.le_of_ble_eq_true hdN) (readyL_not ho hr) (WO.weak hq hsub (Ent.refl _)) (fun j hj => .inl hj)
      (fun x hx => (List.mem_cons.1 hx).elim (fun c => .inr c) .inl)) hu
  | @steady L S F e cs i v o d ho hd hdN hr hq _ ih =>
    intro e0 hsub fuel A a w hi hu
    exact ih _ (put_mono (dst := some d) hsub) fuel A a w (hi.think st ho hd (Nat.le_of_ble_eq_true hdN) (readyL_not ho hr) (WO.weak (hq cs) hsub (Ent.refl _))
      (fun j hj => (List.mem_cons.1 hj).elim (fun c => .inr ⟨c, fun cs' => WO.weak (hq cs') hsub (Ent.refl _)⟩) .inl) (fun x hx => .inl hx)) hu
  | @weak L S S' F F' e e' cs h1 h2 h3 _ ih =>
    intro e0 hsub fuel A a w hi hu
    exact ih e0 (fun t v ht => hsub t v (h1 t v ht)) fuel A a w (hi.less h3 h2) hu
  | @mains L S F e cs M o R hM hrest hne hop hst _ ih =>
    have undone : ∀ i ∈ M, ∀ (e0 : Env) (A : Array Bool) (a : Act) (w : World), InvD P N E ops L S F e0 cs A a w → A.getD i false = false := fun i hiM e0 A a w hi => by
      obtain ⟨ho, _, hr, _⟩ := hM i hiM
      cases hb : A.getD i false with
      | false => rfl
      | true => exact (readyL_not ho hr (hi.sub i hb)).elim
    obtain ⟨i0, hi0⟩ := List.exists_mem_of_ne_nil M hne
    have hlo : i0 < ops.size := (Array.getElem?_eq_some_iff.1 (hM i0 hi0).1).1
    intro e0 hsub fuel
    induction fuel with
    | zero =>
      intro A a w hi hu
      have hA := undone i0 hi0 e0 A a w hi
      rw [unl_zero (by rw [hi.asize]; exact hlo) (by omega)] at hA; cases hA
    | succ n ihn =>
      intro A a w hi hu
      refine ⟨fun hr => ?_, fun j hjr => ?_⟩
      · have hA := undone i0 hi0 e0 A a w hi
        rw [all_done st hi.asize hr i0 i0 (Nat.le_refl _) hlo] at hA; cases hA
      · by_cases hjL : j ∈ L
        · exact pendStep n A a w hi hu ihn j hjr hjL
        · obtain ⟨h0, o', ho', hdep⟩ := mem_ready.1 hjr
          have hjlt : j < ops.size := (Array.getElem?_eq_some_iff.1 ho').1
          have hjM : j ∈ M := by
            have h1 := List.all_eq_true.1 hrest j (List.mem_range.2 hjlt)
            have h2 : readyL ops L j = true := by
              simp only [readyL, ho', Bool.and_eq_true, Bool.not_eq_true', Array.all_eq_true_iff_forall_mem, Bool.or_eq_true]
              refine ⟨fun ed hed => ?_, ?_⟩
              · cases hb : Region.binds .any ed with
                | false => exact .inl rfl
                | true => exact .inr (by simpa using hi.sub _ (hdep ed hed hb))
              · simpa using hjL
            have h3 : L.contains j = false := by simpa using hjL
            rw [h2, h3] at h1
            simpa using h1
          obtain ⟨ho, hdN, hr, hcov⟩ := hM j hjM
          rw [ho] at ho'; injection ho' with ho'; subst ho'
          have hA := undone j hjM e0 A a w hi
          have hlt : j < A.size := by rw [hi.asize]; exact hjlt
          have h2 : 2 ≤ ops.size ∨ ∀ d, (o j).dst = some d → d ∉ (o j).looksAt ops := hsz.imp id fun h d hd => h j (o j) d ho hd
          have hwt := hi.wanted st ho hA hdep h2
          obtain ⟨u1, u2⟩ := main_use (hop j hjM) hdN (hi.over.sub hsub) hi.sat
          have fin : ∀ u cs' w', R j u cs' → Sat E w' cs' → wpAny P .any ops Q n (A.setIfInBounds j true) (a.put (o j).dst u) w' := fun u cs' w' hru hs =>
            ih j hjM u cs' hru _ (put_mono hsub) n _ _ _ (hi.after st hsub ho hdN hjL hA hcov hdep hs (hst j hjM u cs' hru)) (by have := unl_set hlt hA; omega)
          unfold wpOp
          simp only [ho]
          split
          · rename_i hw
            rw [← hwt] at hw
            rcases u1 hw a Q (wpAny P .any ops Q n (A.setIfInBounds j true)) hout (hi.exec st ho hA hdep h2) fin with h | h
            · exact .inl h
            · exact h.elim
          · rename_i hw
            have hwf : Region.wanted (o j) (yielded ops (overA a e0).tmps) = false := by rw [hwt]; simpa using hw
            exact u2 hwf a _ (fun u cs' w' hru hs => fin u cs' w' hru hs)
end
end Go.Sep
