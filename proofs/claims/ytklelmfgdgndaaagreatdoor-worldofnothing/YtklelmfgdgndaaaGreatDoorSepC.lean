/- The rules of the single operations. -/
import Derived.Test.YtklelmfgdgndaaaGreatDoorSepB
import Derived.IntWalk
import Derived.Lib.Strings
namespace Go.Sep

/-! ### 1. Operations on values alone -/
@[reducible] def str (l : List UInt8) : Value := .string ⟨l.toArray⟩
@[reducible] def int (n : Int) : Value := .int .i64 n

def cmpVal (op : BinOp) (a b : Int) : Option Value :=
  match op with
  | .eql => some (.bool (decide (a = b)))
  | .neq => some (.bool (!decide (a = b)))
  | .lss => some (.bool (decide (a < b)))
  | .leq => some (.bool (decide (a ≤ b)))
  | .gtr => some (.bool (decide (a > b)))
  | .geq => some (.bool (decide (a ≥ b)))
  | _ => none
def strCmp (op : BinOp) (a b : List UInt8) : Option Value :=
  match op with
  | .eql => some (.bool (decide (a = b)))
  | .neq => some (.bool (!decide (a = b)))
  | .lss => some (.bool (Op.bytesLess a b))
  | .leq => some (.bool (Op.bytesLess a b || decide (a = b)))
  | .gtr => some (.bool (!(Op.bytesLess a b || decide (a = b))))
  | .geq => some (.bool (!Op.bytesLess a b))
  | _ => none
def pickVal (x y : Option Value) : Bool → Option Value
  | true => x
  | false => y
def pureVal (e : Env) : Op → Option Value
  | .move x => e.val x
  | .assign x => e.val x
  | .nilCheck x => match e.val x with | some (.pointer (some a)) => some (.pointer (some a)) | _ => none
  | .extract t i => match e.val t with | some (.tuple vs) => vs[i]? | _ => none
  | .pick c x y => match e.val c with | some (.bool b) => pickVal (e.val x) (e.val y) b | _ => none
  | .unOp .not _ x => match e.val x with | some (.bool b) => some (.bool (!b)) | _ => none
  | .makeFunc fn a c => match e.vals a.toList with | some l => (match e.vals c.toList with | some m => some (.func fn l.toArray m.toArray) | none => none) | none => none
  | .binOp op _ x y _ => match e.val x with
    | some (.int j a) => (match e.val y with | some (.int k b) => (match decEq j k with | isTrue _ => cmpVal op a b | isFalse _ => none) | _ => none)
    | some (.string ⟨⟨a⟩⟩) => (match e.val y with | some (.string ⟨⟨b⟩⟩) => strCmp op a b | _ => none)
    | _ => none
  | _ => none

theorem beq_dec (a b : List UInt8) : (a == b) = decide (a = b) := by
  rw [Bool.eq_iff_iff]; simp
theorem toList_mk (l : List UInt8) : (ByteArray.mk ⟨l⟩).toList = l := by
  rw [Lib.toList_data]

section
variable {P : Program} {N : Nat} {E : Env0} {ops : Array Oper} {rest : List Oper} {K : Env → List Chunk → Prop} {e : Env} {cs : List Chunk}

theorem pure_run {o : Op} {v : Value} {a : Act} {w : World} {dst : Option Tmp} {ty : TypeId} {pos : String} {af : Array Edge} {g : Option (Nat × Bool)} (ha : Agree N e a) (h : pureVal e o = some v) :
    (execOp a.eval ⟨dst, o, ty, pos, af, g⟩).run P w = .ok (.value v) w := by
  cases o with
  | move x => simp only [pureVal] at h; simp [execOp, ha.eval h]
  | assign x => simp only [pureVal] at h; simp [execOp, ha.eval h]
  | nilCheck x =>
    simp only [pureVal] at h
    split at h
    · rename_i p hp; injection h with h; subst h; simp [execOp, ha.eval hp]
    · cases h
  | extract t i =>
    simp only [pureVal] at h
    split at h
    · rename_i vs hp; simp [execOp, ha.eval hp, Instr.extract, h]
    · cases h
  | pick c x y =>
    simp only [pureVal] at h
    split at h
    · rename_i b hb
      cases b
      · have h' : e.val y = some v := h
        simp [execOp, ha.eval hb, ha.eval h', asBool]
      · have h' : e.val x = some v := h
        simp [execOp, ha.eval hb, ha.eval h', asBool]
    · cases h
  | unOp op t x =>
    cases op <;> simp only [pureVal] at h <;> try (cases h; done)
    split at h
    · rename_i b hb; injection h with h; subst h; simp [execOp, ha.eval hb, Op.unary]
    · cases h
  | makeFunc fn x c =>
    simp only [pureVal] at h
    split at h
    · rename_i l hl
      split at h
      · rename_i m hm
        injection h with h; subst h
        have h1 := ha.evals hl
        have h2 := ha.evals hm
        have h3 : x.map a.eval = l.toArray := by apply Array.toList_inj.1; rw [Array.toList_map, h1]
        have h4 : c.map a.eval = m.toArray := by apply Array.toList_inj.1; rw [Array.toList_map, h2]
        simp [execOp, Instr.makeFunc, h3, h4]
      · cases h
    · cases h
  | binOp op t x y u =>
    simp only [pureVal] at h
    split at h
    · rename_i j p hp
      split at h
      · rename_i k q hq
        split at h
        · rename_i hk' hk
          clear hk
          subst hk'
          cases op <;> simp only [cmpVal] at h <;> (try (cases h; done)) <;> (injection h with h; subst h; simp [execOp, ha.eval hp, ha.eval hq, eqGuard, binOp, Op.intCmp]) <;> rfl
        · cases h
      · cases h
    · rename_i p hp
      split at h
      · rename_i q hq
        cases op <;> simp only [strCmp] at h <;> (try (cases h; done)) <;> (injection h with h; subst h; simp [execOp, ha.eval hp, ha.eval hq, eqGuard, binOp, Op.stringOp, beq_dec])
      · cases h
    · cases h
  | _ => simp [pureVal] at h

@[reducible] def tookB (e : Env) (ops : Array Oper) : Option (Nat × Bool) → Bool
  | none => true
  | some (j, b) => match (ops[j]?).bind (·.dst) with
    | some d => (match e.get? d with | some (.bool c) => c == b | _ => false)
    | none => false
@[reducible] def sideB (N : Nat) (e : Env) (ops : Array Oper) (o : Oper) : Bool := dstB N o.dst && tookB e ops o.guard

theorem took_wanted {a : Act} {g : Option (Nat × Bool)} {o : Oper} (ho : o.guard = g) (ha : Agree N e a) (h : tookB e ops g = true) : Region.wanted o (yielded ops a.tmps) = true := by
  subst ho
  cases hg : o.guard with
  | none => simp [Region.wanted, hg]
  | some p =>
    obtain ⟨j, b⟩ := p
    rw [hg] at h
    simp only [tookB] at h
    split at h
    · rename_i d hd
      split at h
      · rename_i c hc
        have : c = b := by simpa using h
        subst this
        simp [Region.wanted, hg, yielded_of ha hd hc]
      · cases h
    · cases h

theorem wo_step {o : Oper} {R : Value → List Chunk → Prop} (hs : sideB N e ops o = true) (h : OpT P N E o e cs R)
    (k : ∀ v cs', R v cs' → WO P N E ops rest K (putE o.dst v e) cs') : WO P N E ops (o :: rest) K e cs := by
  intro Q ho hQ a w ha hw
  have hs' : dstB N o.dst = true ∧ tookB e ops o.guard = true := by simpa [sideB] using hs
  unfold wpList
  rw [if_pos (took_wanted rfl ha hs'.2)]
  rcases h a w ha hw (wpList P ops Q rest) Q ho (fun v cs' w' hr hs => k v cs' hr Q ho hQ _ _ (ha.put hs'.1 v) hs) with h | h
  · exact .inl h
  · exact h.elim
theorem wo_run {o : Oper} {v : Value} (hs : sideB N e ops o = true) (h : ∀ a w, Agree N e a → Sat E w cs → (execOp a.eval o).run P w = .ok (.value v) w)
    (k : WO P N E ops rest K (putE o.dst v e) cs) : WO P N E ops (o :: rest) K e cs :=
  wo_step hs (opT_val h) (by rintro _ _ ⟨rfl, rfl⟩; exact k)

/-- Several operations on values alone. -/
def runPure (N : Nat) (ops : Array Oper) : List Oper → Nat → Env → Option Env
  | _, 0, e => some e
  | [], _, _ => none
  | o :: l, n + 1, e => match sideB N e ops o with
    | false => none
    | true => match pureVal e o.op with
      | none => none
      | some v => match o.dst with
        | some d => runPure N ops l n ((d, v) :: e)
        | none => runPure N ops l n e
theorem wo_pures (n : Nat) {l : List Oper} {e' : Env} (h : runPure N ops l n e = some e') (k : WO P N E ops (l.drop n) K e' cs) : WO P N E ops l K e cs := by
  induction n generalizing l e with
  | zero => simp [runPure] at h; subst h; simpa using k
  | succ n ih =>
    cases l with
    | nil => simp [runPure] at h
    | cons o l =>
      simp only [runPure] at h
      split at h
      · cases h
      · rename_i hs
        split at h
        · cases h
        · rename_i v hv
          refine wo_run (v := v) hs (fun a w ha _ => ?_) ?_
          · obtain ⟨dst, op, ty, pos, af, g⟩ := o
            exact pure_run ha hv
          · split at h
            · rename_i d hd; rw [hd]; exact ih h (by simpa using k)
            · rename_i hd; rw [hd]; exact ih h (by simpa using k)

/-- A test that is done only where the one before left it open ('a && b', 'a || b'): the group of its operations, then the choice. -/
def undefd (ops : Array Oper) (und : List Nat) (j : Nat) : Bool := match (ops[j]?).bind (·.dst) with | some d => und.contains d | none => false
def skipsB (ops : Array Oper) (N j : Nat) (want : Bool) : List Nat → List Oper → Bool
  | _, [] => true
  | und, o :: l => (match o.guard with | some (i, w) => (i == j && w == want) || undefd ops und i | none => false) &&
      (match o.dst with | some d => Nat.blt d N && skipsB ops N j want (d :: und) l | none => false)
theorem wo_skips {j d : Nat} {want b : Bool} (hj : (ops[j]?).bind (·.dst) = some d) (hb : b = !want) : ∀ (G : List Oper) (und : List Nat) (e' : Env),
    skipsB ops N j want und G = true → e'.get? d = some (.bool b) → d ∉ G.filterMap (·.dst) → (∀ u ∈ und, e'.get? u = some undef) →
    WO P N E ops rest K ((G.filterMap (·.dst)).reverse.map (fun u => (u, undef)) ++ e') cs → WO P N E ops (G ++ rest) K e' cs
  | [], _, e', _, _, _, _, k => by simpa using k
  | o :: G, und, e', hsk, hd, hn, hu, k => by
    simp only [skipsB, Bool.and_eq_true] at hsk
    obtain ⟨h1, h2⟩ := hsk
    split at h2
    case h_2 => cases h2
    rename_i t ht
    simp only [Bool.and_eq_true] at h2
    obtain ⟨h3, h4⟩ := h2
    have htN : dstB N o.dst = true := by rw [ht]; exact h3
    have hne : d ≠ t := fun c => hn (by simp [ht, c])
    have hn' : d ∉ G.filterMap (·.dst) := fun c => hn (by simp [ht, c])
    have hnb : Nat.beq t d = false := by
      cases hx : Nat.beq t d with
      | false => rfl
      | true => exact absurd (Nat.eq_of_beq_eq_true hx).symm hne
    have next : WO P N E ops (G ++ rest) K (putE o.dst undef e') cs := by
      rw [ht]
      refine wo_skips hj hb G (t :: und) _ h4 ?_ hn' ?_ ?_
      · simp only [Env.get?, hnb]; exact hd
      · intro u hmem
        simp only [Env.get?]
        split
        · rfl
        · rename_i c
          rcases List.mem_cons.1 hmem with e1 | e1
          · subst e1; simp at c
          · exact hu u e1
      · simpa [List.filterMap_cons, ht] using k
    show WO P N E ops (o :: (G ++ rest)) K e' cs
    intro Q ho hQ a w ha hw
    have hnw : Region.wanted o (yielded ops a.tmps) = false := by
      cases hg : o.guard with
      | none => rw [hg] at h1; cases h1
      | some p =>
        obtain ⟨i, wv⟩ := p
        rw [hg] at h1
        simp only [Bool.or_eq_true, Bool.and_eq_true, beq_iff_eq] at h1
        rcases h1 with ⟨e1, e2⟩ | h1
        · subst e1; subst e2
          rw [Region.wanted, hg]
          simp only [yielded_of ha hj hd, hb]
          cases wv <;> rfl
        · have : yielded ops a.tmps i = none := by
            simp only [undefd] at h1
            split at h1
            · rename_i t' ht'
              obtain ⟨g1, g2⟩ := ha.get t' undef (hu t' (by simpa using h1))
              have h3 : a.tmps[t']? = some undef := by
                have hs : t' < a.tmps.size := by rw [ha.size]; exact g2
                rw [Array.getD_eq_getD_getElem?, Array.getElem?_eq_getElem hs] at g1
                rw [Array.getElem?_eq_getElem hs]; simpa using g1
              unfold yielded
              rw [ht']; simp [h3, undef]
            · cases h1
          rw [Region.wanted, hg]
          simp [this]
    unfold wpList
    rw [if_neg (by rw [hnw]; simp)]
    exact next Q ho hQ _ _ (ha.put htN undef) hw

theorem upon_then (o : Oper) (a : Act) (next n : Act → World → Prop) (Q : Exit → Act → World → Prop) (r : Result Next) : o.upon P a next (Exit.then n Q) r = o.upon P a next Q r := by
  unfold Oper.upon
  split <;> rfl
theorem wpList_append (Q : Exit → Act → World → Prop) (r : List Oper) : ∀ (l : List Oper), wpList P ops (Exit.then (wpList P ops Q r) Q) l = wpList P ops Q (l ++ r)
  | [] => rfl
  | o :: l => by
    funext a w
    simp only [List.cons_append]
    rw [wpList, wpList, wpList_append Q r l]
    simp only [Oper.wp, upon_then]
    rfl
theorem wo_append {G r : List Oper} {M : Env → List Chunk → Prop} (h : WO P N E ops G M e cs) (k : ∀ e' cs', M e' cs' → WO P N E ops r K e' cs') : WO P N E ops (G ++ r) K e cs := by
  intro Q ho hQ a w ha hw
  rw [← wpList_append]
  exact h (Exit.then (wpList P ops Q r) Q) (LetsOut.then ho) (fun e' cs' hm a' w' ha' hw' => k e' cs' hm Q ho hQ a' w' ha' hw') a w ha hw

theorem Env.get_undefs {us : List Nat} {e : Env} {t : Nat} (h : t ∉ us) : Env.get? (us.reverse.map (fun u => (u, undef)) ++ e) t = e.get? t := by
  induction us generalizing e with
  | nil => rfl
  | cons u us ih =>
    have h1 : t ∉ us := fun c => h (List.mem_cons_of_mem _ c)
    have h2 : u ≠ t := fun c => h (by simp [c])
    simp only [List.reverse_cons, List.map_append, List.map_cons, List.map_nil, List.append_assoc, List.cons_append, List.nil_append]
    rw [ih h1]
    simp only [Env.get?]
    split
    · rename_i c; exact absurd (Nat.eq_of_beq_eq_true c) h2
    · rfl
def freshB (e : Env) : List Oper → Bool
  | [] => true
  | o :: l => (match o.dst with | some d => (match e.get? d with | none => true | some _ => false) | none => true) && freshB e l
theorem freshB_not {e : Env} {t : Nat} {v : Value} (hv : e.get? t = some v) : ∀ (G : List Oper), freshB e G = true → t ∉ G.filterMap (·.dst)
  | [], _ => by simp
  | o :: G, h => by
    simp only [freshB, Bool.and_eq_true] at h
    have ih := freshB_not hv G h.2
    cases ho : o.dst with
    | none => simpa [ho] using ih
    | some d =>
      have h1 := h.1
      rw [ho] at h1
      simp only at h1
      simp only [List.filterMap_cons, ho, List.mem_cons, not_or]
      refine ⟨fun c => ?_, ih⟩
      subst c
      rw [hv] at h1
      cases h1

theorem wo_chain {d q r : Nat} {p qv : Bool} {x y : Operand} {ty : TypeId} {pos : String} {af : Array Edge} {g : Option (Nat × Bool)} (n j : Nat) (want : Bool) {l : List Oper}
    (hl : l.drop n = ⟨some r, .pick (.tmp d) x y, ty, pos, af, g⟩ :: rest)
    (hxy : (match want with | true => (x, y) | false => (y, x)) = (.tmp q, .const (.bool (!want))))
    (hj : (ops[j]?).bind (·.dst) = some d) (hp : e.get? d = some (.bool p)) (hr : e.get? r = none) (hs : sideB N e ops ⟨some r, .pick (.tmp d) x y, ty, pos, af, g⟩ = true)
    (hk : (skipsB ops N j want [] (l.take n) && freshB e (l.take n)) = true)
    (yes : p = want → WO P N E ops (l.take n) (fun e' cs' => e'.get? q = some (.bool qv) ∧ Env.Sub ((d, .bool want) :: e) e' ∧ Ent cs' cs) ((d, .bool want) :: e) cs)
    (k : WO P N E ops rest K ((r, .bool (match want with | true => p && qv | false => p || qv)) :: e) cs) : WO P N E ops l K e cs := by
  simp only [Bool.and_eq_true] at hk
  obtain ⟨hsk, hfr⟩ := hk
  rw [← List.take_append_drop n l, hl]
  by_cases hpw : p = want
  · have h := yes hpw
    refine WO.weak (e' := (d, .bool want) :: e) (cs' := cs) ?_ (Env.Sub.cons (by rw [hp, hpw]) (Env.Sub.refl _)) (Ent.refl _)
    refine wo_append h ?_
    rintro e' cs' ⟨hq, hsub, hent⟩
    have hsub' : Env.Sub e e' := fun t v ht => by
      refine hsub t v ?_
      simp only [Env.get?]
      split
      · rename_i c; have := Nat.eq_of_beq_eq_true c; subst this; rw [hp] at ht; rw [← hpw]; exact ht
      · exact ht
    have hs' : sideB N e' ops ⟨some r, .pick (.tmp d) x y, ty, pos, af, g⟩ = true := by
      simp only [sideB, Bool.and_eq_true] at hs ⊢
      refine ⟨hs.1, ?_⟩
      have h2 := hs.2
      cases g with
      | none => rfl
      | some pr =>
        obtain ⟨i, b⟩ := pr
        simp only [tookB] at h2 ⊢
        split at h2
        · split at h2
          · rename_i c hc
            simp only [hsub' _ _ hc]; exact h2
          · cases h2
        · cases h2
    refine wo_run (v := .bool qv) hs' (fun a w ha _ => pure_run ha ?_) ?_
    · have hd' : e'.get? d = some (.bool want) := by rw [hsub' d _ hp, hpw]
      cases want <;> simp only [Prod.mk.injEq] at hxy <;> obtain ⟨rfl, rfl⟩ := hxy <;> simp [pureVal, Env.val, hd', pickVal, hq]
    · refine WO.weak k ?_ hent
      refine Env.Sub.cons ?_ (fun t v ht => ?_)
      · simp only [Env.get?, Nat.beq_refl]
        cases want <;> simp [hpw]
      · simp only [Env.get?]
        split
        · rename_i c
          have := Nat.eq_of_beq_eq_true c
          subst this
          rw [hr] at ht; cases ht
        · exact hsub' t v ht
  · have hn : p = !want := by cases p <;> cases want <;> simp_all
    have hdG := freshB_not hp (l.take n) hfr
    refine wo_skips hj hn (l.take n) [] e hsk (by rw [hp, hn]) hdG (by simp) ?_
    have hsub' : Env.Sub e ((((l.take n).filterMap (·.dst)).reverse.map (fun u => (u, undef))) ++ e) := fun t v ht => by
      rw [Env.get_undefs (freshB_not ht (l.take n) hfr)]; exact ht
    have hs' : sideB N ((((l.take n).filterMap (·.dst)).reverse.map (fun u => (u, undef))) ++ e) ops ⟨some r, .pick (.tmp d) x y, ty, pos, af, g⟩ = true := by
      simp only [sideB, Bool.and_eq_true] at hs ⊢
      refine ⟨hs.1, ?_⟩
      have h2 := hs.2
      cases g with
      | none => rfl
      | some pr =>
        obtain ⟨i, b⟩ := pr
        simp only [tookB] at h2 ⊢
        split at h2
        · split at h2
          · rename_i c hc
            simp only [hsub' _ _ hc]; exact h2
          · cases h2
        · cases h2
    have hd' := hsub' d _ hp
    refine wo_run (v := .bool p) hs' (fun a w ha _ => pure_run ha ?_) ?_
    · subst hn
      cases want <;> simp only [Prod.mk.injEq] at hxy <;> obtain ⟨rfl, rfl⟩ := hxy <;> simp_all [pureVal, Env.val, pickVal]
    · refine WO.weak k ?_ (Ent.refl _)
      refine Env.Sub.cons ?_ (fun t v ht => ?_)
      · simp only [Env.get?, Nat.beq_refl]
        subst hn
        cases want <;> simp
      · simp only [Env.get?]
        split
        · rename_i c
          have := Nat.eq_of_beq_eq_true c
          subst this
          rw [hr] at ht; cases ht
        · exact hsub' t v ht

theorem Env.Sub.push {e e' : Env} {d : Nat} {v : Value} (h : e.get? d = none) (r : Env.Sub e e') : Env.Sub e ((d, v) :: e') := fun t u ht => by
  simp only [Env.get?]
  split
  · rename_i c
    have := Nat.eq_of_beq_eq_true c
    subst this
    rw [h] at ht; cases ht
  · exact r t u ht
def newB (e : Env) : Nat → Env → Bool
  | 0, _ => true
  | _ + 1, [] => true
  | n + 1, (d, _) :: e' => (match e.get? d with | none => true | some _ => false) && newB e n e'
/-- The slots that were written since are new ones. -/
theorem Env.Sub.news {e : Env} (n : Nat) : ∀ {e' : Env}, e'.drop n = e → newB e n e' = true → Env.Sub e e' := by
  induction n with
  | zero => intro e' h _; simp at h; subst h; exact Env.Sub.refl _
  | succ n ih =>
    intro e' h hb
    cases e' with
    | nil => simp at h; subst h; exact Env.Sub.refl _
    | cons p e' =>
      obtain ⟨d, v⟩ := p
      simp only [newB, Bool.and_eq_true] at hb
      refine Env.Sub.push ?_ (ih (by simpa using h) hb.2)
      have := hb.1
      cases hx : e.get? d with
      | none => rfl
      | some u => rw [hx] at this; cases this

theorem wo_and {d q r : Nat} {p qv : Bool} {x y : Operand} {ty : TypeId} {pos : String} {af : Array Edge} {g : Option (Nat × Bool)} (n j : Nat) {l : List Oper}
    (hl : l.drop n = ⟨some r, .pick (.tmp d) x y, ty, pos, af, g⟩ :: rest) (hxy : (x, y) = (.tmp q, .const (.bool false)))
    (hj : (ops[j]?).bind (·.dst) = some d) (hp : e.get? d = some (.bool p)) (hr : e.get? r = none) (hs : sideB N e ops ⟨some r, .pick (.tmp d) x y, ty, pos, af, g⟩ = true)
    (hk : (skipsB ops N j true [] (l.take n) && freshB e (l.take n)) = true)
    (yes : p = true → WO P N E ops (l.take n) (fun e' cs' => e'.get? q = some (.bool qv) ∧ Env.Sub ((d, .bool true) :: e) e' ∧ Ent cs' cs) ((d, .bool true) :: e) cs)
    (k : WO P N E ops rest K ((r, .bool (p && qv)) :: e) cs) : WO P N E ops l K e cs := wo_chain n j true hl hxy hj hp hr hs hk yes k
theorem wo_or {d q r : Nat} {p qv : Bool} {x y : Operand} {ty : TypeId} {pos : String} {af : Array Edge} {g : Option (Nat × Bool)} (n j : Nat) {l : List Oper}
    (hl : l.drop n = ⟨some r, .pick (.tmp d) x y, ty, pos, af, g⟩ :: rest) (hxy : (y, x) = (.tmp q, .const (.bool true)))
    (hj : (ops[j]?).bind (·.dst) = some d) (hp : e.get? d = some (.bool p)) (hr : e.get? r = none) (hs : sideB N e ops ⟨some r, .pick (.tmp d) x y, ty, pos, af, g⟩ = true)
    (hk : (skipsB ops N j false [] (l.take n) && freshB e (l.take n)) = true)
    (yes : p = false → WO P N E ops (l.take n) (fun e' cs' => e'.get? q = some (.bool qv) ∧ Env.Sub ((d, .bool false) :: e) e' ∧ Ent cs' cs) ((d, .bool false) :: e) cs)
    (k : WO P N E ops rest K ((r, .bool (p || qv)) :: e) cs) : WO P N E ops l K e cs := wo_chain n j false hl hxy hj hp hr hs hk yes k
end
end Go.Sep
