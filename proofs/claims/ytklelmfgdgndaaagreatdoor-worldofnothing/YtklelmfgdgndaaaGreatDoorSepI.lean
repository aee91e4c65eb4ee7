/- Draws: the rules that a walk takes. -/
import Derived.Test.YtklelmfgdgndaaaGreatDoorSepH
import Derived.KernelRfl
namespace Go.Sep
section
variable {P : Program} {N : Nat} {E : Env0} {ops : Array Oper} {K : Env → List Chunk → Prop} {e : Env} {cs : List Chunk}

theorem sat_drawn {w : World} {n : Nat} (h : Sat E w cs) : Sat E { w with drawn := n } cs := ⟨h.os, h.tape, h.output, h.heap⟩

theorem freshB_none {d : Nat} {o : Oper} (hd : o.dst = some d) : ∀ (G : List Oper), freshB e G = true → o ∈ G → e.get? d = none
  | [], _, h => by cases h
  | o' :: G, h, hm => by
    simp only [freshB, Bool.and_eq_true] at h
    rcases List.mem_cons.1 hm with e1 | e1
    · subst e1
      have h1 := h.1
      rw [hd] at h1
      simp only at h1
      split at h1
      · assumption
      · cases h1
    · exact freshB_none hd G h.2 e1

theorem ws_draw {id : Nat} {K : Post} (hm : P.follows .mixedOrders = true) (hs : statB ops = true) (hf : (Nat.ble 2 ops.size && freshB e ops.toList) = true)
    (h : WD P N E ops (K .normal) [] [] [] e cs) : WS P N E (.region id ops true) K e cs := by
  intro Q ho hQ a w ha hw
  simp only [Bool.and_eq_true] at hf
  refine wp_region_any hm ?_
  refine h.sound (stat_of hs) (.inl (Nat.le_of_ble_eq_true hf.1)) ho (fun e' cs' hk => hQ _ _ _ hk) e (Env.Sub.refl _) ops.size _ a _ ?_ ?_
  · have hnot : ∀ i, (Array.replicate ops.size false).getD i false = false := fun i => by
      by_cases hi : i < ops.size <;> simp [hi]
    refine ⟨ha.size, ha.defers, by simp, sat_drawn hw, fun i hi => ?_, fun i o hi => ?_, fun t v ht => .inr (ha.get t v ht), fun j hj => (List.not_mem_nil hj).elim, fun j hj => (List.not_mem_nil hj).elim, fun j hj => (List.not_mem_nil hj).elim, fun i o d _ ho' hd => ?_⟩
    · rw [hnot] at hi; cases hi
    · rw [hnot] at hi; cases hi
    · exact freshB_none hd _ hf.2 (by
        obtain ⟨hlt, rfl⟩ := Array.getElem?_eq_some_iff.1 ho'
        simp)
  · simp [unl]

/-- The value of an operation on values alone, or of one that is passed over. -/
def quietVal (ops : Array Oper) (e : Env) (o : Oper) : Option Value := match o.guard with
  | none => pureVal e o.op
  | some (j, b) => match (ops[j]?).bind (·.dst) with
    | none => none
    | some d => match e.get? d with
      | none => none
      | some v => match v with
        | .bool c => match c == b with | true => pureVal e o.op | false => some undef
        | _ => some undef
def runQ (ops : Array Oper) : List Nat → Env → Option Env
  | [], e => some e
  | i :: is, e => match ops[i]? with
    | none => none
    | some o => match o.dst with
      | none => none
      | some d => match quietVal ops e o with
          | none => none
          | some v => runQ ops is ((d, v) :: e)
def okQ (N : Nat) (ops : Array Oper) : List Nat → List Nat → Bool
  | [], _ => true
  | i :: is, L => (match ops[i]? with | some o => (match o.dst with | some d => Nat.blt d N && readyL ops L i | none => false) | none => false) && okQ N ops is (i :: L)

theorem wo_unwanted {o : Oper} (hw : ∀ a, Agree N e a → Region.wanted o (yielded ops a.tmps) = false) (hd : dstB N o.dst = true) (k : K (putE o.dst undef e) cs) : WO P N E ops [o] K e cs := by
  intro Q ho hQ a w ha hs
  unfold wpList
  rw [if_neg (by rw [hw a ha]; simp)]
  exact hQ _ _ k _ _ (ha.put hd undef) hs
theorem yielded_not {a : Act} {j d : Nat} {v : Value} (ha : Agree N e a) (hj : (ops[j]?).bind (·.dst) = some d) (hv : e.get? d = some v) (hn : ∀ b, v ≠ .bool b) : yielded ops a.tmps j = none := by
  obtain ⟨h1, h2⟩ := ha.get d _ hv
  have h3 : a.tmps[d]? = some v := by
    have hs : d < a.tmps.size := by rw [ha.size]; exact h2
    rw [Array.getD_eq_getD_getElem?, Array.getElem?_eq_getElem hs] at h1
    rw [Array.getElem?_eq_getElem hs]; simpa using h1
  unfold yielded
  rw [hj]
  simp only [Option.bind_some, h3]
  cases v <;> first | rfl | exact (hn _ rfl).elim
theorem gq_val {o : Oper} {v : Value} {d : Nat} (hd : o.dst = some d) (hN : Nat.blt d N = true) (h : quietVal ops e o = some v) : gq P N E ops o e cs v := by
  have hdN : dstB N o.dst = true := by rw [hd]; exact hN
  have fin : (match o.dst with | some d => Env.get? (putE o.dst v e) d = some v | none => v = undef) ∧ Ent cs cs := by
    rw [hd]; exact ⟨get_putE_same, Ent.refl _⟩
  have pur : sideB N e ops o = true → pureVal e o.op = some v → gq P N E ops o e cs v := fun hs hp =>
    wo_run (v := v) hs (fun a w ha _ => by
      obtain ⟨dst, op, ty, pos, af, g⟩ := o
      exact pure_run ha hp) (wo_nil fin)
  unfold quietVal at h
  split at h
  · rename_i hg
    exact pur (by simp only [sideB, hg, tookB, hdN, Bool.and_true]) h
  · rename_i j b hg
    split at h
    · cases h
    · rename_i dj hj
      split at h
      · cases h
      · rename_i u hu
        split at h
        · rename_i c
          split at h
          · rename_i hc
            exact pur (by simp only [sideB, hg, tookB, hdN, hj, hu, hc, Bool.and_true]) h
          · rename_i hc
            injection h with h; subst h
            refine wo_unwanted (fun a ha => ?_) hdN fin
            rw [Region.wanted, hg]
            simp only [yielded_of ha hj hu]
            cases c <;> cases b <;> first | rfl | cases hc
        · rename_i hnb
          injection h with h; subst h
          refine wo_unwanted (fun a ha => ?_) hdN fin
          rw [Region.wanted, hg]
          simp [yielded_not ha hj hu (fun b' c => hnb b' c)]

theorem wd_pures {K : Env → List Chunk → Prop} (is : List Nat) {L S F : List Nat} {e' : Env} (hr : okQ N ops is L = true) (h : runQ ops is e = some e') (k : WD P N E ops K (is.reverseAux L) (is.reverseAux S) F e' cs) : WD P N E ops K L S F e cs := by
  induction is generalizing L S e with
  | nil => simp [runQ] at h; subst h; exact k
  | cons i is ih =>
    simp only [runQ] at h
    simp only [okQ, Bool.and_eq_true] at hr
    split at h
    · cases h
    · rename_i o ho
      rw [ho] at hr
      split at h
      · cases h
      · rename_i d hd
        simp only [hd, Bool.and_eq_true] at hr
        split at h
        · cases h
        · rename_i v hv
          exact .steady i ho hd hr.1.1 hr.1.2 (fun _ => gq_val hd hr.1.1 hv) (ih hr.2 h k)

@[reducible] def mainK (P : Program) (N : Nat) (E : Env0) (ops : Array Oper) (K : Env → List Chunk → Prop) (i : Nat) (L S F : List Nat) (dst : Option Tmp) (e : Env) : Env → List Chunk → Prop :=
  fun e' cs' => ∃ v, e' = putE dst v e ∧ stays P N E ops (putE dst v e) cs' F ∧ WD P N E ops K (i :: L) S F (putE dst v e) cs'
def mainB (N : Nat) (ops : Array Oper) (M L S F : List Nat) (i : Nat) : Bool := match ops[i]? with | some o => dstB N o.dst && readyL ops L i && coverB ops L S F i && restB ops L M | none => false
theorem wd_main (i : Nat) {o : Oper} {L S F : List Nat} (F' : List Nat) (ho : ops[i]? = some o) (hb : mainB N ops [i] L S F i = true) (hF : keepF ops i F = F') (h : WO P N E ops [o] (mainK P N E ops K i L S F' o.dst e) e cs) :
    WD P N E ops K L S F e cs := by
  subst hF
  simp only [mainB, ho, Bool.and_eq_true] at hb
  refine .mains [i] (o := fun _ => o) (R := fun _ v cs' => stays P N E ops (putE o.dst v e) cs' (keepF ops i F) ∧ WD P N E ops K (i :: L) S (keepF ops i F) (putE o.dst v e) cs')
    (fun j hj => ?_) hb.2 (by simp) (fun j hj => ?_) (fun j hj v cs' hr => ?_) (fun j hj v cs' hr => ?_)
  · have : j = i := by simpa using hj
    subst this; exact ⟨ho, hb.1.1.1, hb.1.1.2, hb.1.2⟩
  · exact h
  · have : j = i := by simpa using hj
    subst this; exact hr.1
  · have : j = i := by simpa using hj
    subst this; exact hr.2
/-- Two that may come in either order. -/
theorem wd_mains (i j : Nat) {o p : Oper} {L S F : List Nat} (F1 F2 : List Nat) (hij : Nat.beq i j = false) (ho : ops[i]? = some o) (hp : ops[j]? = some p) (hb : (mainB N ops [i, j] L S F i && mainB N ops [i, j] L S F j) = true) (hF : keepF ops i F = F1) (hG : keepF ops j F = F2)
    (h : WO P N E ops [o] (mainK P N E ops K i L S F1 o.dst e) e cs) (h' : WO P N E ops [p] (mainK P N E ops K j L S F2 p.dst e) e cs) : WD P N E ops K L S F e cs := by
  subst hF; subst hG
  simp only [mainB, ho, hp, Bool.and_eq_true] at hb
  have hne : i ≠ j := fun c => by subst c; simp at hij
  refine .mains [i, j] (o := fun k => if k = i then o else p)
    (R := fun k v cs' => stays P N E ops (putE (if k = i then o else p).dst v e) cs' (keepF ops k F) ∧ WD P N E ops K (k :: L) S (keepF ops k F) (putE (if k = i then o else p).dst v e) cs')
    (fun k hk => ?_) hb.1.2 (by simp) (fun k hk => ?_) (fun k hk v cs' hr => ?_) (fun k hk v cs' hr => ?_)
  · rcases List.mem_cons.1 hk with e1 | e1
    · subst e1; simp only [if_true]; exact ⟨ho, hb.1.1.1.1, hb.1.1.1.2, hb.1.1.2⟩
    · have : k = j := by simpa using e1
      subst this
      simp only [if_neg (Ne.symm hne)]
      exact ⟨hp, hb.2.1.1.1, hb.2.1.1.2, hb.2.1.2⟩
  · rcases List.mem_cons.1 hk with e1 | e1
    · subst e1; simp only [if_true]; exact h
    · have : k = j := by simpa using e1
      subst this
      simp only [if_neg (Ne.symm hne)]
      exact h'
  · exact hr.1
  · exact hr.2

/-- A test whose outcome is told apart. -/
theorem wd_bool {L S F : List Nat} {p : Bool} (d : Nat) (hd : e.get? d = some (.bool p)) (yes : p = true → WD P N E ops K L S F ((d, .bool true) :: e) cs) (no : p = false → WD P N E ops K L S F ((d, .bool false) :: e) cs) : WD P N E ops K L S F e cs := by
  cases hp : p with
  | true => exact .weak (Env.Sub.cons (by rw [hd, hp]) (Env.Sub.refl _)) (fun _ h => h) (fun _ h => h) (yes hp)
  | false => exact .weak (Env.Sub.cons (by rw [hd, hp]) (Env.Sub.refl _)) (fun _ h => h) (fun _ h => h) (no hp)
/-- Both ways lead to the same. -/
theorem ws_to {c : Code} {K : Post} (e1 : Env) (cs1 : List Chunk) (h : WS P N E c (fun x e' cs' => x = .normal ∧ Env.Sub e1 e' ∧ Ent cs' cs1) e cs) (k : K .normal e1 cs1) : WS P N E c K e cs := by
  intro Q ho hQ a w ha hw
  refine h Q ho (fun x e' cs' hx a' w' ha' hw' => ?_) a w ha hw
  obtain ⟨rfl, h1, h2⟩ := hx
  exact hQ _ _ _ k a' w' (ha'.sub h1) (hw'.ent h2)
/-- Both ways lead to the same; nothing of memory has changed. -/
theorem ws_toQ {c : Code} {K : Post} (e1 : Env) (h : WS P N E c (fun x e' cs' => x = .normal ∧ Env.Sub e1 e' ∧ Ent cs' cs) e cs) (k : K .normal e1 cs) : WS P N E c K e cs := ws_to e1 cs h k
/-- What a test of two parts comes to. -/
theorem gq_pick {t d q dd : Nat} {o : Oper} {x y : Operand} {p pq : Bool} {v : Value} (b : Bool) (ho : o.op = .pick (.tmp d) x y) (hdst : o.dst = some dd) (hN : Nat.blt dd N = true) (hg : o.guard = none) (hp : e.get? d = some (.bool b))
    (hv : e.val (match b with | true => x | false => y) = some v) {v' : Value} (hvv : v = v') : gq P N E ops o e cs v' := by
  subst hvv
  refine gq_val hdst hN ?_
  unfold quietVal
  rw [hg]
  simp only [ho]
  cases b <;> simp [pureVal, Env.val, hp] <;> exact hv
def frB (e : Env) : Nat → Env → Bool
  | 0, _ => true
  | _ + 1, [] => true
  | n + 1, (d, _) :: e' => (match e.get? d with | none => true | some _ => false) && frB e n e'
theorem Env.Sub.fresh {e : Env} (n : Nat) : ∀ {e' : Env}, e'.drop n = e → frB e n e' = true → Env.Sub e e' := by
  induction n with
  | zero => intro e' h _; simp at h; subst h; exact Env.Sub.refl _
  | succ n ih =>
    intro e' h hb
    cases e' with
    | nil => simp at h; subst h; exact Env.Sub.refl _
    | cons p e' =>
      obtain ⟨d, v⟩ := p
      simp only [frB, Bool.and_eq_true] at hb
      intro t u ht
      simp only [Env.get?]
      split
      · rename_i c
        have := Nat.eq_of_beq_eq_true c
        subst this
        rw [ht] at hb; simp at hb
      · exact ih (by simpa using h) hb.2 t u ht
def forgetE (ds : List Nat) : Env → Option Env
  | [] => some []
  | (t, v) :: e => match forgetE ds e with
    | none => none
    | some r => match ds.any (Nat.beq t) with | true => some r | false => some ((t, v) :: r)
theorem forget_sub {ds : List Nat} : ∀ {e e' : Env}, forgetE ds e = some e' → (∀ t ∈ ds, e'.get? t = none) ∧ Env.Sub e' e
  | [], e', h => by simp [forgetE] at h; subst h; exact ⟨fun _ _ => rfl, Env.Sub.refl _⟩
  | (t, v) :: e, e', h => by
    simp only [forgetE] at h
    split at h
    · cases h
    · rename_i r hr
      obtain ⟨h1, h2⟩ := forget_sub hr
      split at h
      · rename_i hb
        injection h with h; subst h
        refine ⟨h1, fun u x hu => ?_⟩
        simp only [Env.get?]
        split
        · rename_i c
          have := Nat.eq_of_beq_eq_true c
          subst this
          obtain ⟨d, hd, hdt⟩ := List.any_eq_true.1 hb
          have := Nat.eq_of_beq_eq_true hdt
          subst this
          rw [h1 _ hd] at hu; cases hu
        · exact h2 u x hu
      · rename_i hb
        injection h with h; subst h
        refine ⟨fun d hd => ?_, fun u x hu => ?_⟩
        · simp only [Env.get?]
          split
          · rename_i c
            have : ds.any (Nat.beq t) = true := List.any_eq_true.2 ⟨d, hd, c⟩
            rw [this] at hb; cases hb
          · exact h1 d hd
        · simp only [Env.get?] at hu ⊢
          split
          · rename_i c; rw [c] at hu; exact hu
          · rename_i c
            split at hu
            · rename_i c1; rw [c1] at c; cases c
            · exact h2 u x hu
theorem ws_forget {c : Code} {Kp : Post} (ds : List Nat) {e' : Env} (h : forgetE ds e = some e') (k : WS P N E c Kp e' cs) : WS P N E c Kp e cs := k.weak (forget_sub h).2 (Ent.refl _)
theorem ws_toP {c : Code} {K : Post} (es : Env) (h : WS P N E c (fun x e' cs' => x = .normal ∧ Env.Sub (es ++ e) e' ∧ Ent cs' cs) e cs) (k : K .normal (es ++ e) cs) : WS P N E c K e cs := ws_to (es ++ e) cs h k
theorem toB {b b2 : Bool} (h : b = b2) : some (Value.bool b) = some (Value.bool b2) := by rw [h]
theorem and_t {p q : Bool} (h : p = true) : q = (p && q) := by rw [h]; rfl
theorem and_f {p : Bool} (q : Bool) (h : p = false) : false = (p && q) := by rw [h]; rfl
theorem or_f {p q : Bool} (h : p = false) : q = (p || q) := by rw [h]; rfl
theorem or_t {p : Bool} (q : Bool) (h : p = true) : true = (p || q) := by rw [h]; rfl
end
end Go.Sep
