/- One-cell values as elements; loops that are left at once. -/
import Derived.Test.YtklelmfgdgndaaaGreatDoorSepM
import Derived.Laws.MakeOwn
namespace Go.Sep
structure Cell1 where
  v : Value
  ok : v.oneCell' = true
instance : Flat Cell1 := .mk' 0 7 (fun x => [x.v]) (fun _ => rfl) (fun x u h => by simp at h; subst h; exact x.ok)
@[reducible] def onceK (K : Post) : Post
  | .normal, _, _ => False
  | x, e, cs => K x e cs
theorem ws_once {P : Program} {N : Nat} {E : Env0} {c : Code} {K : Post} {e : Env} {cs : List Chunk} (h : WS P N E c (onceK K) e cs) : WS P N E (.loop c) K e cs := by
  intro Q ho hQ a w ha hw
  refine wp_loop_once ?_
  refine h (Exit.then (fun _ _ => False) Q) (LetsOut.then ho) (fun x e' cs' hk a' w' ha' hw' => ?_) a w ha hw
  cases x with
  | normal => exact hk
  | _ => exact hQ _ _ _ hk a' w' ha' hw'
theorem three {α : Type} {a b c z : α} {k : Nat} (h : [a, b, c][k]? = some z) : z = a ∨ z = b ∨ z = c := by
  match k, h with
  | 0, h => simp at h; exact .inl h.symm
  | 1, h => simp at h; exact .inr (.inl h.symm)
  | 2, h => simp at h; exact .inr (.inr h.symm)
  | k + 3, h => simp at h
section
variable {P : Program} {N : Nat} {E : Env0} {ops : Array Oper} {rest : List Oper} {K : Env → List Chunk → Prop} {e : Env} {cs : List Chunk}
variable {dst : Option Tmp} {ty : TypeId} {pos : String} {af : Array Edge} {g : Option (Nat × Bool)}
/-- A slice of nothing. -/
theorem wo_buildSlice0 {α : Type} [Rep α] {t T : TypeId} (hT : ElT P α t T) (hs : sideB N e ops ⟨dst, .buildSlice t 0 #[], ty, pos, af, g⟩ = true)
    (h : ∀ v, WO P N E ops rest K (putE dst v e) (row T v ([] : List α) :: cs)) : WO P N E ops (⟨dst, .buildSlice t 0 #[], ty, pos, af, g⟩ :: rest) K e cs :=
  wo_step hs (R := fun v cs' => cs' = row T v ([] : List α) :: cs) (fun A w _ hw next Q _ hn' => by
    refine .inl ?_
    obtain ⟨i, zv, h1, h2, h3, h4, h5⟩ := hT.info
    have hrun : (execOp A.eval ⟨dst, .buildSlice t 0 #[], ty, pos, af, g⟩).run P w = .ok (.value (.slice (some ⟨w.heap.size, 0, none⟩) 0 0)) (w.alloc (.cells #[] T)) := by
      simp [execOp, Instr.buildSlice, run_underlying hT.under, sizeOf, typeInfo, h1, Instr.fill, newRow, Array.range_zero']
    unfold Oper.wp
    rw [hrun]
    obtain ⟨a, b, c, Z, f, d, z, hf, f1, f2, d', l1, l2, g1, r⟩ := hw.alloc (.cells #[] T)
    exact hn' _ _ _ rfl ⟨a, b, c, Z, f, d, z, hf, f1, f2, d', l1, l2, .inr ⟨w.heap.size, 0, #[], rfl, g1, Nat.le_refl _, by simp, by simp, fun i x hx => by simp at hx⟩, r⟩) (by rintro v _ rfl; exact h v)
def fillB (P : Program) (T : TypeId) (n : Nat) : Bool := match P.info? T with
  | some i => match i.zero with | some zv => Nat.beq zv.cells.size i.size && Nat.ble (n * i.size) 16777216 && Nat.blt 0 (n * i.size) | none => false
  | none => false
/-- A slice whose memory is let go. -/
theorem wo_buildSliceW {t T : TypeId} {n : Nat} {ps : Array (Nat × Operand)} {xs : List Operand} {vs : List Value} (ht : P.underlying t = some (.slice T)) (hT : fillB P T n = true) (hs : sideB N e ops ⟨dst, .buildSlice t n ps, ty, pos, af, g⟩ = true)
    (hx : ps.toList.map (·.2) = xs) (hps : ps.toList.map (·.1) = List.range' 0 xs.length) (hv : e.vals xs = some vs) (hn : vs.length = n) (hsz : ∀ i, P.info? T = some i → ∀ v ∈ vs, v.cells.size = i.size)
    (h : ∀ b, WO P N E ops rest K (putE dst (.slice (some ⟨b, 0, none⟩) n n) e) cs) : WO P N E ops (⟨dst, .buildSlice t n ps, ty, pos, af, g⟩ :: rest) K e cs :=
  wo_step hs (R := fun v cs' => (∃ b, v = .slice (some ⟨b, 0, none⟩) n n) ∧ cs' = cs) (fun A w ha hw next Q _ hn' => by
    refine .inl ?_
    unfold fillB at hT
    split at hT
    · rename_i i hi
      split at hT
      · rename_i zv hz
        simp only [Bool.and_eq_true] at hT
        subst hn
        have hr := run_buildSlice (P := P) (t := t) w ht hi hz vs (hsz i hi) (Nat.eq_of_beq_eq_true hT.1.1) (Nat.le_of_ble_eq_true hT.1.2) (Nat.le_of_ble_eq_true hT.2)
        have hargs : (ps.map fun p => (p.1, A.eval p.2)) = ((vs.zipIdx 0).map fun p => (p.2, p.1)).toArray := by
          apply Array.toList_inj.1
          have h6 := pairs_of (ps := ps.toList) 0 hx hps
          rw [Array.toList_map, h6]
          have h7 := ha.evals hv
          rw [← h7]
          simp [List.zipIdx_map]
        have hrun : (execOp A.eval ⟨dst, .buildSlice t vs.length ps, ty, pos, af, g⟩).run P w = .ok (.value (.slice (some ⟨w.heap.size, 0, none⟩) vs.length vs.length)) (w.alloc (.cells (vs.flatMap (·.cells.toList)).toArray T)) := by
          simp only [execOp, hargs, Sem.run_bind, hr, Result.andThen_ok, Sem.run_pure]
        unfold Oper.wp
        rw [hrun]
        exact hn' _ _ _ ⟨⟨_, rfl⟩, rfl⟩ ((hw.alloc _).ent (Ent.drop _ _))
      · cases hT
    · cases hT) (by rintro _ _ ⟨⟨b, rfl⟩, rfl⟩; exact h b)
theorem wo_makeSliceW {t T : TypeId} {x y : Operand} {n c : Nat} (ht : P.underlying t = some (.slice T)) (hT : (match P.info? T with | some i => i.zero.isSome && Nat.ble (c * i.size) 16777216 && Nat.ble (i.bytes * c) 281474976710656 | none => false) = true)
    (hs : sideB N e ops ⟨dst, .makeSlice t x y, ty, pos, af, g⟩ = true) (hx : e.val x = some (int (n : Int))) (hy : e.val y = some (int (c : Int))) (hnc : Nat.ble n c = true) (hc : Nat.ble c 16777216 = true)
    (h : ∀ b, WO P N E ops rest K (putE dst (.slice (some ⟨b, 0, none⟩) n c) e) cs) : WO P N E ops (⟨dst, .makeSlice t x y, ty, pos, af, g⟩ :: rest) K e cs :=
  wo_step hs (R := fun v cs' => (∃ b, v = .slice (some ⟨b, 0, none⟩) n c) ∧ cs' = cs) (fun A w ha hw next Q _ hn' => by
    refine .inl ?_
    split at hT
    · rename_i i hi
      simp only [Bool.and_eq_true] at hT
      obtain ⟨zv, hz⟩ := Option.isSome_iff_exists.1 hT.1.1
      have h1 := Nat.le_of_ble_eq_true hT.1.2
      have h2 := Nat.le_of_ble_eq_true hT.2
      have h3 := Nat.le_of_ble_eq_true hnc
      have h4 := Nat.le_of_ble_eq_true hc
      have hb : (i.bytes : Int) * (c : Int) ≤ 281474976710656 := by rw [← Int.natCast_mul]; omega
      have hr := run_makeSlice (P := P) w t T i zv ht hi hz .i64 .i64 (n : Int) (c : Int) (by omega) (by omega) (by simpa using h1) hb (by omega)
      have hrun : (execOp A.eval ⟨dst, .makeSlice t x y, ty, pos, af, g⟩).run P w = .ok (.value (.slice (some ⟨w.heap.size, 0, none⟩) (n : Int).toNat (c : Int).toNat)) (w.alloc (.cells (madeCells zv.cells ((c : Int).toNat * i.size)) T)) := by
        simp only [execOp, ha.eval hx, ha.eval hy, Sem.run_bind, hr, Result.andThen_ok, Sem.run_pure]
      unfold Oper.wp
      rw [hrun]
      exact hn' _ _ _ ⟨⟨_, rfl⟩, rfl⟩ ((hw.alloc _).ent (Ent.drop _ _))
    · cases hT) (by rintro _ _ ⟨⟨b, rfl⟩, rfl⟩; exact h b)
/-- A new map, as it lies. -/
theorem wo_makeMapO {t : TypeId} (hs : sideB N e ops ⟨dst, .makeMap t none, ty, pos, af, g⟩ = true)
    (h : ∀ m, WO P N E ops rest K (putE dst (.map (some m)) e) (own m (.map #[] 0) :: cs)) : WO P N E ops (⟨dst, .makeMap t none, ty, pos, af, g⟩ :: rest) K e cs :=
  wo_step hs (R := fun v cs' => ∃ m, v = .map (some m) ∧ cs' = own m (.map #[] 0) :: cs) (fun A w _ hw next Q _ hn => by
    refine .inl ?_
    have : (execOp A.eval ⟨dst, .makeMap t none, ty, pos, af, g⟩).run P w = .ok (.value (.map (some w.heap.size))) (w.alloc (.map #[] 0)) := by
      simp [execOp, Instr.makeMap]
    unfold Oper.wp
    rw [this]
    exact hn _ _ _ ⟨_, rfl, rfl⟩ (hw.alloc (.map #[] 0))) (by rintro _ _ ⟨b, rfl, rfl⟩; exact h b)
end
def sizeB (P : Program) (T : TypeId) (n : Nat) : Bool := match P.info? T with | some i => Nat.beq i.size n | none => false
theorem sizes_one {P : Program} {T : TypeId} {n : Nat} {i : TypeInfo} (h : sizeB P T n = true) (hi : P.info? T = some i) {v u : Value} (hv : v ∈ [u]) (hu : u.cells.size = n) : v.cells.size = i.size := by
  unfold sizeB at h
  rw [hi] at h
  rw [List.mem_singleton.1 hv, hu]
  exact (Nat.eq_of_beq_eq_true h).symm
section
variable {P : Program} {N : Nat} {E : Env0} {ops : Array Oper} {K : Env → List Chunk → Prop} {e : Env} {cs : List Chunk} {α : Type} [Rep α]
theorem wo_formN {v : Value} {xs : List α} (i : Nat) {l : List Oper} (hi : cs[i]? = some (dat v xs)) (h : ∀ a c', v = .slice a xs.length c' → xs.length ≤ 9223372036854775807 → (a = none → xs = []) → WO P N E ops l K e cs) : WO P N E ops l K e cs :=
  fun Q ho hQ a w ha hw => by
    obtain ⟨Z, f, _, _, _, _, a', c, hv, h1, h2, h3⟩ := hw.perAt hi
    refine h a' c hv (len_le h1 h2) (fun hn => ?_) Q ho hQ a w ha hw
    by_cases hp : 0 < xs.length
    · obtain ⟨b, o, _, _, _, e1, _⟩ := h3 hp
      rw [hn] at e1; cases e1
    · exact List.eq_nil_of_length_eq_zero (by omega)
theorem wo_formRN {T : TypeId} {v : Value} {xs : List α} (i : Nat) {l : List Oper} (hi : cs[i]? = some (row T v xs)) (h : ∀ a c', v = .slice a xs.length c' → xs.length ≤ 9223372036854775807 → (a = none → xs = []) → WO P N E ops l K e cs) : WO P N E ops l K e cs :=
  fun Q ho hQ a w ha hw => by
    have hw' := hw
    obtain ⟨_, _, _, Z, f, _, _, _, s⟩ := hw
    obtain ⟨f1, f2, _, _, _, y, _⟩ := Ent0.front i cs _ hi Z f s
    rcases y with ⟨e1, e2⟩ | ⟨g, c, arr, e1, e2, e3, e4, _⟩
    · subst e2; exact h none 0 e1 (by simp) (fun _ => rfl) Q ho hQ a w ha hw'
    · exact h _ c e1 (len_le e3 e4) (fun c => by cases c) Q ho hQ a w ha hw'
end
section
variable {P : Program} {N : Nat} {E : Env0} {ops : Array Oper} {rest : List Oper} {K : Env → List Chunk → Prop} {e : Env} {cs : List Chunk}
variable {dst : Option Tmp} {ty : TypeId} {pos : String} {af : Array Edge} {g : Option (Nat × Bool)}
/-- Nothing is appended to nothing. -/
theorem wo_append_nn {t T : TypeId} {x y : Operand} (ht : P.underlying t = some (.slice T)) (hT : (P.info? T).isSome = true)
    (hs : sideB N e ops ⟨dst, .call { callee := .builtin .append, args := #[x, y], argTypes := #[t, t] }, ty, pos, af, g⟩ = true)
    (hx : e.val x = some (.slice none 0 0)) (hy : e.val y = some (.slice none 0 0))
    (h : WO P N E ops rest K (putE dst (.slice none 0 0) e) cs) : WO P N E ops (⟨dst, .call { callee := .builtin .append, args := #[x, y], argTypes := #[t, t] }, ty, pos, af, g⟩ :: rest) K e cs :=
  wo_run hs (fun A w ha _ => by
    obtain ⟨i, hi⟩ := Option.isSome_iff_exists.1 hT
    have := run_append_zero (P := P) w (ty := ty) ht hi none none 0 0 0 (Nat.le_refl _)
    simp [execOp, resolve, invoke, builtin, ha.eval hx, ha.eval hy, this]) h
end
end Go.Sep
