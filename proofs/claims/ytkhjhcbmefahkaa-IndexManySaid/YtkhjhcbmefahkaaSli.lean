/-
  Steps of a walk at append, copy and clear, and slices that own their block. No program in sight.
-/
import Derived.Test.YtkhjhcbmefahkaaMem
import Derived.Deep.RegionLaw
namespace Go.Mm
open Go Go.RowKit

section
variable {P : Program} {ops : Array Oper} {rest : List Oper} {o : Oper} {a : Act} {w : World} {Q : Exit → Act → World → Prop} {K : Act → World → Prop} {E : Prop}

theorem wp_append (s x : Operand) (t t' : TypeId) (ho : o.op = Op.call { callee := Callee.builtin Builtin.append, args := #[s, x], argTypes := #[t, t'] })
    (v : Value) (w' : World) (hrun : (Builtin.append_ #[t, t'] o.type #[a.eval s, a.eval x]).run P w = .ok v w') (h : K (a.put o.dst v) w') : o.wp P a w K Q := by
  unfold Oper.wp
  simp [execOp, ho, resolve, invoke, builtin, hrun, Result.andThen]
  exact h

theorem wp_copy (s x : Operand) (t t' : TypeId) (ho : o.op = Op.call { callee := Callee.builtin Builtin.copy, args := #[s, x], argTypes := #[t, t'] })
    (v : Value) (w' : World) (hrun : (Builtin.copy_ #[t, t'] o.type #[a.eval s, a.eval x]).run P w = .ok v w') (h : K (a.put o.dst v) w') : o.wp P a w K Q := by
  unfold Oper.wp
  simp [execOp, ho, resolve, invoke, builtin, hrun, Result.andThen]
  exact h

theorem wp_clear (s : Operand) (t : TypeId) (ho : o.op = Op.call { callee := Callee.builtin Builtin.clear, args := #[s], argTypes := #[t] })
    (v : Value) (w' : World) (hrun : (Builtin.clear_ #[t] o.type #[a.eval s]).run P w = .ok v w') (h : K (a.put o.dst v) w') : o.wp P a w K Q := by
  unfold Oper.wp
  simp [execOp, ho, resolve, invoke, builtin, hrun, Result.andThen]
  exact h

theorem wpList_append (hg : o.guard = none) (s x : Operand) (t t' : TypeId) (ho : o.op = Op.call { callee := Callee.builtin Builtin.append, args := #[s, x], argTypes := #[t, t'] })
    (v : Value) (w' : World) (hrun : (Builtin.append_ #[t, t'] o.type #[a.eval s, a.eval x]).run P w = .ok v w') (h : wpList P ops Q rest (a.put o.dst v) w') : wpList P ops Q (o :: rest) a w :=
  wpList_plain hg fun _ hK => wp_append s x t t' ho v w' hrun (hK _ _ h)
theorem wpList_copy (hg : o.guard = none) (s x : Operand) (t t' : TypeId) (ho : o.op = Op.call { callee := Callee.builtin Builtin.copy, args := #[s, x], argTypes := #[t, t'] })
    (v : Value) (w' : World) (hrun : (Builtin.copy_ #[t, t'] o.type #[a.eval s, a.eval x]).run P w = .ok v w') (h : wpList P ops Q rest (a.put o.dst v) w') : wpList P ops Q (o :: rest) a w :=
  wpList_plain hg fun _ hK => wp_copy s x t t' ho v w' hrun (hK _ _ h)
theorem wpList_clear (hg : o.guard = none) (s : Operand) (t : TypeId) (ho : o.op = Op.call { callee := Callee.builtin Builtin.clear, args := #[s], argTypes := #[t] })
    (v : Value) (w' : World) (hrun : (Builtin.clear_ #[t] o.type #[a.eval s]).run P w = .ok v w') (h : wpList P ops Q rest (a.put o.dst v) w') : wpList P ops Q (o :: rest) a w :=
  wpList_plain hg fun _ hK => wp_clear s t ho v w' hrun (hK _ _ h)

/-- a step of a region that draws its order -/
theorem step_append (hg : o.guard = none) (s x : Operand) (t t' : TypeId) (ho : o.op = Op.call { callee := Callee.builtin Builtin.append, args := #[s, x], argTypes := #[t, t'] })
    (v : Value) (w' : World) (hrun : (Builtin.append_ #[t, t'] o.type #[a.eval s, a.eval x]).run P w = .ok v w') (h : K (a.put o.dst v) w') :
    if Region.wanted o (yielded ops a.tmps) = true then Oper.wp P o a w K Q else E := by
  have hw : Region.wanted o (yielded ops a.tmps) = true := by simp [Region.wanted, hg]
  rw [if_pos hw]
  exact wp_append s x t t' ho v w' hrun h
theorem step_copy (hg : o.guard = none) (s x : Operand) (t t' : TypeId) (ho : o.op = Op.call { callee := Callee.builtin Builtin.copy, args := #[s, x], argTypes := #[t, t'] })
    (v : Value) (w' : World) (hrun : (Builtin.copy_ #[t, t'] o.type #[a.eval s, a.eval x]).run P w = .ok v w') (h : K (a.put o.dst v) w') :
    if Region.wanted o (yielded ops a.tmps) = true then Oper.wp P o a w K Q else E := by
  have hw : Region.wanted o (yielded ops a.tmps) = true := by simp [Region.wanted, hg]
  rw [if_pos hw]
  exact wp_copy s x t t' ho v w' hrun h
end

/-! ### A slice that owns its block -/
/-- v is a slice of n elements of k cells each; its cells are L; its block (if it has one) is in bl, its elements' type T. -/
def Sl (w : World) (T k : Nat) (v : Value) (bl : List Nat) (n : Nat) (L : List Value) : Prop :=
  (v = .slice none 0 0 ∧ bl = [] ∧ n = 0 ∧ L = []) ∨
  ∃ b cap sp, v = .slice (some ⟨b, 0, none⟩) n cap ∧ bl = [b] ∧ Blk w b (L ++ sp) T ∧ L.length = n * k ∧ (L ++ sp).length = cap * k ∧ n ≤ cap

theorem Sl.nil (w : World) (T k : Nat) : Sl w T k (.slice none 0 0) [] 0 [] := .inl ⟨rfl, rfl, rfl, rfl⟩
theorem Sl.mk {w : World} {T k b n cap : Nat} {L sp : List Value} (hb : Blk w b (L ++ sp) T) (hl : L.length = n * k) (hc : (L ++ sp).length = cap * k) (hn : n ≤ cap) :
    Sl w T k (.slice (some ⟨b, 0, none⟩) n cap) [b] n L := .inr ⟨b, cap, sp, rfl, rfl, hb, hl, hc, hn⟩

theorem Sl.lt {w : World} {T k : Nat} {v : Value} {bl : List Nat} {n : Nat} {L : List Value} (h : Sl w T k v bl n L) : ∀ x ∈ bl, x < w.heap.size := by
  rcases h with ⟨_, rfl, _, _⟩ | ⟨b, cap, sp, _, rfl, hb, _⟩
  · simp
  · intro x hx; simp at hx; subst hx; exact hb.lt
theorem Sl.len {w : World} {T k : Nat} {v : Value} {bl : List Nat} {n : Nat} {L : List Value} (h : Sl w T k v bl n L) : L.length = n * k := by
  rcases h with ⟨_, _, rfl, rfl⟩ | ⟨b, cap, sp, _, _, _, h, _⟩
  · simp
  · exact h
theorem Sl.tch {w w' : World} {T k : Nat} {v : Value} {bl : List Nat} {n : Nat} {L : List Value} {S : Nat → Prop} (h : Sl w T k v bl n L) (ht : Tch S w w') (hd : ∀ x ∈ bl, ¬ S x) : Sl w' T k v bl n L := by
  rcases h with h | ⟨b, cap, sp, hv, rfl, hb, h⟩
  · exact .inl h
  · exact .inr ⟨b, cap, sp, hv, rfl, ht.get hb (hd b (by simp)), h⟩
theorem Sl.drew {w : World} {T k : Nat} {v : Value} {bl : List Nat} {n : Nat} {L : List Value} (h : Sl w T k v bl n L) : Sl w.drew T k v bl n L := h
theorem Sl.alloc {w : World} {T k : Nat} {v : Value} {bl : List Nat} {n : Nat} {L : List Value} (h : Sl w T k v bl n L) (o : Obj) : Sl (w.alloc o) T k v bl n L :=
  h.tch (S := fun _ => False) (Tch.alloc _ w o) (fun _ _ h => h)

theorem Sl.nodup {w : World} {T k : Nat} {v : Value} {bl : List Nat} {n : Nat} {L : List Value} (h : Sl w T k v bl n L) : bl.Nodup := by
  rcases h with ⟨_, rfl, _, _⟩ | ⟨b, cap, sp, _, rfl, _⟩ <;> simp

/-- the value: a slice of length n, at the head of its block -/
theorem Sl.val {w : World} {T k : Nat} {v : Value} {bl : List Nat} {n : Nat} {L : List Value} (h : Sl w T k v bl n L) : ∃ a cap, v = .slice a n cap ∧ n ≤ cap := by
  rcases h with ⟨rfl, _, rfl, _⟩ | ⟨b, cap, sp, rfl, _, _, _, _, h⟩
  · exact ⟨none, 0, rfl, Nat.le_refl _⟩
  · exact ⟨_, cap, rfl, h⟩

theorem Sl.pos {w : World} {T k : Nat} {v : Value} {bl : List Nat} {n : Nat} {L : List Value} (h : Sl w T k v bl n L) (hn : 0 < n) :
    ∃ b cap sp, v = .slice (some ⟨b, 0, none⟩) n cap ∧ bl = [b] ∧ Blk w b (L ++ sp) T ∧ L.length = n * k ∧ (L ++ sp).length = cap * k ∧ n ≤ cap := by
  rcases h with ⟨_, _, rfl, _⟩ | h
  · omega
  · exact h

/-- as the source of an append or a copy -/
theorem Sl.src {P : Program} {w : World} {T k : Nat} {v : Value} {bl : List Nat} {n : Nat} {L : List Value} (h : Sl w T k v bl n L) : Src P w k v n L := by
  rcases h with ⟨rfl, _, rfl, rfl⟩ | ⟨b, cap, sp, rfl, _, hb, hl, hc, _⟩
  · exact Src.nil w k 0
  · have := Src.blk (P := P) hb k 0 n cap (by rw [List.length_append]; omega)
    rw [List.drop_zero, ← hl, List.take_left] at this
    exact this


theorem Src.world {P : Program} {w w' : World} {size : Nat} {x : Value} {m : Nat} {vs : List Value} (h : Src P w size x m vs) (hr : ∀ k, k ≤ m → (Builtin.firstCells size k x).run P w' = .ok (vs.take (k * size)).toArray w') : Src P w' size x m vs :=
  ⟨h.len, hr, h.length⟩

theorem spl_end {L sp V : List Value} {T : Nat} (hT : T = L.length) : spl (L ++ sp) T V = L ++ V ++ sp.drop V.length := by
  subst hT
  unfold spl
  simp

/-- APPEND to a slice that owns its block. -/
theorem Sl.append {P : Program} {w : World} {t t' ty E k bytes : Nat} {z : Value} (h1 : P.underlying t = some (.slice E)) (h1' : P.underlying t' = some (.slice E))
    (hi : (P.info? E).map (fun i => (i.zero, i.size, i.bytes)) = some (some z, k, bytes)) (hby : 0 < bytes) (hzk : z.cells.size = k)
    {v : Value} {bl : List Nat} {n : Nat} {L : List Value} (h : Sl w E k v bl n L) {x : Value} {m : Nat} {V : List Value} (hx : Src P w k x m V) (hx' : Src P w.drew k x m V)
    (h1c : ∀ u ∈ V, u.oneCell' = true) (hroom : (2 * (n + m) + 192) * bytes ≤ 281474976710656) :
    ∃ v' w' bl', (Builtin.append_ #[t, t'] ty #[v, x]).run P w = .ok v' w' ∧ Sl w' E k v' bl' (n + m) (L ++ V) ∧ Tch (· ∈ bl) w w' ∧ (∀ y ∈ bl', y ∈ bl ∨ w.heap.size ≤ y) := by
  have hi2 : (P.info? E).map (·.size) = some k := by
    obtain ⟨i, hi, hzz⟩ := Option.map_eq_some_iff.1 hi
    simp only [Prod.mk.injEq] at hzz
    simp [hi, hzz.2.1]
  have hVl := hx.length
  have grow : ∀ (a : Option Addr) (cap : Nat), v = .slice a n cap → cap < n + m →
      ∃ v' w' bl', (Builtin.append_ #[t, t'] ty #[v, x]).run P w = .ok v' w' ∧ Sl w' E k v' bl' (n + m) (L ++ V) ∧ Tch (· ∈ bl) w w' ∧ (∀ y ∈ bl', y ∈ bl ∨ w.heap.size ≤ y) := by
    rintro a cap rfl hg
    obtain ⟨c, hc, hrun⟩ := run_append_grow (P := P) w (ty := ty) h1 h1' hi hby (h.drew.src) hx' hg hroom
    refine ⟨_, _, [w.heap.size], hrun, ?_, (Tch.drew _ w).trans (Tch.alloc _ _ _) (fun _ _ h => h), by simp⟩
    have hll := h.len
    refine Sl.mk (sp := zs z (c - (n + m))) (Blk.new w.drew _ E) (by rw [List.length_append, hll, hVl, Nat.add_mul]) ?_ hc
    rw [List.length_append, List.length_append, hll, hVl, zs_length, hzk, ← Nat.add_mul, ← Nat.add_mul]
    congr 1; omega
  rcases h with ⟨rfl, rfl, rfl, rfl⟩ | ⟨b, cap, sp, rfl, rfl, hb, hl, hc, hn⟩
  · cases m with
    | zero =>
      have hV : V = [] := List.eq_nil_of_length_eq_zero (by simpa using hVl)
      subst hV
      refine ⟨.slice none 0 0, w, [], ?_, Sl.nil _ _ _, Tch.refl _ _, by simp⟩
      obtain ⟨i, hi, hsz⟩ := Option.map_eq_some_iff.1 hi2
      have hc := hx.cells 0 (Nat.le_refl _)
      unfold Builtin.append_
      simp only [List.getElem?_toArray, List.getElem?_cons_zero, List.getElem?_cons_succ, Sem.run_bind, run_underlying h1, run_underlying h1', Result.andThen_ok, sizeOf, typeInfo, run_program, hi, Sem.run_pure,
        Bool.false_eq_true, if_false, hx.len, hsz, hc, Bool.not_false, if_true, Sem.run_ite, Nat.add_zero, Nat.le_refl]
    | succ m => exact grow none 0 rfl (by omega)
  · by_cases hf : n + m ≤ cap
    · have hle : (n + m) * k ≤ cap * k := Nat.mul_le_mul_right _ hf
      rw [List.length_append] at hc
      rw [Nat.add_mul] at hle
      refine ⟨_, _, [b], run_append_fit (P := P) w (ty := ty) h1 h1' hi2 hb hx h1c hf (by rw [List.length_append, Nat.add_mul]; omega), ?_, Tch.putB w (by simp) _ _, fun y hy => .inl hy⟩
      rw [spl_end hl.symm]
      have hb' := hb.putB_same (L ++ V ++ sp.drop V.length) E
      exact Sl.mk hb' (by rw [List.length_append, hl, hVl, Nat.add_mul]) (by simp; omega) hf
    · exact grow _ cap rfl (by omega)


/-- a slice cut at its front, as the source of a copy or an append -/
theorem suf_src {P : Program} {w : World} {T k b n cap : Nat} {L sp : List Value} (hb : Blk w b (L ++ sp) T) (hl : L.length = n * k) (hc : (L ++ sp).length = cap * k) (hn : n ≤ cap) (j : Nat) (hj : j ≤ n) (c : Nat) :
    Src P w k (.slice (some ⟨b, j * k, none⟩) (n - j) c) (n - j) (L.drop (j * k)) := by
  have h1 : j * k ≤ n * k := Nat.mul_le_mul_right _ hj
  have h2 : n * k ≤ cap * k := Nat.mul_le_mul_right _ hn
  have h3 : (n - j) * k = n * k - j * k := Nat.sub_mul _ _ _
  have := Src.blk (P := P) hb k (j * k) (n - j) c (by omega)
  rwa [List.drop_append_of_le_length (by omega), List.take_left' (by rw [List.length_drop]; omega)] at this
/-- .. cut at its end -/
theorem pre_src {P : Program} {w : World} {T k b n cap : Nat} {L sp : List Value} (hb : Blk w b (L ++ sp) T) (hl : L.length = n * k) (hc : (L ++ sp).length = cap * k) (hn : n ≤ cap) (j : Nat) (hj : j ≤ n) (c : Nat) :
    Src P w k (.slice (some ⟨b, 0, none⟩) j c) j (L.take (j * k)) := by
  have h1 : j * k ≤ n * k := Nat.mul_le_mul_right _ hj
  have h2 : n * k ≤ cap * k := Nat.mul_le_mul_right _ hn
  have := Src.blk (P := P) hb k 0 j c (by omega)
  rwa [List.drop_zero, List.take_append_of_le_length (by omega)] at this

theorem step_copyV {P : Program} {ops : Array Oper} {o : Oper} {a : Act} {w : World} {Q : Exit → Act → World → Prop} {K : Act → World → Prop} {E : Prop} (hg : o.guard = none) (s x : Operand) (t t' ty : TypeId) (ho : o.op = Op.call { callee := Callee.builtin Builtin.copy, args := #[s, x], argTypes := #[t, t'] })
    (hty : o.type = ty) (vd vx : Value) (hd : a.eval s = vd) (hx : a.eval x = vx)
    (v : Value) (w' : World) (hrun : (Builtin.copy_ #[t, t'] ty #[vd, vx]).run P w = .ok v w') (h : K (a.put o.dst v) w') :
    if Region.wanted o (yielded ops a.tmps) = true then Oper.wp P o a w K Q else E := by
  subst hty hd hx
  exact step_copy hg s x t t' ho v w' hrun h
theorem step_appendV {P : Program} {ops : Array Oper} {o : Oper} {a : Act} {w : World} {Q : Exit → Act → World → Prop} {K : Act → World → Prop} {E : Prop} (hg : o.guard = none) (s x : Operand) (t t' ty : TypeId) (ho : o.op = Op.call { callee := Callee.builtin Builtin.append, args := #[s, x], argTypes := #[t, t'] })
    (hty : o.type = ty) (vd vx : Value) (hd : a.eval s = vd) (hx : a.eval x = vx)
    (v : Value) (w' : World) (hrun : (Builtin.append_ #[t, t'] ty #[vd, vx]).run P w = .ok v w') (h : K (a.put o.dst v) w') :
    if Region.wanted o (yielded ops a.tmps) = true then Oper.wp P o a w K Q else E := by
  subst hty hd hx
  exact step_append hg s x t t' ho v w' hrun h

/-- the two copies by which Insert makes room and fills it -/
theorem spl_shift {L sp : List Value} {n i k : Nat} (hl : L.length = n * k) (hi : i < n) :
    spl (L ++ sp) (i * k + k) (L.drop (i * k)) = L.take (i * k) ++ ((L.drop (i * k)).take k ++ L.drop (i * k)) ++ sp.drop k := by
  have h1 : (i + 1) * k ≤ n * k := Nat.mul_le_mul_right _ hi
  rw [Nat.add_mul, Nat.one_mul] at h1
  unfold spl
  have e1 : (L ++ sp).take (i * k + k) = L.take (i * k) ++ (L.drop (i * k)).take k := by
    rw [List.take_append_of_le_length (by omega), List.take_add]
  have e2 : (L ++ sp).drop (i * k + k + (L.drop (i * k)).length) = sp.drop k := by
    rw [List.length_drop, List.drop_append, List.drop_of_length_le (by omega), List.nil_append]
    congr 1; omega
  rw [e1, e2]; simp
theorem spl_fill {A X C V : List Value} {o k : Nat} (ho : o = A.length) (hX : X.length = k) (hV : V.length = k) : spl (A ++ (X ++ C)) o V = A ++ V ++ C := by
  subst ho
  unfold spl
  have : (A ++ (X ++ C)).drop (A.length + V.length) = C := by
    rw [hV, ← hX, ← List.append_assoc, ← List.length_append, List.drop_left]
  rw [this]; simp

end Go.Mm
