/-
  Memory: blocks known whole, what a call touches, and what append, copy and clear do to blocks. No program in sight.
-/
import Derived.WalkKit
import Derived.WalkSpells
import Derived.WalkLawsBesides
import Derived.Lib.Hide
namespace Go.Mm
open Go Go.RowKit

/-! ### A block known whole -/
def Blk (w : World) (b : Nat) (L : List Value) (T : TypeId) : Prop := w.heap[b]? = some (.cells L.toArray T (0, 0))

theorem Blk.lt {w : World} {b : Nat} {L : List Value} {T : TypeId} (h : Blk w b L T) : b < w.heap.size := by
  rcases Nat.lt_or_ge b w.heap.size with h' | h'
  · exact h'
  · unfold Blk at h; simp [Array.getElem?_eq_none h'] at h

theorem Blk.cell {w : World} {b : Nat} {L : List Value} {T : TypeId} (h : Blk w b L T) (i : Nat) : w.cell? ⟨b, i, none⟩ = L[i]? := by
  unfold Blk at h
  simp [World.cell?, h]

theorem Blk.frozen {w : World} {b : Nat} {L : List Value} {T : TypeId} (h : Blk w b L T) (i : Nat) : w.frozen? ⟨b, i, none⟩ = false := by
  unfold Blk at h
  simp [World.frozen?, h]

theorem Blk.shape {w : World} {b : Nat} {L : List Value} {T : TypeId} (h : Blk w b L T) : w.shape? b = some (T, L.length) := by
  unfold Blk at h
  simp [World.shape?, h]

theorem Blk.inj {w : World} {b : Nat} {L L' : List Value} {T T' : TypeId} (h : Blk w b L T) (h' : Blk w b L' T') : L = L' ∧ T = T' := by
  unfold Blk at h h'
  rw [h] at h'
  simp at h'
  exact ⟨h'.1, h'.2⟩

theorem Blk.drew {w : World} {b : Nat} {L : List Value} {T : TypeId} (h : Blk w b L T) : Blk w.drew b L T := h

theorem Blk.alloc {w : World} {b : Nat} {L : List Value} {T : TypeId} (h : Blk w b L T) (o : Obj) : Blk (w.alloc o) b L T := by
  have := h.lt
  unfold Blk
  rw [Below.heap_alloc _ _ _ this]; exact h

theorem Blk.new (w : World) (L : List Value) (T : TypeId) : Blk (w.alloc (.cells L.toArray T)) w.heap.size L T := by
  unfold Blk World.alloc
  simp

/-- the block b holds L from now on -/
def putB (w : World) (b : Nat) (L : List Value) (T : TypeId) : World := { w with heap := w.heap.setIfInBounds b (.cells L.toArray T (0, 0)) }

theorem putB_size (w : World) (b : Nat) (L : List Value) (T : TypeId) : (putB w b L T).heap.size = w.heap.size := by simp [putB]

theorem Blk.putB_same {w : World} {b : Nat} {L : List Value} {T : TypeId} (h : Blk w b L T) (L' : List Value) (T' : TypeId) : Blk (putB w b L' T') b L' T' := by
  have := h.lt
  unfold Blk putB
  simp [this]

theorem putB_other {w : World} {b k : Nat} (h : k ≠ b) (L : List Value) (T : TypeId) : (putB w b L T).heap[k]? = w.heap[k]? := by
  unfold putB
  simp only [Array.getElem?_setIfInBounds]
  rw [if_neg (fun e => h e.symm)]

theorem setCell_putB {w : World} {b : Nat} {L : List Value} {T : TypeId} (h : Blk w b L T) (o : Nat) (v : Value) : w.setCell ⟨b, o, none⟩ v = putB w b (L.set o v) T := by
  unfold Blk at h
  unfold World.setCell putB
  congr 1
  apply Array.ext_getElem?
  intro i
  simp only [Array.getElem?_modify, Array.getElem?_setIfInBounds]
  by_cases e : b = i
  · subst e
    have hb : b < w.heap.size := Blk.lt (L := L) (T := T) h
    have h' : w.heap[b] = .cells L.toArray T (0, 0) := by simpa [hb] using h
    simp [hb, h']
  · simp [e]

theorem Blk.setC {w : World} {b : Nat} {L : List Value} {T : TypeId} (h : Blk w b L T) (o : Nat) (v : Value) : Blk (w.setCell ⟨b, o, none⟩ v) b (L.set o v) T := by
  rw [setCell_putB h]; exact h.putB_same _ _
theorem Blk.setC' {w : World} {b c : Nat} {L : List Value} {T : TypeId} (h : Blk w b L T) (hne : b ≠ c) (o : Nat) (v : Value) : Blk (w.setCell ⟨c, o, none⟩ v) b L T := by
  unfold Blk
  rw [Below.heap_setCell _ _ _ _ hne]; exact h
theorem Blk.newLast {w : World} {n : Nat} (L : List Value) (T : TypeId) (hn : w.heap.size = n) : Blk (w.alloc (.cells L.toArray T)) n L T := hn ▸ Blk.new w L T

/-! ### What a call touches -/
/-- But for blocks in S all that was there is as it was. -/
structure Tch (S : Nat → Prop) (w w' : World) : Prop where
  os : w'.os = w.os
  tape : w'.tape = w.tape
  output : w'.output = w.output
  size : w.heap.size ≤ w'.heap.size
  block : ∀ k, k < w.heap.size → ¬ S k → w'.heap[k]? = w.heap[k]?

theorem Tch.refl (S : Nat → Prop) (w : World) : Tch S w w := ⟨rfl, rfl, rfl, Nat.le_refl _, fun _ _ _ => rfl⟩
theorem Tch.mono {S S' : Nat → Prop} {w w' : World} (h : Tch S w w') (hs : ∀ k, k < w.heap.size → S k → S' k) : Tch S' w w' :=
  ⟨h.os, h.tape, h.output, h.size, fun k hk hn => h.block k hk (fun e => hn (hs k hk e))⟩
/-- two steps: what the second may touch was touchable, or is new -/
theorem Tch.trans {S S' : Nat → Prop} {w w1 w2 : World} (h : Tch S w w1) (h' : Tch S' w1 w2) (hs : ∀ k, k < w.heap.size → S' k → S k) : Tch S w w2 :=
  ⟨h'.os.trans h.os, h'.tape.trans h.tape, h'.output.trans h.output, Nat.le_trans h.size h'.size,
    fun k hk hn => (h'.block k (Nat.lt_of_lt_of_le hk h.size) (fun e => hn (hs k hk e))).trans (h.block k hk hn)⟩
theorem Tch.drew (S : Nat → Prop) (w : World) : Tch S w w.drew := ⟨rfl, rfl, rfl, Nat.le_refl _, fun _ _ _ => rfl⟩
theorem Tch.alloc (S : Nat → Prop) (w : World) (o : Obj) : Tch S w (w.alloc o) := ⟨rfl, rfl, rfl, by simp, fun k hk _ => Below.heap_alloc _ _ _ hk⟩
theorem Tch.putB {S : Nat → Prop} (w : World) {b : Nat} (hb : S b) (L : List Value) (T : TypeId) : Tch S w (putB w b L T) :=
  ⟨rfl, rfl, rfl, by simp [putB_size], fun k _ hn => putB_other (fun e => hn (by rw [e]; exact hb)) L T⟩
theorem Tch.setCell {S : Nat → Prop} (w : World) {a : Addr} (hb : S a.block) (v : Value) : Tch S w (w.setCell a v) :=
  ⟨rfl, rfl, rfl, by simp [World.setCell], fun k _ hn => Below.heap_setCell _ _ _ _ (fun e => hn (by rw [e]; exact hb))⟩
theorem Tch.of_below {S : Nat → Prop} {B : Nat} {w w' : World} (h : Below B w w') (hB : w.heap.size ≤ B) : Tch S w w' :=
  ⟨h.os, h.tape, h.output, h.size, fun k hk _ => h.block k (by omega)⟩
theorem Tch.below {w w' : World} (h : Tch (fun _ => False) w w') : Below w.heap.size w w' := ⟨h.os, h.tape, h.output, h.size, fun k hk => h.block k hk (fun e => e)⟩
theorem Tch.get {S : Nat → Prop} {w w' : World} (h : Tch S w w') {b : Nat} {L : List Value} {T : TypeId} (hb : Blk w b L T) (hn : ¬ S b) : Blk w' b L T := (h.block b hb.lt hn).trans hb

/-! ### Cells in rows -/
def spl (L : List Value) (o : Nat) (vs : List Value) : List Value := L.take o ++ vs ++ L.drop (o + vs.length)

theorem spl_length (L : List Value) (o : Nat) (vs : List Value) (h : o + vs.length ≤ L.length) : (spl L o vs).length = L.length := by
  simp [spl]; omega

theorem spl_cons (L : List Value) (o : Nat) (v : Value) (vs : List Value) (h : o + (v :: vs).length ≤ L.length) : spl (L.set o v) (o + 1) vs = spl L o (v :: vs) := by
  simp only [List.length_cons] at h
  unfold spl
  have h1 : (L.set o v).take (o + 1) = L.take o ++ [v] := by
    rw [List.take_add_one, List.take_set_of_le (Nat.le_refl _)]
    simp [show o < L.length by omega]
  have h2 : (L.set o v).drop (o + 1 + vs.length) = L.drop (o + (v :: vs).length) := by
    rw [List.drop_set_of_lt (by omega)]; simp [Nat.add_comm 1, Nat.add_assoc]
  rw [h1, h2]; simp

section
variable {P : Program}

theorem add_lit (b o i : Nat) : (⟨b, o, none⟩ : Addr).add i = ⟨b, o + i, none⟩ := by unfold Addr.add; split <;> simp_all

theorem run_store_blk (w : World) (b o : Nat) (L : List Value) (T : TypeId) (hb : Blk w b L T) (ho : o < L.length) (v : Value) (hv : v.oneCell' = true) :
    (store ⟨b, o, none⟩ v).run P w = .ok () (putB w b (L.set o v) T) := by
  rw [run_store P w _ v _ hv, hb.cell, List.getElem?_eq_getElem ho]
  simp only [hb.frozen, Bool.false_eq_true, if_false, setCell_putB hb]

theorem run_storeCells_blk (b o : Nat) (T : TypeId) : ∀ (vs : List Value) (i : Nat) (w : World) (L : List Value), Blk w b L T → o + i + vs.length ≤ L.length → (∀ v ∈ vs, v.oneCell' = true) →
    (storeCells ⟨b, o, none⟩ vs i).run P w = .ok () (putB w b (spl L (o + i) vs) T)
  | [], i, w, L, hb, _, _ => by
    have e : putB w b (spl L (o + i) []) T = w := by
      unfold putB spl
      simp only [List.append_nil, List.length_nil, Nat.add_zero, List.take_append_drop]
      cases w with
      | mk heap tape drawn os output =>
        congr 1
        unfold Blk at hb
        apply Array.ext_getElem?
        intro j
        simp only [Array.getElem?_setIfInBounds]
        by_cases e : b = j
        · subst e
          have hlt := Blk.lt (L := L) (T := T) hb
          simp only at hlt hb
          have h' : heap[b] = .cells L.toArray T (0, 0) := by simpa [hlt] using hb
          simp [hlt, h']
        · simp [e]
    simp only [storeCells, Sem.run_pure, e]
  | v :: vs, i, w, L, hb, hl, h1 => by
    simp only [List.length_cons] at hl
    simp only [storeCells, Sem.run_bind, add_lit]
    rw [run_store_blk w b (o + i) L T hb (by omega) v (h1 v (by simp))]
    simp only [Result.andThen_ok]
    rw [run_storeCells_blk b o T vs (i + 1) _ (L.set (o + i) v) (hb.putB_same _ _) (by simp; omega) (fun u hu => h1 u (by simp [hu]))]
    congr 1
    rw [← Nat.add_assoc, spl_cons L (o + i) v vs (by simp; omega)]
    unfold putB
    simp [Array.setIfInBounds_setIfInBounds]

theorem run_loadCells_blk (w : World) (b o n : Nat) (L : List Value) (T : TypeId) (hb : Blk w b L T) (h : o + n ≤ L.length) :
    (loadCells ⟨b, o, none⟩ n).run P w = .ok ((L.drop o).take n).toArray w := by
  have e : ((L.drop o).take n).length = n := by simp; omega
  have := run_loadCells_list (P := P) w ⟨b, o, none⟩ ((L.drop o).take n) (fun j v hv => by
    rw [add_lit, hb.cell]
    rw [List.getElem?_take] at hv
    split at hv
    · rw [List.getElem?_drop] at hv; exact hv
    · cases hv)
  rw [e] at this
  exact this
end
section
variable {P : Program}

/-- x has m elements (of 'size' cells each), and these are its cells -/
structure Src (P : Program) (w : World) (size : Nat) (x : Value) (m : Nat) (vs : List Value) : Prop where
  len : ∀ w' : World, (Builtin.lenOf x).run P w' = .ok m w'
  cells : ∀ k, k ≤ m → (Builtin.firstCells size k x).run P w = .ok (vs.take (k * size)).toArray w
  length : vs.length = m * size

theorem Src.nil (w : World) (size cap : Nat) : Src P w size (.slice none 0 cap) 0 [] :=
  ⟨fun _ => rfl, fun k hk => by simp [Builtin.firstCells], by simp⟩

/-- no element: whatever the address -/
theorem Src.empty (w : World) (size : Nat) (a : Option Addr) (cap : Nat) : Src P w size (.slice a 0 cap) 0 [] :=
  ⟨fun _ => rfl, fun k hk => by obtain rfl : k = 0 := by omega
                                cases a <;> simp [Builtin.firstCells, loadCells, loadCellsFrom], by simp⟩

theorem Src.blk {w : World} {b : Nat} {L : List Value} {T : TypeId} (hb : Blk w b L T) (size o m cap : Nat) (h : o + m * size ≤ L.length) :
    Src P w size (.slice (some ⟨b, o, none⟩) m cap) m ((L.drop o).take (m * size)) := by
  refine ⟨fun _ => rfl, fun k hk => ?_, by simp; omega⟩
  have hle : k * size ≤ m * size := Nat.mul_le_mul_right _ hk
  simp only [Builtin.firstCells]
  rw [run_loadCells_blk w b o (k * size) L T hb (by omega), List.take_take, Nat.min_eq_left hle]

theorem Src.drew {w : World} {size : Nat} {x : Value} {m : Nat} {vs : List Value} (h : ∀ w', w'.heap = w.heap → Src P w' size x m vs) : Src P w.drew size x m vs := h _ rfl

/-- the capacity that append takes at the least is not far above what is needed -/
theorem growBy_le (need : Nat) : ∀ (r c : Nat), c < need → Builtin.growBy need r c ≤ need + (need + 768) / 4
  | 0, c, h => by simp [Builtin.growBy]; omega
  | r + 1, c, h => by
    simp only [Builtin.growBy]
    rw [if_neg (by omega)]
    by_cases h' : c + (c + 768) / 4 < need
    · exact growBy_le need r _ h'
    · cases r with
      | zero => simp [Builtin.growBy]; omega
      | succ r => simp only [Builtin.growBy]; rw [if_pos (by omega)]; omega

theorem nextcap_le (need cap : Nat) (h : cap < need) : Builtin.nextslicecap need cap ≤ 2 * need + 192 := by
  unfold Builtin.nextslicecap
  split
  · omega
  · split
    · omega
    · have := growBy_le need 4 cap h; omega

theorem run_append_fit (w : World) {t t' ty e size : Nat} (h1 : P.underlying t = some (.slice e)) (h1' : P.underlying t' = some (.slice e)) (hi : (P.info? e).map (·.size) = some size)
    {b n cap : Nat} {L : List Value} {T : TypeId} (hb : Blk w b L T) {x : Value} {m : Nat} {vs : List Value} (hx : Src P w size x m vs)
    (h1c : ∀ v ∈ vs, v.oneCell' = true) (hfit : n + m ≤ cap) (hcap : (n + m) * size ≤ L.length) :
    (Builtin.append_ #[t, t'] ty #[.slice (some ⟨b, 0, none⟩) n cap, x]).run P w = .ok (.slice (some ⟨b, 0, none⟩) (n + m) cap) (putB w b (spl L (n * size) vs) T) := by
  obtain ⟨i, hi, hsz⟩ := Option.map_eq_some_iff.1 hi
  have hc := hx.cells m (Nat.le_refl _)
  rw [List.take_of_length_le (by rw [hx.length]; exact Nat.le_refl _)] at hc
  have hl := hx.length
  have hst : (storeCells ⟨b, 0 + n * size, none⟩ vs 0).run P w = .ok () (putB w b (spl L (0 + n * size + 0) vs) T) :=
    run_storeCells_blk (P := P) b (0 + n * size) T vs 0 w L hb (by rw [hl]; rw [Nat.add_mul] at hcap; omega) h1c
  simp only [Nat.zero_add, Nat.add_zero] at hst
  unfold Builtin.append_
  simp only [List.getElem?_toArray, List.getElem?_cons_zero, List.getElem?_cons_succ, Sem.run_bind, run_underlying h1, run_underlying h1', Result.andThen_ok, sizeOf, typeInfo, run_program, hi, Sem.run_pure,
    Bool.false_eq_true, if_false, hx.len, hsz, hc, Bool.not_false, if_true, hfit, Sem.run_ite, add_lit, hst, Nat.zero_add]

/-- the zero cells behind what was appended -/
def zs (z : Value) (k : Nat) : List Value := (Builtin.zeroCells z.cells k).toList
theorem zs_length (z : Value) (k : Nat) : (zs z k).length = k * z.cells.size := by simp [zs, Builtin.zeroCells]

theorem run_append_grow (w : World) {t t' ty e size bytes : Nat} {z : Value} (h1 : P.underlying t = some (.slice e)) (h1' : P.underlying t' = some (.slice e))
    (hi : (P.info? e).map (fun i => (i.zero, i.size, i.bytes)) = some (some z, size, bytes)) (hby : 0 < bytes)
    {base : Option Addr} {n cap : Nat} {old : List Value} (ho : Src P w.drew size (.slice base n cap) n old) {x : Value} {m : Nat} {vs : List Value} (hx : Src P w.drew size x m vs)
    (hgrow : cap < n + m) (hroom : (2 * (n + m) + 192) * bytes ≤ 281474976710656) :
    ∃ c, n + m ≤ c ∧ (Builtin.append_ #[t, t'] ty #[.slice base n cap, x]).run P w =
      .ok (.slice (some ⟨w.heap.size, 0, none⟩) (n + m) c) (w.drew.alloc (.cells (old ++ vs ++ zs z (c - (n + m))).toArray e)) := by
  obtain ⟨i, hi, hzz⟩ := Option.map_eq_some_iff.1 hi
  simp only [Prod.mk.injEq] at hzz
  obtain ⟨hz, hsz, hbb⟩ := hzz
  have hc := hx.cells m (Nat.le_refl _)
  rw [List.take_of_length_le (by rw [hx.length]; exact Nat.le_refl _)] at hc
  have hc0 := ho.cells n (Nat.le_refl _)
  rw [List.take_of_length_le (by rw [ho.length]; exact Nat.le_refl _)] at hc0
  have hnx : ¬ (Builtin.nextslicecap (n + m) cap * bytes > 281474976710656) := by
    have h1 := nextcap_le (n + m) cap hgrow
    have h2 := Nat.mul_le_mul_right bytes h1
    omega
  refine ⟨(Question.appendCap (n + m) cap e).cut (w.tape w.drawn (Question.appendCap (n + m) cap e)), by simp [Question.cut], ?_⟩
  unfold Builtin.append_
  have hnf : (Question.appendCap (n + m) cap e).forced = false := rfl
  have hw : ({ w with drawn := w.drawn + 1 } : World) = w.drew := rfl
  simp only [List.getElem?_toArray, List.getElem?_cons_zero, List.getElem?_cons_succ, Sem.run_bind, run_underlying h1, run_underlying h1', Result.andThen_ok, sizeOf, typeInfo, run_program, hi, Sem.run_pure,
    Bool.false_eq_true, if_false, hx.len, hsz, hc, hc0, Bool.not_false, if_true, Sem.run_ite, Nat.not_le.2 hgrow, hbb, hnx, false_or, hw,
    (show ¬ (bytes = 0) by omega), and_false, run_choose, hnf, run_askRoom, zeroValue, hz, newRow, run_newObj]
  have hcat : ∀ Z : Array Value, old.toArray ++ vs.toArray ++ Z = (old ++ vs ++ Z.toList).toArray := fun Z => by apply Array.ext'; simp
  rw [hcat]
  rfl

/-- append(s, make([]E, m)...): s grows by m zero elements -/
theorem run_append_make (w : World) {t t' ty e size bytes : Nat} {z : Value} (h1 : P.underlying t = some (.slice e)) (h1' : P.underlying t' = some (.int .i64))
    (hi : (P.info? e).map (fun i => (i.zero, i.size, i.bytes)) = some (some z, size, bytes)) (hby : 0 < bytes) (hsz0 : 0 < size)
    {base : Option Addr} {n cap : Nat} {old : List Value} (ho : Src P w.drew size (.slice base n cap) n old) {m : Nat}
    (hgrow : cap < n + m) (hm : 0 < m) (hroom : (2 * (n + m) + 192) * bytes ≤ 281474976710656) :
    ∃ c, n + m ≤ c ∧ (Builtin.append_ #[t, t'] ty #[.slice base n cap, .int .i64 m]).run P w =
      .ok (.slice (some ⟨w.heap.size, 0, none⟩) (n + m) c) (w.drew.alloc (.cells (old ++ zs z m ++ zs z (c - (n + m))).toArray e)) := by
  obtain ⟨i, hi, hzz⟩ := Option.map_eq_some_iff.1 hi
  simp only [Prod.mk.injEq] at hzz
  obtain ⟨hz, hsz, hbb⟩ := hzz
  have hc0 := ho.cells n (Nat.le_refl _)
  rw [List.take_of_length_le (by rw [ho.length]; exact Nat.le_refl _)] at hc0
  have hnx : ¬ (Builtin.nextslicecap (n + m) cap * bytes > 281474976710656) := by
    have h1 := nextcap_le (n + m) cap hgrow
    have h2 := Nat.mul_le_mul_right bytes h1
    omega
  have hb2 : n + m ≤ 281474976710656 := by
    have : (2 * (n + m) + 192) * 1 ≤ (2 * (n + m) + 192) * bytes := Nat.mul_le_mul_left _ hby
    omega
  have hmb : m * bytes ≤ 281474976710656 := by
    have : m * bytes ≤ (2 * (n + m) + 192) * bytes := Nat.mul_le_mul_right _ (by omega)
    omega
  have hmw : IntKind.i64.wrap (m : Int) = m := by
    rw [IntKind.wrap_i64]; omega
  refine ⟨(Question.appendCap (n + m) cap e).cut (w.tape w.drawn (Question.appendCap (n + m) cap e)), by simp [Question.cut], ?_⟩
  unfold Builtin.append_
  have hnf : (Question.appendCap (n + m) cap e).forced = false := rfl
  have hw : ({ w with drawn := w.drawn + 1 } : World) = w.drew := rfl
  have hne : ¬ (m * size = 0) := by
    have := Nat.mul_pos hm hsz0; omega
  have hmax : ¬ (((n + m : Nat) : Int) > IntKind.i64.max ∧ (True ∨ bytes = 0)) := by
    have : IntKind.i64.max = 9223372036854775807 := rfl
    rw [this]; omega
  have hmb' : ¬ ((m : Int) * (bytes : Int) > 281474976710656) := by
    have h3 : (m : Int) * (bytes : Int) = ((m * bytes : Nat) : Int) := by simp
    rw [h3]; omega
  simp only [List.getElem?_toArray, List.getElem?_cons_zero, List.getElem?_cons_succ, Sem.run_bind, run_underlying h1, run_underlying h1', Result.andThen_ok, sizeOf, typeInfo, run_program, hi, Sem.run_pure,
    Bool.false_eq_true, if_false, hsz, hc0, Bool.not_true, if_true, Sem.run_ite, Nat.not_le.2 hgrow, hbb, hnx, hw,
    run_choose, hnf, run_askRoom, zeroValue, hz, newRow, run_newObj, asInt, asIntOf, hmw, Int.toNat_natCast, hne,
    (show ¬ ((m : Int) < 0) by omega)]
  have h48 : ¬ ((m : Int) * (bytes : Int) > 2 ^ 48) := hmb'
  rw [if_neg h48]
  have hcat : ∀ Z Z' : Array Value, old.toArray ++ Z ++ Z' = (old ++ Z.toList ++ Z'.toList).toArray := fun Z Z' => by apply Array.ext'; simp
  rw [if_neg hmax]
  simp only [hcat]
  rfl

theorem run_copy_blk (w : World) {t t' ty e size : Nat} (h1 : P.underlying t = some (.slice e)) (hi : (P.info? e).map (·.size) = some size)
    {b o dl dc : Nat} {L : List Value} {T : TypeId} (hb : Blk w b L T) {x : Value} {m : Nat} {vs : List Value} (hx : Src P w size x m vs)
    {k : Nat} (hk : k = Nat.min m dl) {cs : List Value} (hcs : vs.take (k * size) = cs)
    (h1c : ∀ v ∈ cs, v.oneCell' = true) (hfit : o + k * size ≤ L.length) :
    (Builtin.copy_ #[t, t'] ty #[.slice (some ⟨b, o, none⟩) dl dc, x]).run P w = .ok (.int .i64 k) (putB w b (spl L o cs) T) := by
  obtain ⟨i, hi, hsz⟩ := Option.map_eq_some_iff.1 hi
  have hc := hx.cells k (hk ▸ Nat.min_le_left _ _)
  rw [hcs] at hc
  have hst := run_storeCells_blk (P := P) b o T cs 0 w L hb (by rw [← hcs]; simp; omega) h1c
  simp only [Nat.add_zero] at hst
  unfold Builtin.copy_
  simp only [List.getElem?_toArray, List.getElem?_cons_zero, List.getElem?_cons_succ, Sem.run_bind, run_underlying h1, Result.andThen_ok, sizeOf, typeInfo, run_program, hi, Sem.run_pure,
    hx.len, hsz, ← hk, hc, hst, goInt]

theorem run_clear_blk (w : World) {t ty e size : Nat} {z : Value} (h1 : P.underlying t = some (.slice e)) (hi : (P.info? e).map (fun i => (i.zero, i.size)) = some (some z, size)) (hzc : z.cells.size = size)
    (hz1 : ∀ k, ∀ v ∈ zs z k, v.oneCell' = true)
    {b o n cap : Nat} {L : List Value} {T : TypeId} (hb : Blk w b L T) (hfit : o + n * size ≤ L.length) :
    (Builtin.clear_ #[t] ty #[.slice (some ⟨b, o, none⟩) n cap]).run P w = .ok (.tuple #[]) (putB w b (spl L o (zs z n)) T) := by
  obtain ⟨i, hi, hzz⟩ := Option.map_eq_some_iff.1 hi
  simp only [Prod.mk.injEq] at hzz
  obtain ⟨hz, hsz⟩ := hzz
  cases n with
  | zero =>
    have e : putB w b (spl L o (zs z 0)) T = w := by
      have h0 := run_storeCells_blk (P := P) b o T [] 0 w L hb (by simp at hfit ⊢; omega) (by simp)
      simp only [storeCells, Sem.run_pure, Nat.add_zero] at h0
      have : zs z 0 = [] := by simp [zs, Builtin.zeroCells]
      rw [this]
      exact (Result.ok.inj h0).2.symm
    rw [e]
    unfold Builtin.clear_
    simp only [List.getElem?_toArray, List.getElem?_cons_zero, Sem.run_bind, run_underlying h1, Result.andThen_ok, Sem.run_pure]
  | succ n =>
    have hst := run_storeCells_blk (P := P) b o T (zs z (n + 1)) 0 w L hb (by rw [zs_length, hzc]; omega) (hz1 _)
    simp only [Nat.add_zero] at hst
    unfold Builtin.clear_
    simp only [List.getElem?_toArray, List.getElem?_cons_zero, Sem.run_bind, run_underlying h1, Result.andThen_ok, typeInfo, run_program, hi, Sem.run_pure, zeroValue, hz]
    simp only [zs] at hst ⊢
    rw [hst]
    rfl
end
end Go.Mm
