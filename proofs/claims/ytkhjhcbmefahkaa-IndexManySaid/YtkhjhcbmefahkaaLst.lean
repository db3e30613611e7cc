/-
  Plain lists of pairs by rising keys: the order of keys, put, drop, look up, range. No program in sight.
-/
import Derived.Lib.Bytealg
import GoSem.Op.String
namespace Go.Lst
open Go

abbrev Pair := ByteArray × Int

/-- how two keys stand to one another: below 0, 0, above 0 -/
def cmpB (a b : ByteArray) : Int := Lib.compareBytes a.data.toList b.data.toList

theorem cmpL_self : ∀ l : List UInt8, Lib.compareBytes l l = 0
  | [] => rfl
  | a :: l => by simp [Lib.compareBytes, cmpL_self l]

theorem cmpL_eq : ∀ a b : List UInt8, Lib.compareBytes a b = 0 → a = b
  | [], [], _ => rfl
  | [], _ :: _, h => by simp [Lib.compareBytes] at h
  | _ :: _, [], h => by simp [Lib.compareBytes] at h
  | x :: a, y :: b, h => by
    simp only [Lib.compareBytes] at h
    split at h
    · cases h
    · split at h
      · cases h
      · rename_i h1 h2
        have : x = y := UInt8.le_antisymm (UInt8.not_lt.1 h2) (UInt8.not_lt.1 h1)
        rw [this, cmpL_eq a b h]

theorem cmpL_neg : ∀ a b : List UInt8, Lib.compareBytes a b = - Lib.compareBytes b a
  | [], [] => rfl
  | [], _ :: _ => rfl
  | _ :: _, [] => rfl
  | x :: a, y :: b => by
    simp only [Lib.compareBytes]
    by_cases h1 : x < y
    · have h2 : ¬ y < x := fun h => UInt8.lt_irrefl _ (UInt8.lt_trans h1 h)
      simp [h1, h2]
    · by_cases h2 : y < x
      · simp [h1, h2]
      · simp [h1, h2, cmpL_neg a b]

theorem cmpL_trans : ∀ a b c : List UInt8, Lib.compareBytes a b < 0 → Lib.compareBytes b c < 0 → Lib.compareBytes a c < 0
  | [], [], _, h, _ => by simp [Lib.compareBytes] at h
  | [], _ :: _, [], _, h => by simp [Lib.compareBytes] at h
  | [], _ :: _, _ :: _, _, _ => by simp [Lib.compareBytes]
  | _ :: _, [], _, h, _ => by simp [Lib.compareBytes] at h
  | _ :: _, _ :: _, [], _, h => by simp [Lib.compareBytes] at h
  | x :: a, y :: b, z :: c, h, h' => by
    simp only [Lib.compareBytes] at h h' ⊢
    by_cases h1 : x < y
    · by_cases h2 : y < z
      · simp [UInt8.lt_trans h1 h2]
      · rw [if_neg h2] at h'
        by_cases h3 : z < y
        · rw [if_pos h3] at h'; omega
        · have : y = z := UInt8.le_antisymm (UInt8.not_lt.1 h3) (UInt8.not_lt.1 h2)
          subst this; simp [h1]
    · rw [if_neg h1] at h
      by_cases h2 : y < x
      · rw [if_pos h2] at h; omega
      · rw [if_neg h2] at h
        have : x = y := UInt8.le_antisymm (UInt8.not_lt.1 h2) (UInt8.not_lt.1 h1)
        subst this
        by_cases h3 : x < z
        · simp [h3]
        · rw [if_neg h3] at h' ⊢
          by_cases h4 : z < x
          · rw [if_pos h4] at h'; omega
          · rw [if_neg h4] at h' ⊢
            exact cmpL_trans a b c h h'

theorem cmp_self (a : ByteArray) : cmpB a a = 0 := cmpL_self _
theorem cmp_eq {a b : ByteArray} : cmpB a b = 0 ↔ a = b := ⟨fun h => by
  have := cmpL_eq _ _ h
  cases a; cases b
  simp only at this
  congr 1
  exact Array.toList_inj.1 this, fun h => h ▸ cmp_self a⟩
theorem cmp_neg (a b : ByteArray) : cmpB a b = - cmpB b a := cmpL_neg _ _
theorem cmp_trans {a b c : ByteArray} (h : cmpB a b < 0) (h' : cmpB b c < 0) : cmpB a c < 0 := cmpL_trans _ _ _ h h'

theorem less_iff : ∀ a b : List UInt8, Op.bytesLess a b = decide (Lib.compareBytes a b < 0)
  | [], [] => rfl
  | [], _ :: _ => rfl
  | _ :: _, [] => rfl
  | x :: a, y :: b => by
    simp only [Op.bytesLess, Lib.compareBytes]
    by_cases h1 : x < y
    · simp [h1]
    · by_cases h2 : y < x
      · have : x ≠ y := fun e => by subst e; exact h1 h2
        simp [h1, h2, this]
      · have : x = y := UInt8.le_antisymm (UInt8.not_lt.1 h2) (UInt8.not_lt.1 h1)
        subst this
        simp [less_iff a b]

/-! ### Rising keys -/
def Srt (l : List Pair) : Prop := l.Pairwise (fun p q => cmpB p.1 q.1 < 0)

/-- all keys of l are below k; all are above k -/
def Blw (l : List Pair) (k : ByteArray) : Prop := ∀ p ∈ l, cmpB p.1 k < 0
def Abv (l : List Pair) (k : ByteArray) : Prop := ∀ p ∈ l, cmpB k p.1 < 0

def lget (k : ByteArray) (l : List Pair) : Option Int := (l.find? (fun p => cmpB p.1 k == 0)).map (·.2)

def lput (k : ByteArray) (n : Int) : List Pair → List Pair
  | [] => [(k, n)]
  | p :: l => if cmpB p.1 k < 0 then p :: lput k n l else if cmpB p.1 k = 0 then (p.1, n) :: l else (k, n) :: p :: l

def ldrop (k : ByteArray) (l : List Pair) : List Pair := l.filter (fun p => !(cmpB p.1 k == 0))

theorem Srt.append {l m : List Pair} : Srt (l ++ m) ↔ Srt l ∧ Srt m ∧ ∀ p ∈ l, ∀ q ∈ m, cmpB p.1 q.1 < 0 := List.pairwise_append

theorem lget_append_left {k : ByteArray} {l m : List Pair} (h : ∀ p ∈ l, cmpB p.1 k ≠ 0) : lget k (l ++ m) = lget k m := by
  unfold lget
  rw [List.find?_append]
  have : l.find? (fun p => cmpB p.1 k == 0) = none := List.find?_eq_none.2 (fun p hp => by simp [h p hp])
  rw [this]; rfl
theorem lget_append_right {k : ByteArray} {l m : List Pair} (h : ∀ p ∈ m, cmpB p.1 k ≠ 0) : lget k (l ++ m) = lget k l := by
  unfold lget
  rw [List.find?_append]
  have : m.find? (fun p => cmpB p.1 k == 0) = none := List.find?_eq_none.2 (fun p hp => by simp [h p hp])
  rw [this]; simp
theorem Blw.ne {l : List Pair} {k : ByteArray} (h : Blw l k) : ∀ p ∈ l, cmpB p.1 k ≠ 0 := fun p hp e => by have := h p hp; omega
theorem Abv.ne {l : List Pair} {k : ByteArray} (h : Abv l k) : ∀ p ∈ l, cmpB p.1 k ≠ 0 := fun p hp e => by have := h p hp; rw [cmp_neg] at this; omega
theorem Abv.pos {l : List Pair} {k : ByteArray} (h : Abv l k) : ∀ p ∈ l, 0 < cmpB p.1 k := fun p hp => by have := h p hp; rw [cmp_neg] at this; omega

theorem lget_mid {k : ByteArray} {A B C : List Pair} (hA : Blw A k) (hC : Abv C k) : lget k (A ++ B ++ C) = lget k B := by
  rw [lget_append_right hC.ne, lget_append_left hA.ne]

theorem lput_left {k : ByteArray} {n : Int} {A B : List Pair} (hA : Blw A k) : lput k n (A ++ B) = A ++ lput k n B := by
  induction A with
  | nil => rfl
  | cons p A ih =>
    simp only [List.cons_append, lput]
    rw [if_pos (hA p (by simp)), ih (fun q hq => hA q (by simp [hq]))]
theorem lput_right {k : ByteArray} {n : Int} {B C : List Pair} (hC : Abv C k) : lput k n (B ++ C) = lput k n B ++ C := by
  induction B with
  | nil =>
    cases C with
    | nil => rfl
    | cons c C =>
      have := hC.pos c (by simp)
      simp only [List.nil_append, lput]
      rw [if_neg (by omega), if_neg (by omega)]; rfl
  | cons p B ih =>
    simp only [List.cons_append, lput]
    split
    · rw [ih]; rfl
    · split <;> rfl
theorem lput_mid {k : ByteArray} {n : Int} {A B C : List Pair} (hA : Blw A k) (hC : Abv C k) : lput k n (A ++ B ++ C) = A ++ lput k n B ++ C := by
  rw [lput_right hC, lput_left hA]

theorem ldrop_append (k : ByteArray) (l m : List Pair) : ldrop k (l ++ m) = ldrop k l ++ ldrop k m := by simp [ldrop]
theorem ldrop_id {k : ByteArray} {l : List Pair} (h : ∀ p ∈ l, cmpB p.1 k ≠ 0) : ldrop k l = l := by
  unfold ldrop
  exact List.filter_eq_self.2 (fun p hp => by simp [h p hp])
theorem ldrop_mid {k : ByteArray} {A B C : List Pair} (hA : Blw A k) (hC : Abv C k) : ldrop k (A ++ B ++ C) = A ++ ldrop k B ++ C := by
  rw [ldrop_append, ldrop_append, ldrop_id hA.ne, ldrop_id hC.ne]

/-- the key itself in the middle -/
theorem lget_here {k : ByteArray} {n : Int} {A C : List Pair} (hA : Blw A k) : lget k (A ++ (k, n) :: C) = some n := by
  rw [lget_append_left hA.ne]
  simp [lget, cmp_self]
theorem lput_here {k : ByteArray} {n m : Int} {A C : List Pair} (hA : Blw A k) : lput k n (A ++ (k, m) :: C) = A ++ (k, n) :: C := by
  rw [lput_left hA]
  simp [lput, cmp_self]
theorem ldrop_here {k : ByteArray} {n : Int} {A C : List Pair} (hA : Blw A k) (hC : Abv C k) : ldrop k (A ++ (k, n) :: C) = A ++ C := by
  rw [ldrop_append, ldrop_id hA.ne]
  have : ldrop k ((k, n) :: C) = C := by
    show List.filter _ _ = _
    rw [List.filter_cons]
    simp only [cmp_self]
    exact ldrop_id hC.ne
  rw [this]
/-- a key that isn't there -/
theorem lput_new {k : ByteArray} {n : Int} {A C : List Pair} (hA : Blw A k) (hC : Abv C k) : lput k n (A ++ C) = A ++ (k, n) :: C := by
  rw [lput_left hA]
  have := lput_right (n := n) (B := []) hC
  simp only [List.nil_append] at this
  rw [this]; rfl

/-! ### put, drop keep the order; what is there -/
theorem mem_lput {k : ByteArray} {n : Int} {l : List Pair} {q : Pair} (h : q ∈ lput k n l) : q = (k, n) ∨ q ∈ l ∨ (∃ p ∈ l, q.1 = p.1) := by
  induction l with
  | nil => simp [lput] at h; exact .inl h
  | cons p l ih =>
    simp only [lput] at h
    split at h
    · rcases List.mem_cons.1 h with h | h
      · exact .inr (.inl (by simp [h]))
      · rcases ih h with h | h | ⟨p', hp', h⟩
        · exact .inl h
        · exact .inr (.inl (by simp [h]))
        · exact .inr (.inr ⟨p', by simp [hp'], h⟩)
    · split at h
      · rcases List.mem_cons.1 h with h | h
        · exact .inr (.inr ⟨p, by simp, by simp [h]⟩)
        · exact .inr (.inl (by simp [h]))
      · rcases List.mem_cons.1 h with h | h
        · exact .inl h
        · exact .inr (.inl h)

/-- every key of a put list is k or was there -/
theorem key_lput {k : ByteArray} {n : Int} {l : List Pair} {q : Pair} (h : q ∈ lput k n l) : q.1 = k ∨ ∃ p ∈ l, q.1 = p.1 := by
  rcases mem_lput h with h | h | h
  · exact .inl (by rw [h])
  · exact .inr ⟨q, h, rfl⟩
  · exact .inr h

theorem Srt.lput {k : ByteArray} {n : Int} {l : List Pair} (h : Srt l) : Srt (lput k n l) := by
  induction l with
  | nil => simp [Lst.lput, Srt]
  | cons p l ih =>
    have hp := List.pairwise_cons.1 h
    simp only [Lst.lput]
    split
    · rename_i hlt
      refine List.pairwise_cons.2 ⟨fun q hq => ?_, ih hp.2⟩
      rcases key_lput hq with e | ⟨p', hp', e⟩
      · rw [e]; exact hlt
      · rw [e]; exact hp.1 p' hp'
    · split
      · exact List.pairwise_cons.2 ⟨fun q hq => hp.1 q hq, hp.2⟩
      · rename_i h1 h2
        have hk : cmpB k p.1 < 0 := by rw [cmp_neg]; omega
        refine List.pairwise_cons.2 ⟨fun q hq => ?_, h⟩
        rcases List.mem_cons.1 hq with e | hq
        · rw [e]; exact hk
        · exact cmp_trans hk (hp.1 q hq)

theorem Srt.ldrop {k : ByteArray} {l : List Pair} (h : Srt l) : Srt (ldrop k l) := List.Pairwise.filter _ h

theorem lget_lput_same (k : ByteArray) (n : Int) (l : List Pair) : lget k (lput k n l) = some n := by
  induction l with
  | nil => simp [lput, lget, cmp_self]
  | cons p l ih =>
    simp only [lput]
    split
    · rename_i h
      unfold lget at ih ⊢
      rw [List.find?_cons_of_neg (by simp; omega)]; exact ih
    · split
      · rename_i h; simp [lget, h]
      · simp [lget, cmp_self]

theorem lget_none {k : ByteArray} {l : List Pair} : lget k l = none ↔ ∀ p ∈ l, cmpB p.1 k ≠ 0 := by
  unfold lget
  rw [Option.map_eq_none_iff, List.find?_eq_none]
  simp

theorem lput_length {k : ByteArray} {n : Int} {l : List Pair} (hs : Srt l) : (lput k n l).length = if (lget k l).isSome then l.length else l.length + 1 := by
  induction l with
  | nil => rfl
  | cons p l ih =>
    have hp := List.pairwise_cons.1 hs
    simp only [lput]
    split
    · rename_i h
      have e : lget k (p :: l) = lget k l := lget_append_left (l := [p]) (m := l) (fun q hq => by simp at hq; subst hq; omega)
      rw [List.length_cons, ih hp.2, e]
      split <;> simp
    · split
      · rename_i h
        have e : lget k (p :: l) = some p.2 := by simp [lget, h]
        rw [e]; simp
      · rename_i h1 h2
        have hk : cmpB k p.1 < 0 := by rw [cmp_neg]; omega
        have hab : Abv (p :: l) k := fun q hq => by
          rcases List.mem_cons.1 hq with e | hq
          · rw [e]; exact hk
          · exact cmp_trans hk (hp.1 q hq)
        rw [lget_none.2 hab.ne]; simp

theorem ldrop_length {k : ByteArray} {l : List Pair} (hs : Srt l) : (ldrop k l).length = if (lget k l).isSome then l.length - 1 else l.length := by
  induction l with
  | nil => rfl
  | cons p l ih =>
    have hp := List.pairwise_cons.1 hs
    by_cases h : cmpB p.1 k = 0
    · have e : lget k (p :: l) = some p.2 := by simp [lget, h]
      obtain rfl : p.1 = k := cmp_eq.1 h
      have := ldrop_here (k := p.1) (n := p.2) (A := []) (C := l) (fun q hq => by cases hq) (fun q hq => hp.1 q hq)
      simp only [List.nil_append] at this
      rw [e, show p :: l = (p.1, p.2) :: l from rfl, this]; simp
    · have e : lget k (p :: l) = lget k l := lget_append_left (l := [p]) (m := l) (fun q hq => by simp at hq; subst hq; exact h)
      have e2 : ldrop k (p :: l) = p :: ldrop k l := by unfold ldrop; rw [List.filter_cons_of_pos (by simp [h])]
      rw [e, e2, List.length_cons, ih hp.2]
      cases hl : lget k l with
      | none => simp
      | some v =>
        have : l ≠ [] := by rintro rfl; cases hl
        have : 0 < l.length := List.length_pos_iff.2 this
        simp; omega
end Go.Lst
