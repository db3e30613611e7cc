/-
  Keys made of numbers: which of them are in a row. Plain lists.
-/
import Derived.Test.YtkhjhcbmefahkaaKey
namespace Go.Proofs.Ytkhjhcbmefahkaa
open Go.RowKit Go.Mm Go.Lst

/-- the row has just the keys of the numbers in S, each with its number -/
def KB (S : Nat → Prop) (L : List Pair) : Prop := Srt L ∧ (∀ p ∈ L, ∃ m : Nat, S m ∧ m ≤ 1000 ∧ p = (keyS m, (m : Int))) ∧ ∀ m, S m → (keyS m, (m : Int)) ∈ L

theorem KB.nil : KB (fun _ => False) [] := ⟨List.Pairwise.nil, (fun p hp => by cases hp), (fun m (h : False) => h.elim)⟩
theorem KB.congr {S S' : Nat → Prop} {L : List Pair} (h : KB S L) (he : ∀ m, S m ↔ S' m) : KB S' L :=
  ⟨h.1, fun p hp => by obtain ⟨m, h1, h2⟩ := h.2.1 p hp; exact ⟨m, (he m).1 h1, h2⟩, fun m hm => h.2.2 m ((he m).2 hm)⟩
theorem KB.get {S : Nat → Prop} {L : List Pair} (h : KB S L) {m : Nat} (hm : S m) : lget (keyS m) L = some (m : Int) := lget_mem h.1 (h.2.2 m hm)
theorem KB.not {S : Nat → Prop} {L : List Pair} (h : KB S L) {m : Nat} (hl : m ≤ 1000) (hm : ¬ S m) : lget (keyS m) L = none := by
  refine lget_none.2 (fun p hp e => ?_)
  obtain ⟨a, h1, h2, rfl⟩ := h.2.1 p hp
  exact hm (key_inj h2 hl (cmp_eq.1 e) ▸ h1)
theorem KB.put {S : Nat → Prop} {L : List Pair} (h : KB S L) {m : Nat} (hl : m ≤ 1000) (hm : ¬ S m) : KB (fun x => S x ∨ x = m) (lput (keyS m) m L) ∧ (lput (keyS m) m L).length = L.length + 1 := by
  have hn := h.not hl hm
  rcases split_exists (keyS m) h.1 with ⟨A, k, C, hL, hA, hC⟩ | ⟨A, C, hL, hA, hC⟩
  · rw [hL, lget_here hA] at hn; cases hn
  · have e := lput_new (n := (m : Int)) hA hC
    rw [← hL] at e
    refine ⟨⟨h.1.lput, fun p hp => ?_, fun x hx => ?_⟩, by rw [e, hL]; simp; omega⟩
    · rw [e] at hp
      simp only [List.mem_append, List.mem_cons] at hp
      rcases hp with hp | rfl | hp
      · obtain ⟨a, h1, h2⟩ := h.2.1 p (by rw [hL]; simp [hp]); exact ⟨a, .inl h1, h2⟩
      · exact ⟨m, .inr rfl, hl, rfl⟩
      · obtain ⟨a, h1, h2⟩ := h.2.1 p (by rw [hL]; simp [hp]); exact ⟨a, .inl h1, h2⟩
    · rw [e]
      rcases hx with hx | rfl
      · have := h.2.2 x hx
        rw [hL] at this
        simp only [List.mem_append, List.mem_cons] at this ⊢
        exact this.imp id .inr
      · simp
theorem KB.drop {S : Nat → Prop} {L : List Pair} (h : KB S L) {m : Nat} (hl : m ≤ 1000) (hb : ∀ x, S x → x ≤ 1000) (hm : S m) : KB (fun x => S x ∧ x ≠ m) (ldrop (keyS m) L) ∧ (ldrop (keyS m) L).length + 1 = L.length := by
  have hg := h.get hm
  rcases split_exists (keyS m) h.1 with ⟨A, k, C, hL, hA, hC⟩ | ⟨A, C, hL, hA, hC⟩
  · have e : ldrop (keyS m) L = A ++ C := by rw [hL, ldrop_here hA hC]
    refine ⟨⟨h.1.ldrop, fun p hp => ?_, fun x hx => ?_⟩, by rw [e, hL]; simp; omega⟩
    · rw [e] at hp
      have hp2 : p ∈ L := by rw [hL]; simp only [List.mem_append, List.mem_cons] at hp ⊢; exact hp.imp id .inr
      obtain ⟨a, h1, h2, rfl⟩ := h.2.1 p hp2
      refine ⟨a, ⟨h1, fun e2 => ?_⟩, h2, rfl⟩
      subst e2
      rcases List.mem_append.1 hp with hp | hp
      · have := hA _ hp; rw [cmp_self] at this; omega
      · have := hC _ hp; rw [cmp_self] at this; omega
    · rw [e]
      have := h.2.2 x hx.1
      rw [hL] at this
      simp only [List.mem_append, List.mem_cons] at this ⊢
      rcases this with h3 | h3 | h3
      · exact .inl h3
      · exact (hx.2 (key_inj (hb x hx.1) hl (congrArg Prod.fst h3))).elim
      · exact .inr h3
  · rw [hL, lget_append_left hA.ne, lget_none.2 hC.ne] at hg; cases hg

/-- numbers that rise, as many as there are below n, are all of them -/
theorem all_there : ∀ (n : Nat) (l : List Nat), l.Pairwise (· < ·) → (∀ x ∈ l, x < n) → l.length = n → ∀ m < n, m ∈ l
  | 0, _, _, _, _, m, hm => by omega
  | n + 1, l, hp, hx, hl, m, hm => by
    have hne : l ≠ [] := by intro e; rw [e] at hl; simp at hl
    have hd := List.dropLast_concat_getLast hne
    generalize l.dropLast = l' at hd
    generalize l.getLast hne = x at hd
    subst hd
    have h1 := List.pairwise_append.1 hp
    have hlt : ∀ y ∈ l', y < x := fun y hy => h1.2.2 y hy x (by simp)
    have hxn := hx x (by simp)
    have hl' : l'.length = n := by simp at hl; omega
    have ih := all_there n l' h1.1 (fun y hy => by have := hlt y hy; omega) hl'
    by_cases e : m < n
    · exact List.mem_append_left _ (ih m e)
    · have hxe : n ≤ x := by
        cases n with
        | zero => omega
        | succ k => have := hlt k (ih k (by omega)); omega
      have : m = x := by omega
      simp [this]
theorem KB.rise {S : Nat → Prop} {L : List Pair} (h : KB S L) : (L.map (fun p => p.2.toNat)).Pairwise (· < ·) := by
  rw [List.pairwise_map]
  refine List.Pairwise.imp_of_mem (fun {p q} hp hq hlt => ?_) h.1
  obtain ⟨a, _, ha, rfl⟩ := h.2.1 p hp
  obtain ⟨b, _, hb, rfl⟩ := h.2.1 q hq
  simp only [Int.toNat_natCast]
  rcases Nat.lt_trichotomy a b with h1 | h1 | h1
  · exact h1
  · subst h1; rw [cmp_self] at hlt; omega
  · have := key_less h1 ha
    rw [cmp_neg] at this
    simp only at hlt
    omega
theorem KB.full {S : Nat → Prop} {L : List Pair} {n : Nat} (h : KB S L) (hS : ∀ m, S m → m < n) (hl : L.length = n) : KB (fun m => m < n) L := by
  have hall := all_there n _ h.rise (fun x hx => by
    obtain ⟨p, hp, rfl⟩ := List.mem_map.1 hx
    obtain ⟨a, ha, _, rfl⟩ := h.2.1 p hp
    simpa using hS a ha) (by simp [hl])
  refine ⟨h.1, fun p hp => ?_, fun m hm => ?_⟩
  · obtain ⟨a, ha, h2⟩ := h.2.1 p hp
    exact ⟨a, hS a ha, h2⟩
  · obtain ⟨p, hp, e⟩ := List.mem_map.1 (hall m hm)
    obtain ⟨a, _, _, rfl⟩ := h.2.1 p hp
    simp only [Int.toNat_natCast] at e
    subst e
    exact hp

/-- the places that have been come to -/
def Vis (s n i m : Nat) : Prop := ∃ j, j < i ∧ m = j * s % n
theorem vis_new {s n i : Nat} (hg : Nat.gcd s n = 1) (hi : i < n) : ¬ Vis s n i (i * s % n) := by
  rintro ⟨j, hj, e⟩
  have h1 : (i * s - j * s) % n = 0 := Nat.sub_mod_eq_zero_of_mod_eq e
  rw [← Nat.sub_mul] at h1
  have h2 : n ∣ (i - j) * s := Nat.dvd_of_mod_eq_zero h1
  have h3 : n ∣ i - j := Nat.Coprime.dvd_of_dvd_mul_right (show Nat.Coprime n s by rw [Nat.coprime_iff_gcd_eq_one, Nat.gcd_comm]; exact hg) h2
  have := Nat.le_of_dvd (by omega) h3
  omega
theorem vis_succ {s n i m : Nat} : Vis s n (i + 1) m ↔ Vis s n i m ∨ m = i * s % n := by
  constructor
  · rintro ⟨j, hj, e⟩
    by_cases h : j = i
    · subst h; exact .inr e
    · exact .inl ⟨j, by omega, e⟩
  · rintro (⟨j, hj, e⟩ | e)
    · exact ⟨j, by omega, e⟩
    · exact ⟨i, by omega, e⟩
theorem vis_next (s n i : Nat) : (i * s % n + s) % n = (i + 1) * s % n := by rw [Nat.mod_add_mod, Nat.succ_mul]
theorem vis_zero {s n m : Nat} : ¬ Vis s n 0 m := by rintro ⟨j, hj, _⟩; omega
theorem vis_lt {s n i m : Nat} (hn : 0 < n) (h : Vis s n i m) : m < n := by obtain ⟨j, _, rfl⟩ := h; exact Nat.mod_lt _ hn
end Go.Proofs.Ytkhjhcbmefahkaa
