/-
  Keys dropped one by one: plain lists.
-/
import Derived.Test.YtkhjhcbmefahkaaHsg
namespace Go.Proofs.Ytkhjhcbmefahkaa
open Go.RowKit Go.Mm Go.Lst

def dropAll (S L : List Pair) : List Pair := L.filter (fun p => S.all (fun s => !(cmpB p.1 s.1 == 0)))
theorem dropAll_nil (L : List Pair) : dropAll [] L = L := by simp [dropAll]
theorem dropAll_snoc (S L : List Pair) (k : Pair) : ldrop k.1 (dropAll S L) = dropAll (S ++ [k]) L := by
  unfold ldrop dropAll
  rw [List.filter_filter]
  congr 1
  funext p
  simp [Bool.and_comm]
theorem dropAll_srt {S L : List Pair} (h : Srt L) : Srt (dropAll S L) := List.Pairwise.filter _ h
theorem dropAll_le (S L : List Pair) : (dropAll S L).length ≤ L.length := List.length_filter_le _ _

theorem srt_inj {L : List Pair} (hs : Srt L) {p q : Pair} (hp : p ∈ L) (hq : q ∈ L) (h : cmpB p.1 q.1 = 0) : p = q := by
  have h1 := lget_mem hs (k := p.1) (m := p.2) hp
  have h2 := lget_mem hs (k := q.1) (m := q.2) hq
  have e := cmp_eq.1 h
  rw [e, h2] at h1
  exact Prod.ext e (by simpa using h1.symm)

theorem drop_next {L X : List Pair} (hs : Srt L) (hX : ∀ p ∈ X, p ∈ L) (hsx : Srt X) {i : Nat} {p : Pair} (hp : X[i]? = some p) : lget p.1 (dropAll (X.take i) L) = some p.2 := by
  refine lget_mem (dropAll_srt hs) (k := p.1) (m := p.2) (List.mem_filter.2 ⟨hX p (List.mem_of_getElem? hp), ?_⟩)
  rw [List.all_eq_true]
  intro s hsm
  obtain ⟨j, hj, e⟩ := List.mem_iff_getElem.1 hsm
  simp only [List.length_take] at hj
  rw [List.getElem_take] at e
  obtain ⟨hi, e2⟩ := List.getElem?_eq_some_iff.1 hp
  have := List.pairwise_iff_getElem.1 hsx j i (by omega) hi (by omega)
  rw [e, e2] at this
  rw [cmp_neg] at this
  simp; omega
theorem take_next {X : List Pair} {i : Nat} {p : Pair} (hp : X[i]? = some p) : X.take (i + 1) = X.take i ++ [p] := by
  rw [List.take_add_one, hp]; rfl

theorem dropAll_rng {L : List Pair} (hs : Srt L) (f t : ByteArray) : dropAll (rng f t L) L = L.filter (fun p => !inr f t p) := by
  unfold dropAll
  refine List.filter_congr (fun p hp => ?_)
  by_cases h : inr f t p = true
  · have e : ((rng f t L).all fun s => !(cmpB p.1 s.1 == 0)) = false := List.all_eq_false.2 ⟨p, List.mem_filter.2 ⟨hp, h⟩, by simp [cmp_self]⟩
    rw [h, e]; rfl
  · rw [List.all_eq_true.2 (fun s hsm => ?_)]
    · simp at h; simp [h]
    · have h2 := List.mem_filter.1 hsm
      simp only [Bool.not_eq_true', beq_eq_false_iff_ne, ne_eq]
      intro e
      rw [srt_inj hs hp h2.1 e] at h
      exact h h2.2
theorem rng_left {L : List Pair} (hs : Srt L) (f t : ByteArray) : rng f t (dropAll (rng f t L) L) = [] := by
  rw [dropAll_rng hs]
  unfold rng
  rw [List.filter_filter, List.filter_eq_nil_iff]
  intro p _
  simp
theorem len_parts {L : List Pair} (hs : Srt L) (f t : ByteArray) : L.length = (dropAll (rng f t L) L).length + (rng f t L).length := by
  rw [dropAll_rng hs]
  unfold rng
  have := List.length_eq_countP_add_countP (inr f t) (l := L)
  rw [List.countP_eq_length_filter, List.countP_eq_length_filter] at this
  have e : (L.filter fun a => decide ¬inr f t a = true) = L.filter (fun p => !inr f t p) := List.filter_congr (fun p _ => by cases inr f t p <;> rfl)
  rw [e] at this
  omega
theorem less_empty (k : ByteArray) : ¬ cmpB k ⟨#[]⟩ < 0 := by
  unfold cmpB
  cases k.data.toList <;> simp [Lib.compareBytes]
theorem rng_whole (L : List Pair) : rng ⟨#[]⟩ ⟨#[]⟩ L = L := by
  unfold rng
  rw [List.filter_eq_self]
  intro p _
  simp [inr, less_empty]
end Go.Proofs.Ytkhjhcbmefahkaa
