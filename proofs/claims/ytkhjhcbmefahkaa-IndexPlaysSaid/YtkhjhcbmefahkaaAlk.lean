/-
  Two indices beside one another, and other things beside both.
-/
import Derived.Test.YtkhjhcbmefahkaaOps
namespace Go.Proofs.Ytkhjhcbmefahkaa
open Go.RowKit Go.Mm Go.Lst

/-- two indices, with L and M; beside them the blocks E -/
def Both (w1 w : World) (xb ox yb oy : Nat) (L M : List Pair) (E : List Nat) : Prop := ∃ G, HasG w1 w xb ox L (G ++ E) ∧ Ix w yb oy M G ∧ (∀ y ∈ G, w1.heap.size ≤ y) ∧ ∀ y ∈ E, y ∉ G ∧ w1.heap.size ≤ y

section
variable {w1 w w' : World} {xb ox yb oy : Nat} {L M : List Pair} {E : List Nat}
theorem Both.quiet (h : Both w1 w xb ox yb oy L M E) (ht : Tch (fun _ => False) w w') : Both w1 w' xb ox yb oy L M E := by
  obtain ⟨G, h1, h2, h3, h4⟩ := h
  exact ⟨G, h1.quiet ht, h2.keep ht (fun _ _ h => h), h3, h4⟩
theorem Both.drop (h : Both w1 w xb ox yb oy L M E) : Both w1 w xb ox yb oy L M [] := by
  obtain ⟨G, h1, h2, h3, h4⟩ := h
  exact ⟨G, h1.mono (fun y hy => by simp at hy; simp [hy]), h2, h3, fun y hy => by cases hy⟩
/-- new blocks beside -/
theorem Both.add (h : Both w1 w xb ox yb oy L M []) (ht : Tch (fun _ => False) w w') {N : List Nat} (hN : ∀ y ∈ N, w.heap.size ≤ y ∧ y < w'.heap.size) : Both w1 w' xb ox yb oy L M N := by
  obtain ⟨G, h1, h2, h3, h4⟩ := h
  have h5 := h1.add ht hN
  rw [List.append_nil] at h5
  refine ⟨G, h5, h2.keep ht (fun _ _ h => h), h3, fun y hy => ⟨fun e => ?_, ?_⟩⟩
  · have := h2.lt y e; have := (hN y hy).1; omega
  · have := h1.here.size; have := (hN y hy).1; omega
theorem Both.srt1 (h : Both w1 w xb ox yb oy L M E) : Srt L := by obtain ⟨G, h1, _⟩ := h; exact h1.srt
theorem Both.here (h : Both w1 w xb ox yb oy L M E) : Tch (fun _ => False) w1 w := by obtain ⟨G, h1, _⟩ := h; exact h1.here
theorem Both.second (h : Both w1 w xb ox yb oy L M E) : Has w1 w yb oy M := by
  obtain ⟨G, h1, h2, h3, _⟩ := h
  exact ⟨G, h2, h3, h1.here⟩
theorem Both.first (h : Both w1 w xb ox yb oy L M E) : Has w1 w xb ox L := by
  obtain ⟨G, h1, h2, h3⟩ := h
  exact h1.has

def Free (w1 : World) (E : List Nat) (y : Nat) : Prop := w1.heap.size ≤ y ∧ y ∉ E

theorem put1 (h : Both w1 w xb ox yb oy L M E) (hl : L.length ≤ 1000000) (key : ByteArray) (n : Int) :
    Calls Try.prog 10 #[.pointer (some ⟨xb, 0, none⟩), .string key, .int .i64 n] w fun e w' => e = .returned (retv (lget key L)) ∧ Both w1 w' xb ox yb oy (lput key n L) M E ∧ Tch (Free w1 E) w w' := by
  obtain ⟨G, h1, h2, h3, h4⟩ := h
  refine (put_hasG h1 hl key n).mono ?_
  rintro e w' ⟨rfl, g1, g2⟩
  exact ⟨rfl, ⟨G, g1, h2.keep g2 (fun y hy h => h.2 (List.mem_append_left _ hy)), h3, h4⟩, g2.mono (fun y _ hy => ⟨hy.1, fun e => hy.2 (List.mem_append_right _ e)⟩)⟩
theorem drop1 (h : Both w1 w xb ox yb oy L M E) (hl : L.length ≤ 1000000) (key : ByteArray) :
    Calls Try.prog 16 #[.pointer (some ⟨xb, 0, none⟩), .string key] w fun e w' => e = .returned (retv (lget key L)) ∧ Both w1 w' xb ox yb oy (ldrop key L) M E ∧ Tch (Free w1 E) w w' := by
  obtain ⟨G, h1, h2, h3, h4⟩ := h
  refine (drop_hasG h1 hl key).mono ?_
  rintro e w' ⟨rfl, g1, g2⟩
  exact ⟨rfl, ⟨G, g1, h2.keep g2 (fun y hy h => h.2 (List.mem_append_left _ hy)), h3, h4⟩, g2.mono (fun y _ hy => ⟨hy.1, fun e => hy.2 (List.mem_append_right _ e)⟩)⟩
theorem turn2 {G G' : List Nat} {M' : List Pair} (h1 : HasG w1 w xb ox L (G ++ E)) (h3 : ∀ y ∈ G, w1.heap.size ≤ y) (h4 : ∀ y ∈ E, y ∉ G ∧ w1.heap.size ≤ y) (g1 : Ix w' yb oy M' G') (g2 : ∀ y ∈ G', y ∈ G ∨ w.heap.size ≤ y) (g3 : Tch (· ∈ G) w w') :
    Both w1 w' xb ox yb oy L M' E ∧ Tch (Free w1 E) w w' := by
  have hlt : ∀ y ∈ E, y < w.heap.size := by
    obtain ⟨F, _, _, h, _⟩ := h1
    exact fun y hy => (h y (List.mem_append_right _ hy)).2
  refine ⟨⟨G', h1.other (g3.mono (fun y _ h => List.mem_append_left _ h)) (fun y hy => (List.mem_append.1 hy).elim (h3 y) (fun h => (h4 y h).2)) (fun y hy => ?_), g1, fun y hy => (g2 y hy).elim (h3 y) (fun h => Nat.le_trans h1.here.size h), fun y hy => ⟨fun e => ?_, (h4 y hy).2⟩⟩, g3.mono (fun y _ hy => ⟨h3 y hy, fun e => (h4 y e).1 hy⟩)⟩
  · rcases List.mem_append.1 hy with hy | hy
    · exact ⟨(g2 y hy).imp (fun h => List.mem_append_left _ h) id, g1.lt y hy⟩
    · exact ⟨.inl (List.mem_append_right _ hy), Nat.lt_of_lt_of_le (hlt y hy) g3.size⟩
  · rcases g2 y e with h | h
    · exact (h4 y hy).1 h
    · have := hlt y hy; omega
theorem put2 (h : Both w1 w xb ox yb oy L M E) (hl : M.length ≤ 1000000) (key : ByteArray) (n : Int) :
    Calls Try.prog 10 #[.pointer (some ⟨yb, 0, none⟩), .string key, .int .i64 n] w fun e w' => e = .returned (retv (lget key M)) ∧ Both w1 w' xb ox yb oy L (lput key n M) E ∧ Tch (Free w1 E) w w' := by
  obtain ⟨G, h1, h2, h3, h4⟩ := h
  refine (iput_any h2 hl key n).mono ?_
  rintro e w' ⟨rfl, G', g1, g2, g3⟩
  exact ⟨rfl, turn2 h1 h3 h4 g1 g2 g3⟩
theorem drop2 (h : Both w1 w xb ox yb oy L M E) (hl : M.length ≤ 1000000) (key : ByteArray) :
    Calls Try.prog 16 #[.pointer (some ⟨yb, 0, none⟩), .string key] w fun e w' => e = .returned (retv (lget key M)) ∧ Both w1 w' xb ox yb oy L (ldrop key M) E ∧ Tch (Free w1 E) w w' := by
  obtain ⟨G, h1, h2, h3, h4⟩ := h
  refine (idrop_any h2 hl key).mono ?_
  rintro e w' ⟨rfl, G', g1, g2, g3⟩
  exact ⟨rfl, turn2 h1 h3 h4 g1 g2 g3⟩
end
theorem ldrop_le {key : ByteArray} {L : List Pair} {i : Nat} (h : L.length ≤ i) : (ldrop key L).length ≤ i + 1 := by
  have := List.length_filter_le (fun p : Pair => !(cmpB p.1 key == 0)) L
  unfold ldrop
  omega
end Go.Proofs.Ytkhjhcbmefahkaa
