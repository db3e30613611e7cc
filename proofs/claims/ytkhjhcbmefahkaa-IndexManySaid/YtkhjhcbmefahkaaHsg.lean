/-
  An index beside other things in memory: the calls on it leave those as they are.
-/
import Derived.Test.YtkhjhcbmefahkaaSam
import Derived.Test.YtkhjhcbmefahkaaIdd
import Derived.Test.YtkhjhcbmefahkaaRan
namespace Go.Proofs.Ytkhjhcbmefahkaa
open Go.RowKit Go.Mm Go.Lst

theorem Ix.keep {w w' : World} {xb order : Nat} {L : List Pair} {F : List Nat} {S : Nat → Prop} (h : Ix w xb order L F) (ht : Tch S w w') (hs : ∀ y ∈ F, ¬ S y) : Ix w' xb order L F := by
  obtain ⟨h, t, rfl, h1, h2, h3, h4⟩ := h
  exact ⟨h, t, rfl, h1, ht.get h2 (hs _ (by simp)), TAt.tch ht _ _ h3 (fun y hy => hs y (by simp [hy])), h4⟩
theorem Ix.lt {w : World} {xb order : Nat} {L : List Pair} {F : List Nat} (h : Ix w xb order L F) : ∀ y ∈ F, y < w.heap.size := by
  obtain ⟨h, t, rfl, h1, h2, h3, h4⟩ := h
  intro y hy
  rcases List.mem_cons.1 hy with rfl | hy
  · exact h2.lt
  · exact TAt.lt _ _ h3 y hy
theorem Ix.srt {w : World} {xb order : Nat} {L : List Pair} {F : List Nat} (h : Ix w xb order L F) : Srt L := by
  obtain ⟨_, _, _, _, _, _, _, _, _, _, _, hs, _⟩ := h
  exact hs

/-- an index made since w0, beside the blocks G -/
def HasG (w0 w : World) (xb order : Nat) (L : List Pair) (G : List Nat) : Prop :=
  ∃ F, Ix w xb order L F ∧ (∀ y ∈ F, w0.heap.size ≤ y) ∧ (∀ y ∈ G, y ∉ F ∧ y < w.heap.size) ∧ Tch (fun _ => False) w0 w

section
variable {w0 w w' : World} {xb order : Nat} {L : List Pair} {G : List Nat}
theorem HasG.has (h : HasG w0 w xb order L G) : Has w0 w xb order L := by
  obtain ⟨F, h1, h2, _, h3⟩ := h; exact ⟨F, h1, h2, h3⟩
theorem HasG.srt (h : HasG w0 w xb order L G) : Srt L := by obtain ⟨F, h1, _⟩ := h; exact h1.srt
theorem HasG.here (h : HasG w0 w xb order L G) : Tch (fun _ => False) w0 w := by obtain ⟨F, _, _, _, h⟩ := h; exact h
theorem HasG.mono (h : HasG w0 w xb order L G) {G' : List Nat} (hg : ∀ y ∈ G', y ∈ G) : HasG w0 w xb order L G' := by
  obtain ⟨F, h1, h2, h3, h4⟩ := h; exact ⟨F, h1, h2, fun y hy => h3 y (hg y hy), h4⟩
theorem HasG.of_has (h : Has w0 w xb order L) : HasG w0 w xb order L [] := by
  obtain ⟨F, h1, h2, h3⟩ := h; exact ⟨F, h1, h2, (fun y hy => by cases hy), h3⟩
theorem HasG.quiet (h : HasG w0 w xb order L G) (ht : Tch (fun _ => False) w w') : HasG w0 w' xb order L G := by
  obtain ⟨F, h1, h2, h3, h4⟩ := h
  exact ⟨F, h1.keep ht (fun _ _ h => h), h2, fun y hy => ⟨(h3 y hy).1, Nat.lt_of_lt_of_le (h3 y hy).2 ht.size⟩, h4.trans ht (fun _ _ h => h)⟩
/-- new blocks join those beside -/
theorem HasG.add (h : HasG w0 w xb order L G) (ht : Tch (fun _ => False) w w') {N : List Nat} (hN : ∀ y ∈ N, w.heap.size ≤ y ∧ y < w'.heap.size) : HasG w0 w' xb order L (G ++ N) := by
  obtain ⟨F, h1, h2, h3, h4⟩ := h
  refine ⟨F, h1.keep ht (fun _ _ h => h), h2, fun y hy => ?_, h4.trans ht (fun _ _ h => h)⟩
  rcases List.mem_append.1 hy with hy | hy
  · exact ⟨(h3 y hy).1, Nat.lt_of_lt_of_le (h3 y hy).2 ht.size⟩
  · exact ⟨fun e => by have := h1.lt y e; have := (hN y hy).1; omega, (hN y hy).2⟩
/-- what lies beside has turned -/
theorem HasG.other (h : HasG w0 w xb order L G) (ht : Tch (· ∈ G) w w') (h0 : ∀ y ∈ G, w0.heap.size ≤ y) {G' : List Nat} (hG : ∀ y ∈ G', (y ∈ G ∨ w.heap.size ≤ y) ∧ y < w'.heap.size) : HasG w0 w' xb order L G' := by
  obtain ⟨F, h1, h2, h3, h4⟩ := h
  refine ⟨F, h1.keep ht (fun y hy h => (h3 y h).1 hy), h2, fun y hy => ⟨fun e => ?_, (hG y hy).2⟩, h4.trans ht (fun y hy h => by have := h0 y h; omega)⟩
  rcases (hG y hy).1 with h | h
  · exact (h3 y h).1 e
  · have := h1.lt y e; omega

theorem HasG.call (h : HasG w0 w xb order L G) {L' : List Pair} (hc : ∀ F, Ix w xb order L F → ∃ F', Ix w' xb order L' F' ∧ (∀ y ∈ F', y ∈ F ∨ w.heap.size ≤ y) ∧ Tch (· ∈ F) w w') : HasG w0 w' xb order L' G ∧ Tch (fun y => w0.heap.size ≤ y ∧ y ∉ G) w w' := by
  obtain ⟨F, h1, h2, h3, h4⟩ := h
  obtain ⟨F', g1, g2, g3⟩ := hc F h1
  refine ⟨⟨F', g1, fun y hy => ?_, fun y hy => ⟨fun e => ?_, Nat.lt_of_lt_of_le (h3 y hy).2 g3.size⟩, h4.trans g3 (fun y hy h => by have := h2 y h; omega)⟩, g3.mono (fun y _ hy => ⟨h2 y hy, fun e => (h3 y e).1 hy⟩)⟩
  · rcases g2 y hy with h | h
    · exact h2 y h
    · exact Nat.le_trans h4.size h
  · rcases g2 y e with h | h
    · exact (h3 y hy).1 h
    · have := (h3 y hy).2; omega

theorem put_hasG (h : HasG w0 w xb order L G) (hlen : L.length ≤ 1000000) (key : ByteArray) (n : Int) :
    Calls Try.prog 10 #[.pointer (some ⟨xb, 0, none⟩), .string key, .int .i64 n] w fun e w' => e = .returned (retv (lget key L)) ∧ HasG w0 w' xb order (lput key n L) G ∧ Tch (fun y => w0.heap.size ≤ y ∧ y ∉ G) w w' := by
  obtain ⟨F, h1, h2, h3, h4⟩ := h
  refine (iput_any h1 hlen key n).mono ?_
  rintro e w' ⟨rfl, F', g1, g2, g3⟩
  refine ⟨rfl, ⟨F', g1, fun y hy => ?_, fun y hy => ⟨fun e => ?_, Nat.lt_of_lt_of_le (h3 y hy).2 g3.size⟩, h4.trans g3 (fun y hy h => by have := h2 y h; omega)⟩, g3.mono (fun y _ hy => ⟨h2 y hy, fun e => (h3 y e).1 hy⟩)⟩
  · rcases g2 y hy with h | h
    · exact h2 y h
    · exact Nat.le_trans h4.size h
  · rcases g2 y e with h | h
    · exact (h3 y hy).1 h
    · have := (h3 y hy).2; omega
theorem drop_hasG (h : HasG w0 w xb order L G) (hlen : L.length ≤ 1000000) (key : ByteArray) :
    Calls Try.prog 16 #[.pointer (some ⟨xb, 0, none⟩), .string key] w fun e w' => e = .returned (retv (lget key L)) ∧ HasG w0 w' xb order (ldrop key L) G ∧ Tch (fun y => w0.heap.size ≤ y ∧ y ∉ G) w w' := by
  obtain ⟨F, h1, h2, h3, h4⟩ := h
  refine (idrop_any h1 hlen key).mono ?_
  rintro e w' ⟨rfl, F', g1, g2, g3⟩
  refine ⟨rfl, ⟨F', g1, fun y hy => ?_, fun y hy => ⟨fun e => ?_, Nat.lt_of_lt_of_le (h3 y hy).2 g3.size⟩, h4.trans g3 (fun y hy h => by have := h2 y h; omega)⟩, g3.mono (fun y _ hy => ⟨h2 y hy, fun e => (h3 y e).1 hy⟩)⟩
  · rcases g2 y hy with h | h
    · exact h2 y h
    · exact Nat.le_trans h4.size h
  · rcases g2 y e with h | h
    · exact (h3 y hy).1 h
    · have := (h3 y hy).2; omega
end

/-- one of n things -/
def AmongPost (n : Int) (w : World) (e : Ending) (w' : World) : Prop := ∃ r : Nat, e = .returned (.int .i64 r) ∧ (r : Int) < n ∧ w = w'
set_option maxHeartbeats 400000 in
theorem among_any (c n : Int) (w : World) (h0 : -9223372036854775808 ≤ c) (h1 : c ≤ 9223372036854775807) (hn : 1 ≤ n) (hn1 : n ≤ 1000000) : Calls Try.prog 23 #[.int .i64 c, .int .i64 n] w (AmongPost n w) := by
  have hz : (n == 0) = false := by rw [beq_eq_false_iff_ne]; omega
  by_cases hc : c < 0
  · have hd : decide (c < 0) = true := by simpa using hc
    have q0 : (0 : Int) ≤ -(c + 1) := by omega
    have hfin : Hid (AmongPost n w (.returned (.int .i64 (-((c + 1).tmod n)))) w) := by
      rw [← Int.neg_tmod, Int.tmod_eq_emod_of_nonneg q0]
      exact ⟨(-(c + 1) % n).toNat, by rw [Int.toNat_of_nonneg (Int.emod_nonneg _ (by omega))], by rw [Int.toNat_of_nonneg (Int.emod_nonneg _ (by omega))]; exact Int.emod_lt_of_pos _ (by omega), rfl⟩
    go_enter Try.func23, Try.ntmps23
    go_wp2_with fail
    go_ret
    exact hfin.out
  · have hd : decide (c < 0) = false := by simpa using hc
    have q0 : (0 : Int) ≤ c := by omega
    have hfin : Hid (AmongPost n w (.returned (.int .i64 (c % n))) w) := ⟨(c % n).toNat, by rw [Int.toNat_of_nonneg (Int.emod_nonneg _ (by omega))], by rw [Int.toNat_of_nonneg (Int.emod_nonneg _ (by omega))]; exact Int.emod_lt_of_pos _ (by omega), rfl⟩
    go_enter Try.func23, Try.ntmps23
    go_wp2_with fail
    go_ret
    exact hfin.out
end Go.Proofs.Ytkhjhcbmefahkaa
