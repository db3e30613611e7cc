/-
  The loop that drops: what one round of it does, call by call.
-/
import Derived.Test.YtkhjhcbmefahkaaKya
import Derived.Test.YtkhjhcbmefahkaaOwn
import Derived.Test.YtkhjhcbmefahkaaHsg
import Derived.Test.YtkhjhcbmefahkaaDee
namespace Go.Proofs.Ytkhjhcbmefahkaa
open Go.RowKit Go.Mm Go.Lst Go.Shelf

def M2St (w1 : World) (xb o n s D i : Nat) (wr : World) : Prop :=
  ∃ L, HasG w1 wr xb o L [D] ∧ KB (fun m => m < n ∧ ¬ Vis s n i m) L ∧ L.length + i = n ∧ wr.heap[D]? = some (.deferred (some []))

section
variable {w1 wr : World} {xb o n s D i : Nat}
theorem M2St.quiet (h : M2St w1 xb o n s D i wr) {w' : World} (ht : Tch (fun _ => False) wr w') : M2St w1 xb o n s D i w' := by
  obtain ⟨L, h1, h2, h3, h4⟩ := h
  refine ⟨L, h1.quiet ht, h2, h3, (ht.block D ?_ (fun h => h)).trans h4⟩
  exact (Array.getElem?_eq_some_iff.1 h4).1
theorem M2St.here (h : M2St w1 xb o n s D i wr) : Tch (fun _ => False) w1 wr := by obtain ⟨L, h1, _⟩ := h; exact h1.here
theorem M2St.obj (h : M2St w1 xb o n s D i wr) : wr.heap[D]? = some (.deferred (some [])) := by obtain ⟨L, _, _, _, h⟩ := h; exact h
theorem st_drop (hn : n ≤ 600) (hi : i < n) (hg : Nat.gcd s n = 1) (h : M2St w1 xb o n s D i wr) :
    Calls Try.prog 16 #[.pointer (some ⟨xb, 0, none⟩), .string (keyS (i * s % n))] wr fun e w' => e = .returned (.tuple #[.int .i64 (i * s % n : Nat), .bool true]) ∧ M2St w1 xb o n s D (i + 1) w' := by
  obtain ⟨L, h1, h2, h3, h4⟩ := h
  have hlt : i * s % n < n := Nat.mod_lt _ (by omega)
  have hnv := vis_new hg hi
  refine (drop_hasG h1 (by omega) (keyS (i * s % n))).mono ?_
  rintro e w' ⟨rfl, g1, g2⟩
  obtain ⟨k1, k2⟩ := h2.drop (m := i * s % n) (by omega) (fun x hx => by have := hx.1; omega) ⟨hlt, hnv⟩
  refine ⟨by rw [h2.get (m := i * s % n) ⟨hlt, hnv⟩]; rfl, _, g1, k1.congr (fun m => ?_), by omega, (g2.block D (Array.getElem?_eq_some_iff.1 h4).1 (fun h => h.2 (by simp))).trans h4⟩
  rw [vis_succ]
  constructor
  · rintro ⟨⟨a, b⟩, c⟩; exact ⟨a, fun e => e.elim b c⟩
  · rintro ⟨a, b⟩; exact ⟨⟨a, fun e => b (.inl e)⟩, fun e => b (.inr e)⟩
theorem st_get (hn : n ≤ 600) (hi : i < n) (h : M2St w1 xb o n s D (i + 1) wr) :
    Calls Try.prog 12 #[.pointer (some ⟨xb, 0, none⟩), .string (keyS (i * s % n))] wr fun e w' => e = .returned (.tuple #[.int .i64 0, .bool false]) ∧ M2St w1 xb o n s D (i + 1) w' := by
  have h' := h
  obtain ⟨L, h1, h2, h3, h4⟩ := h
  have hlt : i * s % n < n := Nat.mod_lt _ (by omega)
  refine (get_has h1.has (keyS (i * s % n))).mono ?_
  rintro e w' ⟨rfl, _, ht⟩
  exact ⟨by rw [h2.not (by omega) (fun h => h.2 ⟨i, by omega, rfl⟩)]; rfl, h'.quiet ht⟩
def DeepPost (o : Nat) (m : Int) (wr : World) (e : Ending) (w' : World) : Prop := ∃ d : Nat, e = .returned (.int .i64 d) ∧ Hid (∀ W, Calls Try.prog 20 #[.int .i64 o, .int .i64 d, .int .i64 m] W fun e w' => e = .returned (.bool true) ∧ W = w') ∧ w' = wr
theorem has_depth {L : List Pair} (h : Has w1 wr xb o L) (h2 : 2 ≤ o) (h64 : o ≤ 64) {m : Int} (hm : (L.length : Int) = m) (hl : m ≤ 600) :
    Calls Try.prog 21 #[.pointer (some ⟨xb, 0, none⟩)] wr (DeepPost o m wr) := by
  refine (depth_has h (by omega)).mono ?_
  rintro e w' ⟨d, rfl, hd, rfl⟩
  refine ⟨d, rfl, Lib.hid (fun W => ?_), rfl⟩
  rw [← hm]
  exact deep_any W h2 h64 hd (by omega)
theorem st_depth (h : M2St w1 xb o n s D i wr) (h2 : 2 ≤ o) (h64 : o ≤ 64) (hn : n ≤ 600) {m : Int} (hm : m = (n : Int) - (i : Int)) :
    Calls Try.prog 21 #[.pointer (some ⟨xb, 0, none⟩)] wr (DeepPost o m wr) := by
  obtain ⟨L, h1, _, h3, _⟩ := h
  exact has_depth h1.has h2 h64 (by omega) (by omega)
theorem st_end (h : M2St w1 xb o n s D n wr) :
    Calls Try.prog 22 #[.pointer (some ⟨xb, 0, none⟩)] wr (fun e w' => e = .returned (.int .i64 0) ∧ wr = w') ∧
    Calls Try.prog 21 #[.pointer (some ⟨xb, 0, none⟩)] wr (fun e w' => e = .returned (.int .i64 0) ∧ wr = w') := by
  obtain ⟨L, h1, _, h3, _⟩ := h
  obtain rfl : L = [] := List.length_eq_zero_iff.1 (by omega)
  constructor
  · refine (len_has h1.has).mono ?_
    rintro e w' ⟨rfl, rfl⟩
    exact ⟨rfl, rfl⟩
  · refine (depth_has h1.has (by simp)).mono ?_
    rintro e w' ⟨d, rfl, hd, rfl⟩
    rcases hd with ⟨_, rfl⟩ | ⟨h, _⟩
    · exact ⟨rfl, rfl⟩
    · exact (h rfl).elim
end
def M2Rel (w1 : World) (xb o n s D : Nat) (k v : Value) (wr : World) : Prop := ∃ i : Nat, v = .int .i64 i ∧ i ≤ n ∧ k = .int .i64 (i * s % n : Nat) ∧ M2St w1 xb o n s D i wr
end Go.Proofs.Ytkhjhcbmefahkaa
