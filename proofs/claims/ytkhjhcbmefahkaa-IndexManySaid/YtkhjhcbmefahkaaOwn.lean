/-
  An index made since a world: the calls on it, in one form; and the statements' small examples.
-/
import Derived.Test.YtkhjhcbmefahkaaRgd
import Derived.Test.YtkhjhcbmefahkaaDep
namespace Go.Proofs.Ytkhjhcbmefahkaa
open Go.RowKit Go.Mm Go.Lst

/-- an index that has been made since w0, and nothing that was there has turned -/
def Has (w0 w : World) (xb order : Nat) (L : List Pair) : Prop := ∃ F, Ix w xb order L F ∧ (∀ y ∈ F, w0.heap.size ≤ y) ∧ Tch (fun _ => False) w0 w

theorem Has.tch {w0 w w' : World} {xb order : Nat} {L : List Pair} (h : Has w0 w xb order L) (ht : Tch (fun _ => False) w w') : Has w0 w' xb order L := by
  obtain ⟨F, h1, h2, h3⟩ := h
  exact ⟨F, h1.tch ht, h2, h3.trans ht (fun _ _ h => h)⟩
theorem Has.here {w0 w : World} {xb order : Nat} {L : List Pair} (h : Has w0 w xb order L) : Tch (fun _ => False) w0 w := by
  obtain ⟨F, h1, h2, h3⟩ := h; exact h3

theorem new_has (w0 w : World) (h0 : Tch (fun _ => False) w0 w) (order : Nat) (h2 : 2 ≤ order) (h64 : order ≤ 64) :
    Calls Try.prog 9 #[.int .i64 order] w fun e w' => ∃ xb, e = .returned (.tuple #[.pointer (some ⟨xb, 0, none⟩), .int .i64 0]) ∧ Has w0 w' xb order [] := by
  refine (new_good order h2 h64 w).mono ?_
  rintro e w' ⟨xb, F, rfl, hI, ht, hF⟩
  exact ⟨xb, rfl, F, hI, fun y hy => Nat.le_trans h0.size (hF y hy), h0.trans ht (fun _ _ h => h)⟩

theorem put_has {w0 w : World} {xb order : Nat} {L : List Pair} (h : Has w0 w xb order L) (hlen : L.length ≤ 1000000) (key : ByteArray) (n : Int) :
    Calls Try.prog 10 #[.pointer (some ⟨xb, 0, none⟩), .string key, .int .i64 n] w fun e w' => e = .returned (retv (lget key L)) ∧ Has w0 w' xb order (lput key n L) := by
  obtain ⟨F, h1, h2, h3⟩ := h
  refine (iput_any h1 hlen key n).mono ?_
  rintro e w' ⟨rfl, F', hI, hF, ht⟩
  refine ⟨rfl, F', hI, fun y hy => ?_, h3.trans ht (fun k hk hs => absurd (h2 k hs) (by omega))⟩
  rcases hF y hy with h | h
  · exact h2 y h
  · exact Nat.le_trans h3.size h

theorem get_has {w0 w : World} {xb order : Nat} {L : List Pair} (h : Has w0 w xb order L) (key : ByteArray) :
    Calls Try.prog 12 #[.pointer (some ⟨xb, 0, none⟩), .string key] w fun e w' => e = .returned (retv (lget key L)) ∧ Has w0 w' xb order L ∧ Tch (fun _ => False) w w' := by
  obtain ⟨F, h1, h2, h3⟩ := h
  refine (get_any h1 key).mono ?_
  rintro e w' ⟨rfl, ht⟩
  exact ⟨rfl, Has.tch ⟨F, h1, h2, h3⟩ ht, ht⟩
theorem len_has {w0 w : World} {xb order : Nat} {L : List Pair} (h : Has w0 w xb order L) :
    Calls Try.prog 22 #[.pointer (some ⟨xb, 0, none⟩)] w fun e w' => e = .returned (.int .i64 L.length) ∧ w' = w := by
  obtain ⟨F, h1, h2, h3⟩ := h
  refine (len_any h1).mono ?_
  rintro e w' ⟨rfl, rfl⟩
  exact ⟨rfl, rfl⟩
theorem depth_has {w0 w : World} {xb order : Nat} {L : List Pair} (h : Has w0 w xb order L) (hlen : L.length ≤ 1000000) :
    Calls Try.prog 21 #[.pointer (some ⟨xb, 0, none⟩)] w (DepthPost order L w) := by
  obtain ⟨F, h1, h2, h3⟩ := h
  exact depth_any h1 hlen
theorem ranged_has {w0 w : World} {xb order : Nat} {L : List Pair} (h : Has w0 w xb order L) (hlen : L.length ≤ 1000000) (fr to : ByteArray) (most : Int) :
    Calls Try.prog 11 #[.pointer (some ⟨xb, 0, none⟩), .string fr, .string to, .int .i64 most] w (RangedPost (upto most (rng fr to L)) w) := by
  obtain ⟨F, h1, h2, h3⟩ := h
  exact ranged_any h1 hlen fr to most

def ShownPost (w : World) (e : Ending) (w' : World) : Prop := e = .returned (.bool true) ∧ Tch (fun _ => False) w w'

theorem depth_of2 {d : Nat} {L : List Pair} (hL : L.length = 2) (h : DepthOk 2 L d) : d = 1 := by
  rcases h with ⟨rfl, _⟩ | ⟨_, h1, h2, _⟩
  · simp at hL
  · obtain ⟨k, rfl⟩ : ∃ k, d = k + 1 := ⟨d - 1, by omega⟩
    cases k with
    | zero => rfl
    | succ k =>
      have := Nat.one_le_two_pow (n := k)
      simp only [Nat.add_sub_cancel, show 2 / 2 + 1 = 2 from rfl, Nat.pow_succ] at h2
      omega
theorem depth_of3 {d : Nat} {L : List Pair} (hL : L.length = 3) (h : DepthOk 2 L d) : d = 2 := by
  rcases h with ⟨rfl, _⟩ | ⟨_, h1, h2, h3⟩
  · simp at hL
  · obtain ⟨k, rfl⟩ : ∃ k, d = k + 1 := ⟨d - 1, by omega⟩
    match k with
    | 0 => have := h3 rfl; omega
    | 1 => rfl
    | k + 2 =>
      have := Nat.one_le_two_pow (n := k)
      simp only [Nat.add_sub_cancel, show 2 / 2 + 1 = 2 from rfl, Nat.pow_succ] at h2
      omega

set_option maxRecDepth 100000 in
set_option maxHeartbeats 2000000 in
theorem shown_any (w : World) : Calls Try.prog 8 #[] w (ShownPost w) := by
  have hn := Lib.hid (new_has w w (Tch.refl _ _) 2 (by omega) (by omega))
  go_enter Try.func8, Try.ntmps8
  go_wp2_with fail
  refine hn.out.mono ?_
  rintro e w1 ⟨xb, rfl, h1⟩
  have H1 := Lib.hid h1; clear h1
  go_wp2_with fail
  refine (new_bad 1 (.inl (by decide)) _).mono ?_
  rintro e w2 ⟨rfl, rfl⟩
  go_wp2_with fail
  refine (put_has H1.out (by simp) ⟨#[98]⟩ 2).mono ?_
  rintro e w2 ⟨rfl, h2⟩
  rw [show retv (lget ⟨#[98]⟩ []) = .tuple #[.int .i64 0, .bool false] from rfl]
  have H2 := Lib.hid (show Has w w2 xb 2 [(⟨#[98]⟩, 2)] from h2); clear h2
  go_wp2_with fail
  refine (put_has H2.out (by simp) ⟨#[97]⟩ 1).mono ?_
  rintro e w3 ⟨rfl, h3⟩
  rw [show retv (lget ⟨#[97]⟩ [(⟨#[98]⟩, 2)]) = .tuple #[.int .i64 0, .bool false] from rfl]
  have H3 := Lib.hid (show Has w w3 xb 2 [(⟨#[97]⟩, 1), (⟨#[98]⟩, 2)] from h3); clear h3
  go_wp2_with fail
  refine (depth_has H3.out (by simp)).mono ?_
  rintro e w4 ⟨d, rfl, hd, rfl⟩
  obtain rfl := depth_of2 rfl hd
  clear hd
  go_wp2_with fail
  refine (put_has H3.out (by simp) ⟨#[99]⟩ 3).mono ?_
  rintro e w5 ⟨rfl, h5⟩
  rw [show retv (lget ⟨#[99]⟩ [(⟨#[97]⟩, 1), (⟨#[98]⟩, 2)]) = .tuple #[.int .i64 0, .bool false] from rfl]
  have H5 := Lib.hid (show Has w w5 xb 2 [(⟨#[97]⟩, 1), (⟨#[98]⟩, 2), (⟨#[99]⟩, 3)] from h5); clear h5
  go_wp2_with fail
  refine (put_has H5.out (by simp) ⟨#[98]⟩ 9).mono ?_
  rintro e w6 ⟨rfl, h6⟩
  rw [show retv (lget ⟨#[98]⟩ [(⟨#[97]⟩, 1), (⟨#[98]⟩, 2), (⟨#[99]⟩, 3)]) = .tuple #[.int .i64 2, .bool true] from rfl]
  have H6 := Lib.hid (show Has w w6 xb 2 [(⟨#[97]⟩, 1), (⟨#[98]⟩, 9), (⟨#[99]⟩, 3)] from h6); clear h6
  go_wp2_with fail
  refine (get_has H6.out ⟨#[98]⟩).mono ?_
  rintro e w7 ⟨rfl, h7, _⟩
  rw [show retv (lget ⟨#[98]⟩ [(⟨#[97]⟩, 1), (⟨#[98]⟩, 9), (⟨#[99]⟩, 3)]) = .tuple #[.int .i64 9, .bool true] from rfl]
  have H7 := Lib.hid h7; clear h7
  go_wp2_with fail
  refine (depth_has H7.out (by simp)).mono ?_
  rintro e w8 ⟨d, rfl, hd, rfl⟩
  obtain rfl := depth_of3 rfl hd
  clear hd
  go_wp2_with fail
  refine (len_has H7.out).mono ?_
  rintro e w9 ⟨rfl, rfl⟩
  have hfin : Hid (ShownPost w (.returned (.bool true)) w9) := ⟨rfl, H7.out.here⟩
  rw [show ([(⟨#[97]⟩, 1), (⟨#[98]⟩, 9), (⟨#[99]⟩, 3)] : List Pair).length = 3 from rfl]
  go_wp2_with fail
  go_ret
  exact hfin.out

end Go.Proofs.Ytkhjhcbmefahkaa
