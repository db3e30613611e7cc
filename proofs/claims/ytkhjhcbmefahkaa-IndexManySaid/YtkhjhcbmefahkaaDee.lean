/-
  deep: the depth that an index has may be.
-/
import Derived.Test.YtkhjhcbmefahkaaRfr
namespace Go.Proofs.Ytkhjhcbmefahkaa
open Go.RowKit Go.Mm Go.Lst

theorem pow_le {t a b : Nat} (ht : 1 ≤ t) (h : a ≤ b) : t ^ a ≤ t ^ b := Nat.pow_le_pow_right ht h

set_option maxHeartbeats 1000000 in
theorem deep_any {o d : Nat} {L : List Pair} (w : World) (h2 : 2 ≤ o) (h64 : o ≤ 64) (h : DepthOk o L d) (hl : L.length ≤ 1000000) :
    Calls Try.prog 20 #[.int .i64 o, .int .i64 d, .int .i64 L.length] w fun e w' => e = .returned (.bool true) ∧ w = w' := by
  have hsm := h.small h2 hl
  rcases h with ⟨rfl, rfl⟩ | ⟨h1, hd1, hp, h3⟩
  · have z0 : (([] : List Pair).length : Int) = 0 := rfl
    go_enter Try.func20, Try.ntmps20
    go_wp2_with fail
    go_ret
    exact ⟨rfl, rfl⟩
  · have hn : 1 ≤ L.length := List.length_pos_iff.2 h1
    generalize L.length = n at *
    obtain ⟨T, hT⟩ : ∃ T : Nat, T = o / 2 + 1 := ⟨_, rfl⟩
    rw [← hT] at hp
    have hT1 : 2 ≤ T := by omega
    have hTi : (o : Int) / 2 + 1 = (T : Int) := by omega
    have z1 : ((n : Int) == 0) = false := by rw [beq_eq_false_iff_ne]; omega
    have z2 : decide ((d : Int) < 1) = false := by simp; omega
    have z3 : decide (64 < (d : Int)) = false := by simp; omega
    have HP := Lib.hid hp
    clear hp hT h1 h3 L
    go_enter Try.func20, Try.ntmps20
    go_wp2_with fail
    go_loop [8, 9] (fun l i => ∃ k P : Nat, 1 ≤ k ∧ k ≤ d ∧ i = .int .i64 k ∧ l = .int .i64 P ∧ Hid (P = 2 * T ^ (k - 1))) (fun _ i => d - (intOf i).toNat)
    case atStart => exact ⟨1, 2, Nat.le_refl _, hd1, rfl, rfl, rfl⟩
    case round =>
      obtain ⟨k, P, hk, hkd, rfl, rfl, hP⟩ := hrel
      by_cases hlt : k < d
      · have hq : decide (k < d) = true := by simpa using hlt
        have hPT : P * T = 2 * T ^ k := by
          rw [hP.out, Nat.mul_assoc, ← Nat.pow_succ, show (k - 1).succ = k by omega]
        have hle : P * T ≤ n + 1 := by
          rw [hPT]
          have := pow_le (t := T) (by omega) (show k ≤ d - 1 by omega)
          have := HP.out
          omega
        obtain ⟨Q, hQ⟩ : ∃ Q : Nat, Q = P * T := ⟨_, rfl⟩
        rw [← hQ] at hPT hle
        have hw : wrap64 ((P : Int) * (T : Int)) = (Q : Int) := by
          rw [← Int.natCast_mul, ← hQ]
          exact IntWalk.wrap64_in _ (by omega)
        have hdd : decide ((n : Int) < (Q : Int) - 1) = false := by simp; omega
        have hrel : Hid (∃ k' P' : Nat, 1 ≤ k' ∧ k' ≤ d ∧ (.int .i64 ((k : Int) + 1) : Value) = .int .i64 k' ∧ (.int .i64 (Q : Int) : Value) = .int .i64 P' ∧ Hid (P' = 2 * T ^ (k' - 1))) := ⟨k + 1, Q, by omega, hlt, by simp, rfl, by show Q = _; rw [hPT]; simp⟩
        clear hPT hQ hP
        go_wp2_with fail
        go_round
        case rel => rw [hw]; exact hrel.out
        case measure => simp [intOf]; omega
      · obtain rfl : k = d := by omega
        have hq : decide (k < k) = false := by simp
        go_wp2_with fail
        go_ret
        exact ⟨rfl, rfl⟩
end Go.Proofs.Ytkhjhcbmefahkaa
