/-
  Rows of calls: their cells; which of the kinds.
-/
import Derived.Test.YtkhjhcbmefahkaaHsg
namespace Go.Proofs.Ytkhjhcbmefahkaa
open Go.RowKit Go.Mm Go.Lst

/-- the slots of a slice of calls -/
def Ops (w : World) (va : Option Addr) (n : Nat) : Prop := ∀ i, i < n → ∃ (b o : Nat) (k m : Int) (s t : ByteArray), va = some ⟨b, o, none⟩ ∧ -9223372036854775808 ≤ k ∧ k ≤ 9223372036854775807 ∧ -9223372036854775808 ≤ m ∧ m ≤ 9223372036854775807 ∧
  w.cell? ⟨b, o + i * 4, none⟩ = some (.int .i64 k) ∧ w.cell? ⟨b, o + i * 4 + 1, none⟩ = some (.int .i64 m) ∧ w.cell? ⟨b, o + i * 4 + 2, none⟩ = some (.string s) ∧ w.cell? ⟨b, o + i * 4 + 3, none⟩ = some (.string t)

def KindPost (w : World) (e : Ending) (w' : World) : Prop := ∃ r : Nat, e = .returned (.int .i64 r) ∧ r < 6 ∧ w = w'
set_option maxHeartbeats 400000 in
theorem kind_any (c : Int) (w : World) (h0 : -9223372036854775808 ≤ c) (h1 : c ≤ 9223372036854775807) : Calls Try.prog 14 #[.int .i64 c] w (KindPost w) := by
  by_cases hc : c < 0
  · have hd : decide (c < 0) = true := by simpa using hc
    have q0 : (0 : Int) ≤ -(c + 1) := by omega
    have hfin : Hid (KindPost w (.returned (.int .i64 (-((c + 1).tmod 6)))) w) := by
      rw [← Int.neg_tmod, Int.tmod_eq_emod_of_nonneg q0]
      exact ⟨(-(c + 1) % 6).toNat, by rw [Int.toNat_of_nonneg (Int.emod_nonneg _ (by omega))], by have := Int.emod_lt_of_pos (-(c + 1)) (show (0 : Int) < 6 by omega); omega, rfl⟩
    go_enter Try.func14, Try.ntmps14
    go_wp2_with fail
    go_ret
    exact hfin.out
  · have hd : decide (c < 0) = false := by simpa using hc
    have q0 : (0 : Int) ≤ c := by omega
    have hfin : Hid (KindPost w (.returned (.int .i64 (c % 6))) w) := ⟨(c % 6).toNat, by rw [Int.toNat_of_nonneg (Int.emod_nonneg _ (by omega))], by have := Int.emod_lt_of_pos c (show (0 : Int) < 6 by omega); omega, rfl⟩
    go_enter Try.func14, Try.ntmps14
    go_wp2_with fail
    go_ret
    exact hfin.out
end Go.Proofs.Ytkhjhcbmefahkaa
