/-
  'same': two rows of pairs that are alike.
-/
import Derived.BigQuiet
import Derived.Deep.QuietTactic
import Derived.Test.YtkhjhcbmefahkaaOwn
namespace Go.Proofs.Ytkhjhcbmefahkaa
open Go.RowKit Go.Mm Go.Lst

def SameRel (w : World) (n : Nat) (v : Value) (wr : World) : Prop := ∃ i : Nat, v = .int .i64 i ∧ i ≤ n ∧ Tch (fun _ => False) w wr
def TruePost (w : World) (e : Ending) (w' : World) : Prop := e = .returned (.bool true) ∧ Tch (fun _ => False) w w'

set_option maxHeartbeats 1000000 in
theorem same_true {w : World} {va vb : Value} {ba bb : List Nat} {A : List Pair} (hA : Sl w 35 2 va ba A.length (encPs A)) (hB : Sl w 35 2 vb bb A.length (encPs A)) (hl : A.length ≤ 1000000) :
    Calls Try.prog 13 #[va, vb] w (TruePost w) := by
  have hA' := hA.val
  have hB' := hB.val
  obtain ⟨pa, ca, rfl, _⟩ := hA'
  obtain ⟨pb, cb, rfl, _⟩ := hB'
  have HA := Lib.hid hA; have HB := Lib.hid hB
  clear hA hB
  go_enter Try.func13, Try.ntmps13
  go_wp2_with fail
  go_loopw [5] (fun v wr => SameRel w A.length v wr) (fun v _ => A.length - (intOf v).toNat)
  case atStart => exact ⟨0, rfl, Nat.zero_le _, Tch.refl _ _⟩
  case round =>
    obtain ⟨i, rfl, hi, ht⟩ := hrel
    by_cases hlt : i < A.length
    · have hd : decide ((i : Int) < (A.length : Int)) = true := by simpa using hlt
      have hq : (i : Int) < (A.length : Int) := by omega
      have hq0 : (0 : Int) ≤ (i : Int) := by omega
      obtain ⟨p, hp⟩ : ∃ p, A[i]? = some p := ⟨A[i], by simp⟩
      obtain ⟨qa, ca', spa, hae, _, hqa, _⟩ := HA.out.pos (by omega)
      obtain ⟨rfl, rfl⟩ : pa = some ⟨qa, 0, none⟩ ∧ ca = ca' := by simpa using hae
      obtain ⟨qb, cb', spb, hbe, _, hqb, _⟩ := HB.out.pos (by omega)
      obtain ⟨rfl, rfl⟩ : pb = some ⟨qb, 0, none⟩ ∧ cb = cb' := by simpa using hbe
      have d0 := ((ht.get hqa (fun h => h)).cell _).trans (encPs_get hp spa).1
      have d1 := ((ht.get hqa (fun h => h)).cell _).trans (encPs_get hp spa).2
      have e0 := ((ht.get hqb (fun h => h)).cell _).trans (encPs_get hp spb).1
      have e1 := ((ht.get hqb (fun h => h)).cell _).trans (encPs_get hp spb).2
      have HT := Lib.hid ht
      clear ht hqa hqb hae hbe hp
      go_wp2_with fail
      go_quiet (fail)
      have hrel : Hid (SameRel w A.length (.int .i64 ((i : Int) + 1)) (wr.drewN nq)) := ⟨i + 1, by simp, hlt, HT.out.trans (S' := fun _ => False) ⟨rfl, rfl, rfl, Nat.le_refl _, fun _ _ _ => rfl⟩ (fun _ _ h => h)⟩
      go_wp2_with fail
      go_roundw
      case measure => simp [intOf]; omega
      case rel => exact hrel.out
    · obtain rfl : i = A.length := by omega
      have hd : decide ((A.length : Int) < (A.length : Int)) = false := by simp
      have hfin : Hid (TruePost w (.returned (.bool true)) wr) := ⟨rfl, ht⟩
      clear ht
      go_wp2_with fail
      go_ret
      exact hfin.out

end Go.Proofs.Ytkhjhcbmefahkaa
