/-
  A number as a key; a step that has no part in common with a number.
-/
import Derived.Laws.BytesArg
import Derived.Test.YtkhjhcbmefahkaaDpf
import Derived.Test.YtkhjhcbmefahkaaHsg
namespace Go.Proofs.Ytkhjhcbmefahkaa
open Go.RowKit Go.Mm Go.Lst

def keyL (n : Nat) : List Int := [97 + (n : Int) / 676 % 26, 97 + (n : Int) / 26 % 26, 97 + (n : Int) % 26]
/-- a number's key -/
def keyS (n : Nat) : ByteArray := strOfNums (keyL n)

theorem cmp_byte {x y : Int} (hx : 0 ≤ x ∧ x < 256) (hy : 0 ≤ y ∧ y < 256) : UInt8.ofNat x.toNat < UInt8.ofNat y.toNat ↔ x < y := by
  rw [UInt8.lt_iff_toNat_lt, UInt8.toNat_ofNat', UInt8.toNat_ofNat']
  omega
theorem key_less {a b : Nat} (h : a < b) (hb : b ≤ 1000) : cmpB (keyS a) (keyS b) < 0 := by
  have e : ∀ n, (keyS n).data.toList = [UInt8.ofNat (97 + (n : Int) / 676 % 26).toNat, UInt8.ofNat (97 + (n : Int) / 26 % 26).toNat, UInt8.ofNat (97 + (n : Int) % 26).toNat] := fun n => rfl
  unfold cmpB
  rw [e, e]
  have b1 := @cmp_byte (97 + (a : Int) / 676 % 26) (97 + (b : Int) / 676 % 26) (by omega) (by omega)
  have b1' := @cmp_byte (97 + (b : Int) / 676 % 26) (97 + (a : Int) / 676 % 26) (by omega) (by omega)
  have b2 := @cmp_byte (97 + (a : Int) / 26 % 26) (97 + (b : Int) / 26 % 26) (by omega) (by omega)
  have b2' := @cmp_byte (97 + (b : Int) / 26 % 26) (97 + (a : Int) / 26 % 26) (by omega) (by omega)
  have b3 := @cmp_byte (97 + (a : Int) % 26) (97 + (b : Int) % 26) (by omega) (by omega)
  have b3' := @cmp_byte (97 + (b : Int) % 26) (97 + (a : Int) % 26) (by omega) (by omega)
  simp only [Lib.compareBytes]
  by_cases h1 : (97 + (a : Int) / 676 % 26) < (97 + (b : Int) / 676 % 26)
  · rw [if_pos (b1.2 h1)]; omega
  · rw [if_neg (fun h => h1 (b1.1 h)), if_neg (fun h => by have := b1'.1 h; omega)]
    by_cases h2 : (97 + (a : Int) / 26 % 26) < (97 + (b : Int) / 26 % 26)
    · rw [if_pos (b2.2 h2)]; omega
    · rw [if_neg (fun h => h2 (b2.1 h)), if_neg (fun h => by have := b2'.1 h; omega), if_pos (b3.2 (by omega))]; omega
theorem key_inj {a b : Nat} (ha : a ≤ 1000) (hb : b ≤ 1000) (h : keyS a = keyS b) : a = b := by
  rcases Nat.lt_trichotomy a b with h1 | h1 | h1
  · have := key_less h1 hb; rw [h, cmp_self] at this; omega
  · exact h1
  · have := key_less h1 ha; rw [h, cmp_self] at this; omega

def KeyPost (n : Nat) (w : World) (e : Ending) (w' : World) : Prop := e = .returned (.string (keyS n)) ∧ ∃ L, w' = w.alloc (.cells L 5)
set_option maxHeartbeats 1000000 in
theorem key_any (n : Nat) (hn : n ≤ 1000) (w : World) : Calls Try.prog 25 #[.int .i64 n] w (KeyPost n w) := by
  have q0 : (0 : Int) ≤ (n : Int) := by omega
  have q1 : (n : Int) ≤ 1000 := by omega
  have hc := run_convert_bytes_arg (P := Try.prog) (w.alloc (.cells #[.int .u8 (97 + (n : Int) / 676 % 26), .int .u8 (97 + (n : Int) / 26 % 26), .int .u8 (97 + (n : Int) % 26)] 5)) 71 5 Try.underlying71 Try.underlying5 w.heap.size 0 3 3 (keyL n) rfl (fun i hi => by
    have hb := Blk.new w [.int .u8 (97 + (n : Int) / 676 % 26), .int .u8 (97 + (n : Int) / 26 % 26), .int .u8 (97 + (n : Int) % 26)] 5
    have := hb.cell i
    rw [Nat.zero_add]
    refine this.trans ?_
    match i, hi with
    | 0, _ => rfl
    | 1, _ => rfl
    | 2, _ => rfl) 9 Try.underlying9
  have hfin : Hid (KeyPost n w (.returned (.string (strOfNums (keyL n)))) (w.alloc (.cells #[.int .u8 (97 + (n : Int) / 676 % 26), .int .u8 (97 + (n : Int) / 26 % 26), .int .u8 (97 + (n : Int) % 26)] 5))) := ⟨rfl, _, rfl⟩
  generalize strOfNums (keyL n) = K at *
  go_enter Try.func25, Try.ntmps25
  go_wp2_with fail
  go_ret
  exact hfin.out

set_option maxHeartbeats 1000000 in
theorem common_any (a b : Nat) (ha : a ≤ 10000) (hb : b ≤ 10000) (w : World) : Calls Try.prog 33 #[.int .i64 a, .int .i64 b] w fun e w' => e = .returned (.int .i64 (Nat.gcd a b)) ∧ Tch (fun _ => False) w w' := by
  go_enter Try.func33, Try.ntmps33
  go_wp2_with fail
  go_loopw [0, 1] (fun x y wr => ∃ c d : Nat, x = .int .i64 c ∧ y = .int .i64 d ∧ c ≤ 10000 ∧ d ≤ 10000 ∧ Hid (Nat.gcd c d = Nat.gcd a b) ∧ Hid (Tch (fun _ => False) w wr)) (fun _ y _ => (intOf y).toNat)
  case atStart => exact ⟨a, b, rfl, rfl, ha, hb, rfl, Tch.refl _ _⟩
  case round =>
    obtain ⟨c, d, rfl, rfl, hc, hd, hg, ht⟩ := hrel
    by_cases hz : 0 < d
    · have q0 : decide ((0 : Int) < (d : Int)) = true := by simp; omega
      have q1 : (1 : Int) ≤ (d : Int) := by omega
      have q2 : (0 : Int) ≤ (c : Int) := by omega
      have hz' : ((d : Int) == 0) = false := by rw [beq_eq_false_iff_ne]; omega
      have hrel : Hid (∀ m, ∃ c' d' : Nat, (.int .i64 (d : Int) : Value) = .int .i64 c' ∧ (.int .i64 ((c : Int) % (d : Int)) : Value) = .int .i64 d' ∧ c' ≤ 10000 ∧ d' ≤ 10000 ∧ Hid (Nat.gcd c' d' = Nat.gcd a b) ∧ Hid (Tch (fun _ => False) w (wr.drewN m))) :=
        fun m => ⟨d, c % d, rfl, by simp, hd, by have := Nat.mod_lt c hz; omega, by show Nat.gcd d (c % d) = _; rw [← hg.out, Nat.gcd_comm d, ← Nat.gcd_rec, Nat.gcd_comm], ht.out.trans (S' := fun _ => False) ⟨rfl, rfl, rfl, Nat.le_refl _, fun _ _ _ => rfl⟩ (fun _ _ h => h)⟩
      have hlt := Nat.mod_lt c hz
      go_wp2_with fail
      go_quiet (fail)
      go_wp2_with fail
      go_roundw
      case measure => simp [intOf]; omega
      case rel => exact hrel.out _
    · obtain rfl : d = 0 := by omega
      have hfin : Hid (Nat.gcd a b = c) := by show _ = _; rw [← hg.out]; exact Nat.gcd_zero_right c
      simp only [Int.cast_ofNat_Int] at *
      go_wp2_with fail
      go_ret
      exact ⟨by rw [hfin.out]; rfl, ht.out⟩

def StepPost (n : Nat) (w : World) (e : Ending) (w' : World) : Prop := ∃ r : Nat, e = .returned (.int .i64 r) ∧ 1 ≤ r ∧ r ≤ 700 ∧ Nat.gcd r n = 1 ∧ Tch (fun _ => False) w w'
set_option maxHeartbeats 1000000 in
theorem step_any (c : Int) (n : Nat) (hn : n ≤ 600) (w : World) (h0 : -9223372036854775808 ≤ c) (h1 : c ≤ 9223372036854775807) : Calls Try.prog 24 #[.int .i64 c, .int .i64 n] w (StepPost n w) := by
  by_cases hs : n < 2
  · have hd : decide ((n : Int) < 2) = true := by simp; omega
    have hfin : Hid (StepPost n w (.returned (.int .i64 1)) w) := ⟨1, rfl, Nat.le_refl _, by omega, Nat.gcd_one_left n, Tch.refl _ _⟩
    go_enter Try.func24, Try.ntmps24
    go_wp2_with fail
    go_ret
    exact hfin.out
  · have hd : decide ((n : Int) < 2) = false := by simp; omega
    have HAM := Lib.hid (fun W => among_any c n W h0 h1 (by omega) (by omega))
    clear h0 h1
    go_enter Try.func24, Try.ntmps24
    go_wp2_with fail
    (with_reducible refine (HAM.out _).mono ?_)
    rintro e w1 ⟨r, rfl, hr, rfl⟩
    have hr2 : r < n := by omega
    clear hr
    go_wp2_with fail
    go_loopw [0] (fun x wr => ∃ k : Nat, x = .int .i64 k ∧ 1 ≤ k ∧ k ≤ n + 1 ∧ Hid (Tch (fun _ => False) w wr)) (fun x _ => n + 1 - (intOf x).toNat)
    case atStart => exact ⟨1 + r, by simp, by omega, by omega, Tch.refl _ _⟩
    case round =>
      obtain ⟨k, rfl, hk1, hk2, ht⟩ := hrel
      have HC := Lib.hid (common_any k n (by omega) (by omega) wr)
      go_wp2_with fail
      (with_reducible refine HC.out.mono ?_)
      rintro e w2 ⟨rfl, ht2⟩
      have HT := Lib.hid (ht.out.trans ht2 (fun _ _ h => h))
      clear ht ht2 HC
      by_cases hg : Nat.gcd k n = 1
      · have q : ((Nat.gcd k n : Int) == 1) = true := by rw [hg]; rfl
        have hfin : Hid (StepPost n w (.returned (.int .i64 k)) w2) := ⟨k, rfl, hk1, by omega, hg, HT.out⟩
        have HG := Lib.hid hg
        generalize Nat.gcd k n = g at *
        obtain rfl : g = 1 := HG.out
        simp only [Int.cast_ofNat_Int] at *
        go_wp2_with fail
        go_ret
        exact hfin.out
      · have hk3 : k ≤ n := by
          apply Classical.byContradiction
          intro h
          obtain rfl : k = n + 1 := by omega
          exact hg (by simp)
        have q : ((Nat.gcd k n : Int) == 1) = false := by rw [beq_eq_false_iff_ne]; omega
        generalize Nat.gcd k n = g at *
        have hrel : Hid (∃ k' : Nat, (.int .i64 ((k : Int) + 1) : Value) = .int .i64 k' ∧ 1 ≤ k' ∧ k' ≤ n + 1 ∧ Hid (Tch (fun _ => False) w w2)) := ⟨k + 1, by simp, by omega, by omega, HT.out⟩
        go_wp2_with fail
        go_roundw
        case measure => simp [intOf]; omega
        case rel => exact hrel.out
end Go.Proofs.Ytkhjhcbmefahkaa
