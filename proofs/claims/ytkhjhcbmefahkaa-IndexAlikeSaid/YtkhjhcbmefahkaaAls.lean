/-
  IndexAlike, walked.
-/
import Derived.Test.YtkhjhcbmefahkaaAlk
import Derived.Test.YtkhjhcbmefahkaaDpl
namespace Go.Proofs.Ytkhjhcbmefahkaa
open Go.RowKit Go.Mm Go.Lst

def AlRel (w1 : World) (xb ox yb oy n : Nat) (v : Value) (wr : World) : Prop := ∃ (i : Nat) (L : List Pair), v = .int .i64 i ∧ i ≤ n ∧ i ≤ 300 ∧ L.length ≤ i ∧ Both w1 wr xb ox yb oy L L []
theorem among_two (W : World) (c : Int) (h0 : -9223372036854775808 ≤ c) (h1 : c ≤ 9223372036854775807) : Calls Try.prog 23 #[.int .i64 c, .int .i64 63] W (AmongPost 63 W) := among_any c 63 W h0 h1 (by omega) (by omega)

set_option maxRecDepth 100000 in
set_option maxHeartbeats 4000000 in
theorem alike_any (w : World) (one two : Int) (ho0 : -9223372036854775808 ≤ one) (ho1 : one ≤ 9223372036854775807) (ht0 : -9223372036854775808 ≤ two) (ht1 : two ≤ 9223372036854775807) (va : Option Addr) (kn kc : Nat) (hk : Ops w va kn) :
    Calls Try.prog 6 [.int .i64 one, .int .i64 two, .slice va kn kc].toArray w (TruePost w) := by
  have hsh := Lib.hid (fun W => shown_any W)
  have HA1 := Lib.hid (fun W => among_two W one ho0 ho1)
  have HA2 := Lib.hid (fun W => among_two W two ht0 ht1)
  have HK := Lib.hid hk
  clear hk ho0 ho1 ht0 ht1
  go_enter Try.func6, Try.ntmps6
  go_wp2_with fail
  (with_reducible refine (hsh.out _).mono ?_)
  rintro e w1 ⟨rfl, ht1⟩
  have hT1 := Lib.hid ht1
  clear ht1 hsh
  go_wp2_with fail
  (with_reducible refine (HA1.out _).mono ?_)
  rintro e w1' ⟨r, rfl, hr, rfl⟩
  obtain ⟨ox, ho⟩ : ∃ o : Nat, (o : Int) = 2 + (r : Int) := ⟨2 + r, by omega⟩
  have hx2 : 2 ≤ ox := by omega
  have hx64 : ox ≤ 64 := by omega
  have hnew := Lib.hid (new_has w1 w1 (Tch.refl _ _) ox hx2 hx64)
  have HO := Lib.hid ho
  clear ho HA1
  go_wp2_with fail
  rw [← HO.out]
  (with_reducible refine hnew.out.mono ?_)
  rintro e w2 ⟨xb, rfl, h2⟩
  have H2 := Lib.hid h2
  clear h2 hnew HO hr
  go_wp2_with fail
  (with_reducible refine (HA2.out _).mono ?_)
  rintro e w1' ⟨r2, rfl, hr, rfl⟩
  obtain ⟨oy, ho⟩ : ∃ o : Nat, (o : Int) = 2 + (r2 : Int) := ⟨2 + r2, by omega⟩
  have hy2 : 2 ≤ oy := by omega
  have hy64 : oy ≤ 64 := by omega
  have hnew := Lib.hid (new_good oy hy2 hy64 w2)
  have HO := Lib.hid ho
  clear ho HA2
  go_wp2_with fail
  rw [← HO.out]
  (with_reducible refine hnew.out.mono ?_)
  rintro e w3 ⟨yb, G, rfl, hI, ht3, hG⟩
  have HB : Hid (Both w1 w3 xb ox yb oy [] [] []) := by
    have h := (HasG.of_has H2.out).add ht3 (N := G) (fun y hy => ⟨hG y hy, hI.lt y hy⟩)
    exact ⟨G, h.mono (fun y hy => by simpa using hy), hI, fun y hy => Nat.le_trans H2.out.here.size (hG y hy), fun y hy => by cases hy⟩
  clear hI ht3 hG H2 hnew HO hr
  go_upto_block 0 with fail
  go_cut [12] from 55 to 120 (fun v wr => AlRel w1 xb ox yb oy kn v wr)
  case first =>
    go_wp2_with fail
    go_loopw [12] (fun v wr => AlRel w1 xb ox yb oy kn v wr) (fun v _ => kn - (intOf v).toNat)
    case atStart => exact ⟨0, [], rfl, Nat.zero_le _, Nat.zero_le _, Nat.le_refl _, HB.out⟩
    case round =>
      obtain ⟨i, L, rfl, hi, hi2, hl, hh⟩ := hrel
      by_cases hlt : i < kn ∧ i < 300
      · obtain ⟨hlt, hlt2⟩ := hlt
        have hd : decide ((i : Int) < (kn : Int)) = true := by simpa using hlt
        have hd2 : decide ((i : Int) < 300) = true := by simp; omega
        have hq : (i : Int) < (kn : Int) := by omega
        have hq0 : (0 : Int) ≤ (i : Int) := by omega
        obtain ⟨b, off, k, m, s, t, rfl, hk0, hk1, hm0, hm1, e0, e1, e2, e3⟩ := HK.out i hlt
        have hwr := hT1.out.trans hh.here (fun _ _ h => h)
        have e0 := Tch.cell hwr e0
        have e1 := Tch.cell hwr e1
        have e2 := Tch.cell hwr e2
        have e3 := Tch.cell hwr e3
        have hh2 := hh.add (N := [wr.heap.size]) (Tch.alloc (fun _ => False) wr (.cells #[.int .i64 k, .int .i64 m, .string s, .string t] 43)) (fun y hy => by simp at hy ⊢; omega)
        have hop := Blk.new wr [.int .i64 k, .int .i64 m, .string s, .string t] 43
        have HH := Lib.hid hh2; have HOP := Lib.hid hop
        have HKI := Lib.hid (fun W => kind_any k W hk0 hk1)
        have hsz : wr.heap.size ∉ ([] : List Nat) := by simp
        have hfr : ∀ W, ¬ Free W [wr.heap.size] wr.heap.size := fun W h => h.2 (by simp)
        have HFR := Lib.hid hfr
        have hLs := hh.srt1
        have HLS := Lib.hid hLs
        clear hh hh2 hwr hop hfr hLs hsz
        go_wp2_with fail
        (with_reducible refine (HKI.out _).mono ?_)
        rintro e w4 ⟨kd, rfl, hkd, rfl⟩
        obtain ⟨old, was, hret⟩ := retv_tuple (lget s L)
        have HRET := Lib.hid hret
        clear hret
        by_cases h3 : kd = 3
        · have q3 : ((kd : Int) == 3) = true := by rw [h3]; rfl
          clear h3
          have HD := Lib.hid ((drop1 HH.out (by omega) s).mono (R' := fun e w' => e = .returned (.tuple #[.int .i64 old, .bool was]) ∧ w'.cell? ⟨wr.heap.size, 2, none⟩ = some (.string s) ∧
            Hid (Calls Try.prog 16 #[.pointer (some ⟨yb, 0, none⟩), .string s] w' fun e w'' => e = .returned (.tuple #[.int .i64 old, .bool was]) ∧ Hid (AlRel w1 xb ox yb oy kn (.int .i64 ((i : Int) + 1)) w''))) (by
            rintro e w' ⟨rfl, h1, h2⟩
            refine ⟨by rw [HRET.out], (h2.get HOP.out (HFR.out _)).cell 2, (drop2 h1 (by omega) s).mono ?_⟩
            rintro e w'' ⟨rfl, g1, g2⟩
            exact ⟨by rw [HRET.out], i + 1, _, by simp, hlt, hlt2, ldrop_le hl, g1.drop⟩))
          go_wp2_with fail
          (with_reducible refine HD.out.mono ?_)
          rintro e w5 ⟨rfl, f2, HC⟩
          go_wp2_with fail
          (with_reducible refine HC.out.mono ?_)
          rintro e w6 ⟨rfl, hrel⟩
          go_wp2_with fail
          go_roundw
          case measure => simp [intOf]; omega
          case rel => exact hrel.out
        · have q3 : ((kd : Int) == 3) = false := by rw [beq_eq_false_iff_ne]; omega
          clear h3
          have HD := Lib.hid ((put1 HH.out (by omega) s m).mono (R' := fun e w' => e = .returned (.tuple #[.int .i64 old, .bool was]) ∧ w'.cell? ⟨wr.heap.size, 2, none⟩ = some (.string s) ∧ w'.cell? ⟨wr.heap.size, 1, none⟩ = some (.int .i64 m) ∧
            Hid (Calls Try.prog 10 #[.pointer (some ⟨yb, 0, none⟩), .string s, .int .i64 m] w' fun e w'' => e = .returned (.tuple #[.int .i64 old, .bool was]) ∧ Hid (AlRel w1 xb ox yb oy kn (.int .i64 ((i : Int) + 1)) w''))) (by
            rintro e w' ⟨rfl, h1, h2⟩
            refine ⟨by rw [HRET.out], (h2.get HOP.out (HFR.out _)).cell 2, (h2.get HOP.out (HFR.out _)).cell 1, (put2 h1 (by omega) s m).mono ?_⟩
            rintro e w'' ⟨rfl, g1, g2⟩
            exact ⟨by rw [HRET.out], i + 1, _, by simp, hlt, hlt2, lput_le HLS.out hl, g1.drop⟩))
          go_wp2_with fail
          (with_reducible refine HD.out.mono ?_)
          rintro e w5 ⟨rfl, f2, f1, HC⟩
          go_wp2_with fail
          (with_reducible refine HC.out.mono ?_)
          rintro e w6 ⟨rfl, hrel⟩
          go_wp2_with fail
          go_roundw
          case measure => simp [intOf]; omega
          case rel => exact hrel.out
      · have hfin : Hid (AlRel w1 xb ox yb oy kn (.int .i64 i) wr) := ⟨i, L, rfl, hi, hi2, hl, hh⟩
        clear hh hl
        have hor : i = kn ∨ (i < kn ∧ i = 300) := by omega
        clear hlt
        rcases hor with rfl | ⟨hlt, rfl⟩
        · go_wp2_with fail
          go_meet
          exact hfin.out
        · have hd : decide ((300 : Int) < (kn : Int)) = true := by simp; omega
          simp only [Int.cast_ofNat_Int] at hfin ⊢
          go_wp2_with fail
          go_meet
          exact hfin.out
  case rest =>
    obtain ⟨i, L, rfl, hi, hi2, hl, hh⟩ := hcut
    have hll : L.length ≤ 300 := by omega
    have hm1 : ∀ X, upto (-1) X = X := fun X => by simp [upto]
    have HRX := Lib.hid (ranged_has hh.first (by omega : L.length ≤ 1000000) ⟨#[]⟩ ⟨#[]⟩ (-1))
    have HH := Lib.hid hh
    clear hh hl hi hi2
    go_wp2_with fail
    (with_reducible refine HRX.out.mono ?_)
    rintro e w4 ⟨vA, bA, rfl, hsA, hbA, ht4⟩
    rw [hm1, rng_whole] at hsA
    have HH4 := Lib.hid (HH.out.quiet ht4)
    have HSA := Lib.hid hsA
    have HRY := Lib.hid (ranged_has HH4.out.second (by omega : L.length ≤ 1000000) ⟨#[]⟩ ⟨#[]⟩ (-1))
    clear hsA hbA ht4 HRX HH
    go_wp2_with fail
    (with_reducible refine HRY.out.mono ?_)
    rintro e w5 ⟨vB, bB, rfl, hsB, hbB, ht5⟩
    rw [hm1, rng_whole] at hsB
    have HH5 := Lib.hid (HH4.out.quiet ht5)
    have HSM := Lib.hid (same_true (HSA.out.tch ht5 (fun _ _ h => h)) hsB (by omega))
    clear hsB hbB ht5 HRY HH4 HSA
    go_wp2_with fail
    (with_reducible refine HSM.out.mono ?_)
    rintro e w6 ⟨rfl, ht6⟩
    have HH6 := Lib.hid (HH5.out.quiet ht6)
    clear ht6
    go_wp2_with fail
    (with_reducible refine (len_has HH6.out.first).mono ?_)
    rintro e w7 ⟨rfl, rfl⟩
    go_wp2_with fail
    (with_reducible refine (len_has HH6.out.second).mono ?_)
    rintro e w8 ⟨rfl, rfl⟩
    have hfin : Hid (TruePost w (.returned (.bool true)) w8) := ⟨rfl, hT1.out.trans HH6.out.here (fun _ _ h => h)⟩
    go_wp2_with fail
    go_ret
    exact hfin.out
end Go.Proofs.Ytkhjhcbmefahkaa
