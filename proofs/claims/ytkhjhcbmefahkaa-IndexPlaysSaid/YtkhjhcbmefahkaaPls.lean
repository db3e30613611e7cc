/-
  IndexPlays: keys are put, dropped, looked up and gone through as the document says, and the tree is never too deep.
-/
import Derived.Test.YtkhjhcbmefahkaaBth
import Derived.Test.YtkhjhcbmefahkaaDpl
namespace Go.Proofs.Ytkhjhcbmefahkaa
open Go.RowKit Go.Mm Go.Lst

def PlRel (w1 : World) (xb o yb n : Nat) (v : Value) (wr : World) : Prop := ∃ (i : Nat) (L : List Pair), v = .int .i64 i ∧ i ≤ n ∧ i ≤ 400 ∧ L.length ≤ i ∧ PB w1 wr xb o yb L L []

set_option maxRecDepth 100000 in
set_option maxHeartbeats 2000000 in
theorem plays_bad (w : World) (order : Int) (h : order < 2 ∨ 64 < order) (va : Option Addr) (kn kc : Nat) :
    Calls Try.prog 4 [.int .i64 order, .slice va kn kc].toArray w (TruePost w) := by
  have hsh := Lib.hid (fun W => shown_any W)
  have HN := Lib.hid (fun W => new_bad order h W)
  have hd : (decide (2 ≤ order) && decide (order ≤ 64)) = false := by
    rw [Bool.and_eq_false_iff]; simp; omega
  have hcase : (decide (2 ≤ order) = false) ∨ (decide (2 ≤ order) = true ∧ decide (order ≤ 64) = false) := by simp; omega
  have HC := Lib.hid hcase
  clear h hd hcase
  rcases HC.out with h | ⟨h, h2⟩
  all_goals (
    go_enter Try.func4, Try.ntmps4
    go_wp2_with fail
    (with_reducible refine (hsh.out _).mono ?_)
    rintro e w1 ⟨rfl, ht1⟩
    have hT1 := Lib.hid ht1
    clear ht1
    go_wp2_with fail
    (with_reducible refine (HN.out _).mono ?_)
    rintro e w2 ⟨rfl, rfl⟩
    have hfin : Hid (TruePost w (.returned (.bool true)) w1) := ⟨rfl, hT1.out⟩
    go_wp2_with fail
    go_ret
    exact hfin.out)

def PlSt (w1 : World) (xb o yb i : Nat) (w : World) : Prop := ∃ L', L'.length ≤ i + 1 ∧ PB w1 w xb o yb L' L' []
theorem PlSt.rel {w1 w w' : World} {xb o yb i n : Nat} (h : PlSt w1 xb o yb i w) (ht : Tch (fun _ => False) w w') (hi : i < n) (hi2 : i < 400) : PlRel w1 xb o yb n (.int .i64 ((i : Int) + 1)) w' := by
  obtain ⟨L', h1, h2⟩ := h
  exact ⟨i + 1, L', by simp, hi, hi2, h1, h2.quiet ht⟩
theorem quietN (w : World) (n : Nat) : Tch (fun _ => False) w (w.drewN n) := ⟨rfl, rfl, rfl, Nat.le_refl _, fun _ _ _ => rfl⟩

set_option maxRecDepth 100000 in
set_option maxHeartbeats 4000000 in
theorem plays_good (w : World) (o : Nat) (h2 : 2 ≤ o) (h64 : o ≤ 64) (va : Option Addr) (kn kc : Nat) (hk : Ops w va kn) :
    Calls Try.prog 4 [.int .i64 o, .slice va kn kc].toArray w (TruePost w) := by
  have hsh := Lib.hid (fun W => shown_any W)
  have HK := Lib.hid hk
  have q2 : decide ((2 : Int) ≤ (o : Int)) = true := by simp; omega
  have q64 : decide ((o : Int) ≤ 64) = true := by simp; omega
  clear hk
  go_enter Try.func4, Try.ntmps4
  go_wp2_with fail
  (with_reducible refine (hsh.out _).mono ?_)
  rintro e w1 ⟨rfl, ht1⟩
  have hT1 := Lib.hid ht1
  have hnew := Lib.hid (new_has w1 w1 (Tch.refl _ _) o h2 h64)
  clear ht1 hsh
  go_wp2_with fail
  (with_reducible refine hnew.out.mono ?_)
  rintro e w2 ⟨xb, rfl, hx⟩
  have HB : Hid (PB w1 (w2.alloc (.cells #[.slice none 0 0] 41)) xb o w2.heap.size [] [] []) := by
    have hb := Blk.new w2 [.slice none 0 0] 41
    have h := (HasG.of_has hx).add (Tch.alloc (fun _ => False) w2 (.cells #[.slice none 0 0] 41)) (N := [w2.heap.size]) (fun y hy => by simp at hy ⊢; omega)
    exact ⟨[w2.heap.size], h.mono (fun y hy => by simpa using hy), ⟨_, [], hb, Sl.nil _ _ _, by simp, rfl⟩, fun y hy => by simp at hy; rw [hy]; exact hx.here.size, fun y hy => by cases hy⟩
  clear hx hnew
  go_upto_block 0 with fail
  generalize hyb : w2.heap.size = yb at *
  generalize w2.alloc (.cells #[.slice none 0 0] 41) = w3 at *
  clear hyb
  go_cut [9] from 64 to 214 (fun v wr => PlRel w1 xb o yb kn v wr)
  case first =>
    go_wp2_with fail
    go_loopw [9] (fun v wr => PlRel w1 xb o yb kn v wr) (fun v _ => kn - (intOf v).toNat)
    case atStart => exact ⟨0, [], rfl, Nat.zero_le _, Nat.zero_le _, Nat.le_refl _, HB.out⟩
    case round =>
      obtain ⟨i, L, rfl, hi, hi2, hl, hh⟩ := hrel
      by_cases hlt : i < kn ∧ i < 400
      · obtain ⟨hlt, hlt2⟩ := hlt
        have hd : decide ((i : Int) < (kn : Int)) = true := by simpa using hlt
        have hd2 : decide ((i : Int) < 400) = true := by simp; omega
        have hq : (i : Int) < (kn : Int) := by omega
        have hq0 : (0 : Int) ≤ (i : Int) := by omega
        obtain ⟨b, off, k, m, s, t, rfl, hk0, hk1, hm0, hm1, e0, e1, e2, e3⟩ := HK.out i hlt
        have hwr := hT1.out.trans hh.here (fun _ _ h => h)
        have e0 := Tch.cell hwr e0
        have e1 := Tch.cell hwr e1
        have e2 := Tch.cell hwr e2
        have e3 := Tch.cell hwr e3
        have hh2 := hh.add (N := [wr.heap.size]) (Tch.alloc (fun _ => False) wr (.cells #[.int .i64 k, .int .i64 m, .string s, .string t] 43)) (fun y hy => by simp at hy ⊢; omega)
        have hop := Blk.new wr [.int .i64 k, .int .i64 m, .string s, .string t] 43
        have HOP := Lib.hid hop
        have HKI := Lib.hid (fun W => kind_any k W hk0 hk1)
        have HFR := Lib.hid (show ∀ W, ¬ Free W [wr.heap.size] wr.heap.size from fun W h => h.2 (by simp))
        have HLS := Lib.hid hh.srt1
        have HH := Lib.hid hh2
        clear hh hh2 hwr hop
        go_wp2_with fail
        (with_reducible refine (HKI.out _).mono ?_)
        rintro e w4 ⟨kd, rfl, hkd, rfl⟩
        obtain ⟨old, was, hret⟩ := retv_tuple (lget s L)
        have HRET := Lib.hid hret
        have hlt : i < kn := hlt
        clear hret e0 e1 e2 e3 hk0 hk1 hd hd2 hq
        have hkc : kd < 3 ∨ kd = 3 ∨ kd = 4 ∨ kd = 5 := by omega
        rcases hkc with hk3 | rfl | rfl | rfl
        · have HD := Lib.hid ((pput1 HH.out (by omega) s m).mono (R' := fun e w' => e = .returned (.tuple #[.int .i64 old, .bool was]) ∧ w'.cell? ⟨wr.heap.size, 2, none⟩ = some (.string s) ∧ w'.cell? ⟨wr.heap.size, 1, none⟩ = some (.int .i64 m) ∧
            Hid (Calls Try.prog 15 #[.pointer (some ⟨yb, 0, none⟩), .string s, .int .i64 m] w' fun e w'' => e = .returned (.tuple #[.int .i64 old, .bool was]) ∧ Hid (PlSt w1 xb o yb i w''))) (by
            rintro e w' ⟨rfl, h1, h2⟩
            refine ⟨by rw [HRET.out], (h2.get HOP.out (HFR.out _)).cell 2, (h2.get HOP.out (HFR.out _)).cell 1, (pput2 h1 (by omega) HLS.out s m).mono ?_⟩
            rintro e w'' ⟨rfl, g1, g2⟩
            exact ⟨by rw [HRET.out], _, lput_le HLS.out hl, g1.drop⟩))
          have hkc : kd = 0 ∨ kd = 1 ∨ kd = 2 := by omega
          clear hk3
          rcases hkc with rfl | rfl | rfl
          all_goals (
            simp only [Int.cast_ofNat_Int] at *
            go_wp2_with fail
            (with_reducible refine HD.out.mono ?_)
            rintro e w5 ⟨rfl, f2, f1, HC⟩
            go_wp2_with fail
            (with_reducible refine HC.out.mono ?_)
            rintro e w6 ⟨rfl, hst⟩
            clear f2 f1 HC HD
            go_wp2_with fail
            obtain ⟨L', hl', hp⟩ := hst.out
            obtain ⟨Fx, hFx, hF2, hF3⟩ := hp.first
            obtain ⟨d, hdo, hdc⟩ := depth_fix hFx (by omega)
            obtain ⟨vY, blY, cY, hsY⟩ := hp.cell
            obtain ⟨aY, cYc, rfl, _⟩ := hsY.val
            have HD1 := Lib.hid hdc
            have HD2 := Lib.hid (fun W => (deep_any W h2 h64 hdo (by omega : L'.length ≤ 1000000)))
            have HLN := Lib.hid (fun W (ht : Tch (fun _ => False) w6 W) => len_has (hp.first.tch ht))
            clear hp hFx hF2 hF3 hdo hdc hsY
            go_quiet ((first | (go_at_call 21; exact Calls.quiet_of_same (HD1.out _ (quietN _ _))) | (go_at_call 20; exact Calls.quiet_of_same ((HD2.out _).mono (by rintro e w' ⟨rfl, rfl⟩; exact ⟨rfl, rfl⟩)))))
            have tq := quietN w6 nq
            have cY' := Tch.cell tq cY
            have HTQ := Lib.hid tq
            clear cY tq
            generalize w6.drewN nq = W7 at *
            go_wp2_with fail
            go_quiet ((go_at_call 22; exact Calls.quiet_of_same (HLN.out _ (HTQ.out.trans (quietN _ _) (fun _ _ h => h)))))
            go_wp2_with fail
            go_roundw
            case measure => simp [intOf]; omega
            case rel => exact hst.out.rel (HTQ.out.trans (quietN _ _) (fun _ _ h => h)) hlt hlt2)
        · have HD := Lib.hid ((pdrop1 HH.out (by omega) s).mono (R' := fun e w' => e = .returned (.tuple #[.int .i64 old, .bool was]) ∧ w'.cell? ⟨wr.heap.size, 2, none⟩ = some (.string s) ∧
            Hid (Calls Try.prog 17 #[.pointer (some ⟨yb, 0, none⟩), .string s] w' fun e w'' => e = .returned (.tuple #[.int .i64 old, .bool was]) ∧ Hid (PlSt w1 xb o yb i w''))) (by
            rintro e w' ⟨rfl, h1, h2⟩
            refine ⟨by rw [HRET.out], (h2.get HOP.out (HFR.out _)).cell 2, (pdrop2 h1 (by omega) HLS.out s).mono ?_⟩
            rintro e w'' ⟨rfl, g1, g2⟩
            exact ⟨by rw [HRET.out], _, ldrop_le hl, g1.drop⟩))
          simp only [Int.cast_ofNat_Int] at *
          go_wp2_with fail
          (with_reducible refine HD.out.mono ?_)
          rintro e w5 ⟨rfl, f2, HC⟩
          go_wp2_with fail
          (with_reducible refine HC.out.mono ?_)
          rintro e w6 ⟨rfl, hst⟩
          clear f2 HC HD
          go_wp2_with fail
          obtain ⟨L', hl', hp⟩ := hst.out
          obtain ⟨Fx, hFx, hF2, hF3⟩ := hp.first
          obtain ⟨d, hdo, hdc⟩ := depth_fix hFx (by omega)
          obtain ⟨vY, blY, cY, hsY⟩ := hp.cell
          obtain ⟨aY, cYc, rfl, _⟩ := hsY.val
          have HD1 := Lib.hid hdc
          have HD2 := Lib.hid (fun W => (deep_any W h2 h64 hdo (by omega : L'.length ≤ 1000000)))
          have HLN := Lib.hid (fun W (ht : Tch (fun _ => False) w6 W) => len_has (hp.first.tch ht))
          clear hp hFx hF2 hF3 hdo hdc hsY
          go_quiet ((first | (go_at_call 21; exact Calls.quiet_of_same (HD1.out _ (quietN _ _))) | (go_at_call 20; exact Calls.quiet_of_same ((HD2.out _).mono (by rintro e w' ⟨rfl, rfl⟩; exact ⟨rfl, rfl⟩)))))
          have tq := quietN w6 nq
          have cY' := Tch.cell tq cY
          have HTQ := Lib.hid tq
          clear cY tq
          generalize w6.drewN nq = W7 at *
          go_wp2_with fail
          go_quiet ((go_at_call 22; exact Calls.quiet_of_same (HLN.out _ (HTQ.out.trans (quietN _ _) (fun _ _ h => h)))))
          go_wp2_with fail
          go_roundw
          case measure => simp [intOf]; omega
          case rel => exact hst.out.rel (HTQ.out.trans (quietN _ _) (fun _ _ h => h)) hlt hlt2
        · have HD := Lib.hid ((get_has HH.out.first s).mono (R' := fun e w' => e = .returned (.tuple #[.int .i64 old, .bool was]) ∧ w'.cell? ⟨wr.heap.size, 2, none⟩ = some (.string s) ∧
            Hid (Calls Try.prog 18 #[.pointer (some ⟨yb, 0, none⟩), .string s] w' fun e w'' => e = .returned (.tuple #[.int .i64 old, .bool was]) ∧ Hid (PlSt w1 xb o yb i w''))) (by
            rintro e w' ⟨rfl, _, h2⟩
            obtain ⟨G, hG⟩ := HH.out.ref
            refine ⟨by rw [HRET.out], (h2.get HOP.out (fun h => h)).cell 2, (rget_any (hG.keep h2 (fun _ _ h => h)) (by omega) HLS.out s).mono ?_⟩
            rintro e w'' ⟨rfl, g2⟩
            exact ⟨by rw [HRET.out], L, by omega, (HH.out.drop.quiet h2).quiet g2⟩))
          simp only [Int.cast_ofNat_Int] at *
          go_wp2_with fail
          (with_reducible refine HD.out.mono ?_)
          rintro e w5 ⟨rfl, f2, HC⟩
          go_wp2_with fail
          (with_reducible refine HC.out.mono ?_)
          rintro e w6 ⟨rfl, hst⟩
          clear f2 HC HD
          go_wp2_with fail
          obtain ⟨L', hl', hp⟩ := hst.out
          obtain ⟨Fx, hFx, hF2, hF3⟩ := hp.first
          obtain ⟨d, hdo, hdc⟩ := depth_fix hFx (by omega)
          obtain ⟨vY, blY, cY, hsY⟩ := hp.cell
          obtain ⟨aY, cYc, rfl, _⟩ := hsY.val
          have HD1 := Lib.hid hdc
          have HD2 := Lib.hid (fun W => (deep_any W h2 h64 hdo (by omega : L'.length ≤ 1000000)))
          have HLN := Lib.hid (fun W (ht : Tch (fun _ => False) w6 W) => len_has (hp.first.tch ht))
          clear hp hFx hF2 hF3 hdo hdc hsY
          go_quiet ((first | (go_at_call 21; exact Calls.quiet_of_same (HD1.out _ (quietN _ _))) | (go_at_call 20; exact Calls.quiet_of_same ((HD2.out _).mono (by rintro e w' ⟨rfl, rfl⟩; exact ⟨rfl, rfl⟩)))))
          have tq := quietN w6 nq
          have cY' := Tch.cell tq cY
          have HTQ := Lib.hid tq
          clear cY tq
          generalize w6.drewN nq = W7 at *
          go_wp2_with fail
          go_quiet ((go_at_call 22; exact Calls.quiet_of_same (HLN.out _ (HTQ.out.trans (quietN _ _) (fun _ _ h => h)))))
          go_wp2_with fail
          go_roundw
          case measure => simp [intOf]; omega
          case rel => exact hst.out.rel (HTQ.out.trans (quietN _ _) (fun _ _ h => h)) hlt hlt2
        · obtain ⟨G, hG⟩ := HH.out.ref
          obtain ⟨X, hX⟩ : ∃ X, X = rng s t L := ⟨_, rfl⟩
          have hrl : X.length ≤ 400 := by rw [hX]; exact Nat.le_trans (List.length_filter_le _ _) (by omega)
          have hrr := rrange_any hG (by omega) s t
          rw [← hX] at hrr
          have HX := Lib.hid hX
          clear hX
          have HD := Lib.hid (hrr.mono (R' := fun e w' => ∃ v bl, e = .returned v ∧ Hid (Sl w' 35 2 v bl X.length (encPs X)) ∧ w'.cell? ⟨wr.heap.size, 1, none⟩ = some (.int .i64 m) ∧ w'.cell? ⟨wr.heap.size, 2, none⟩ = some (.string s) ∧ w'.cell? ⟨wr.heap.size, 3, none⟩ = some (.string t) ∧ Hid (PB w1 w' xb o yb L L [])) (by
            rintro e w' ⟨v, bl, rfl, h1, _, h2⟩
            exact ⟨v, bl, rfl, h1, (h2.get HOP.out (fun h => h)).cell 1, (h2.get HOP.out (fun h => h)).cell 2, (h2.get HOP.out (fun h => h)).cell 3, HH.out.drop.quiet h2⟩))
          simp only [Int.cast_ofNat_Int] at *
          clear hG hrr
          go_wp2_with fail
          (with_reducible refine HD.out.mono ?_)
          rintro e w5 ⟨v5, bl5, rfl, HS5, f1, f2, f3, HP5⟩
          obtain ⟨a5, c5, rfl, hnc⟩ := HS5.out.val
          clear HD
          have HRG := Lib.hid (fun most => ranged_has HP5.out.first (by omega : L.length ≤ 1000000) s t most)
          rw [← HX.out] at HRG
          by_cases hm : m < 0
          · have qm : decide (0 ≤ m) = false := by simp; omega
            have hup : ∀ most : Int, most < 0 → upto most X = X := fun most h => by simp [upto, h]
            have HW5 := HS5
            have HUP := Lib.hid hup
            clear hup
            go_wp2_with fail
            all_goals (
              (first | (with_reducible refine (HRG.out m).mono ?_) | (with_reducible refine (HRG.out (-1)).mono ?_))
              rintro e w7 ⟨v7, bl7, rfl, hs7, _, ht7⟩
              rw [HUP.out _ (by omega)] at hs7
              have HSM := Lib.hid (same_true hs7 (HW5.out.tch ht7 (fun _ _ h => h)) (by omega))
              obtain ⟨a7, c7, rfl, _⟩ := hs7.val
              have HP7 := Lib.hid (HP5.out.quiet ht7)
              clear hs7 ht7
              go_wp2_with fail
              (with_reducible refine HSM.out.mono ?_)
              rintro e w6 ⟨rfl, ht6⟩
              have hst : Hid (PlSt w1 xb o yb i w6) := ⟨L, by omega, HP7.out.quiet ht6⟩
              clear ht6 f1 f2 f3 HSM
              go_wp2_with fail
              obtain ⟨L', hl', hp⟩ := hst.out
              obtain ⟨Fx, hFx, hF2, hF3⟩ := hp.first
              obtain ⟨d, hdo, hdc⟩ := depth_fix hFx (by omega)
              obtain ⟨vY, blY, cY, hsY⟩ := hp.cell
              obtain ⟨aY, cYc, rfl, _⟩ := hsY.val
              have HD1 := Lib.hid hdc
              have HD2 := Lib.hid (fun W => (deep_any W h2 h64 hdo (by omega : L'.length ≤ 1000000)))
              have HLN := Lib.hid (fun W (ht : Tch (fun _ => False) w6 W) => len_has (hp.first.tch ht))
              clear hp hFx hF2 hF3 hdo hdc hsY
              go_quiet ((first | (go_at_call 21; exact Calls.quiet_of_same (HD1.out _ (quietN _ _))) | (go_at_call 20; exact Calls.quiet_of_same ((HD2.out _).mono (by rintro e w' ⟨rfl, rfl⟩; exact ⟨rfl, rfl⟩)))))
              have tq := quietN w6 nq
              have cY' := Tch.cell tq cY
              have HTQ := Lib.hid tq
              clear cY tq
              generalize w6.drewN nq = W7 at *
              go_wp2_with fail
              go_quiet ((go_at_call 22; exact Calls.quiet_of_same (HLN.out _ (HTQ.out.trans (quietN _ _) (fun _ _ h => h)))))
              go_wp2_with fail
              go_roundw
              case measure => simp [intOf]; omega
              case rel => exact hst.out.rel (HTQ.out.trans (quietN _ _) (fun _ _ h => h)) hlt hlt2)
          · obtain ⟨k, rfl⟩ : ∃ k : Nat, m = (k : Int) := ⟨m.toNat, by omega⟩
            have qm : decide ((0 : Int) ≤ (k : Int)) = true := by simp
            by_cases hkl : k < X.length
            · have qk : decide (k < X.length) = true := by simpa using hkl
              have qk2 : k ≤ c5 := by omega
              have hup : upto (k : Int) X = X.take k := by unfold upto; rw [if_neg (by omega), Int.toNat_natCast]
              have hyl : (X.take k).length = k := by rw [List.length_take]; omega
              have HW5 : Hid (Sl w5 35 2 (.slice a5 k c5) bl5 (X.take k).length (encPs (X.take k))) := by
                obtain ⟨a', c', he, hc⟩ := Sl.cutTo HS5.out (by omega) k (by omega)
                simp only [Value.slice.injEq] at he
                obtain ⟨rfl, _, rfl⟩ := he
                rw [encPs_take] at hc
                rw [hyl]
                exact hc
              have hXk : (X.take k).length ≤ 400 := by rw [List.length_take]; omega
              clear hyl
              generalize X.take k = Y at *
              have HUP := Lib.hid hup
              clear hup
              go_wp2_with fail
              (with_reducible refine (HRG.out (k : Int)).mono ?_)
              rintro e w7 ⟨v7, bl7, rfl, hs7, _, ht7⟩
              rw [HUP.out] at hs7
              have HSM := Lib.hid (same_true hs7 (HW5.out.tch ht7 (fun _ _ h => h)) (by omega))
              obtain ⟨a7, c7, rfl, _⟩ := hs7.val
              have HP7 := Lib.hid (HP5.out.quiet ht7)
              clear hs7 ht7
              go_wp2_with fail
              (with_reducible refine HSM.out.mono ?_)
              rintro e w6 ⟨rfl, ht6⟩
              have hst : Hid (PlSt w1 xb o yb i w6) := ⟨L, by omega, HP7.out.quiet ht6⟩
              clear ht6 f1 f2 f3 HSM
              go_wp2_with fail
              obtain ⟨L', hl', hp⟩ := hst.out
              obtain ⟨Fx, hFx, hF2, hF3⟩ := hp.first
              obtain ⟨d, hdo, hdc⟩ := depth_fix hFx (by omega)
              obtain ⟨vY, blY, cY, hsY⟩ := hp.cell
              obtain ⟨aY, cYc, rfl, _⟩ := hsY.val
              have HD1 := Lib.hid hdc
              have HD2 := Lib.hid (fun W => (deep_any W h2 h64 hdo (by omega : L'.length ≤ 1000000)))
              have HLN := Lib.hid (fun W (ht : Tch (fun _ => False) w6 W) => len_has (hp.first.tch ht))
              clear hp hFx hF2 hF3 hdo hdc hsY
              go_quiet ((first | (go_at_call 21; exact Calls.quiet_of_same (HD1.out _ (quietN _ _))) | (go_at_call 20; exact Calls.quiet_of_same ((HD2.out _).mono (by rintro e w' ⟨rfl, rfl⟩; exact ⟨rfl, rfl⟩)))))
              have tq := quietN w6 nq
              have cY' := Tch.cell tq cY
              have HTQ := Lib.hid tq
              clear cY tq
              generalize w6.drewN nq = W7 at *
              go_wp2_with fail
              go_quiet ((go_at_call 22; exact Calls.quiet_of_same (HLN.out _ (HTQ.out.trans (quietN _ _) (fun _ _ h => h)))))
              go_wp2_with fail
              go_roundw
              case measure => simp [intOf]; omega
              case rel => exact hst.out.rel (HTQ.out.trans (quietN _ _) (fun _ _ h => h)) hlt hlt2
            · have qk : decide (k < X.length) = false := by simpa using hkl
              have hup : upto (k : Int) X = X := by unfold upto; rw [if_neg (by omega)]; exact List.take_of_length_le (by omega)
              have HW5 := HS5
              have HUP := Lib.hid hup
              clear hup
              go_wp2_with fail
              (with_reducible refine (HRG.out (k : Int)).mono ?_)
              rintro e w7 ⟨v7, bl7, rfl, hs7, _, ht7⟩
              rw [HUP.out] at hs7
              have HSM := Lib.hid (same_true hs7 (HW5.out.tch ht7 (fun _ _ h => h)) (by omega))
              obtain ⟨a7, c7, rfl, _⟩ := hs7.val
              have HP7 := Lib.hid (HP5.out.quiet ht7)
              clear hs7 ht7
              go_wp2_with fail
              (with_reducible refine HSM.out.mono ?_)
              rintro e w6 ⟨rfl, ht6⟩
              have hst : Hid (PlSt w1 xb o yb i w6) := ⟨L, by omega, HP7.out.quiet ht6⟩
              clear ht6 f1 f2 f3 HSM
              go_wp2_with fail
              obtain ⟨L', hl', hp⟩ := hst.out
              obtain ⟨Fx, hFx, hF2, hF3⟩ := hp.first
              obtain ⟨d, hdo, hdc⟩ := depth_fix hFx (by omega)
              obtain ⟨vY, blY, cY, hsY⟩ := hp.cell
              obtain ⟨aY, cYc, rfl, _⟩ := hsY.val
              have HD1 := Lib.hid hdc
              have HD2 := Lib.hid (fun W => (deep_any W h2 h64 hdo (by omega : L'.length ≤ 1000000)))
              have HLN := Lib.hid (fun W (ht : Tch (fun _ => False) w6 W) => len_has (hp.first.tch ht))
              clear hp hFx hF2 hF3 hdo hdc hsY
              go_quiet ((first | (go_at_call 21; exact Calls.quiet_of_same (HD1.out _ (quietN _ _))) | (go_at_call 20; exact Calls.quiet_of_same ((HD2.out _).mono (by rintro e w' ⟨rfl, rfl⟩; exact ⟨rfl, rfl⟩)))))
              have tq := quietN w6 nq
              have cY' := Tch.cell tq cY
              have HTQ := Lib.hid tq
              clear cY tq
              generalize w6.drewN nq = W7 at *
              go_wp2_with fail
              go_quiet ((go_at_call 22; exact Calls.quiet_of_same (HLN.out _ (HTQ.out.trans (quietN _ _) (fun _ _ h => h)))))
              go_wp2_with fail
              go_roundw
              case measure => simp [intOf]; omega
              case rel => exact hst.out.rel (HTQ.out.trans (quietN _ _) (fun _ _ h => h)) hlt hlt2
      · have hfin : Hid (PlRel w1 xb o yb kn (.int .i64 i) wr) := ⟨i, L, rfl, hi, hi2, hl, hh⟩
        clear hh hl
        have hor : i = kn ∨ (i < kn ∧ i = 400) := by omega
        clear hlt
        rcases hor with rfl | ⟨hlt, rfl⟩
        · go_wp2_with fail
          go_meet
          exact hfin.out
        · have hd : decide ((400 : Int) < (kn : Int)) = true := by simp; omega
          simp only [Int.cast_ofNat_Int] at hfin ⊢
          go_wp2_with fail
          go_meet
          exact hfin.out
  case rest =>
    obtain ⟨i, L, rfl, hi, hi2, hl, hh⟩ := hcut
    obtain ⟨vY, blY, cY, hsY⟩ := hh.cell
    obtain ⟨aY, cYc, rfl, _⟩ := hsY.val
    have hm1 : ∀ X, upto (-1) X = X := fun X => by simp [upto]
    have td := Tch.drew (fun _ => False) wc
    have cY' : wc.drew.cell? ⟨yb, 0, none⟩ = some (.slice aY L.length cYc) := cY
    have HTW := Lib.hid (hT1.out.trans hh.here (fun _ _ h => h))
    have HR := Lib.hid ((ranged_has (hh.first.tch td) (by omega : L.length ≤ 1000000) ⟨#[]⟩ ⟨#[]⟩ (-1)).mono (R' := fun e w4 => ∃ a c, e = .returned (.slice a L.length c) ∧ w4.cell? ⟨yb, 0, none⟩ = some (.slice aY L.length cYc) ∧
      Hid (Calls Try.prog 13 #[.slice a L.length c, .slice aY L.length cYc] w4 fun e w5 => e = .returned (.bool true) ∧ Hid (Tch (fun _ => False) w w5))) (by
      rintro e w4 ⟨v4, bl4, rfl, hs4, _, ht4⟩
      rw [hm1, rng_whole] at hs4
      obtain ⟨a4, c4, rfl, _⟩ := hs4.val
      refine ⟨a4, c4, rfl, Tch.cell ht4 cY, (same_true hs4 ((hsY.tch td (fun _ _ h => h)).tch ht4 (fun _ _ h => h)) (by omega)).mono ?_⟩
      rintro e w5 ⟨rfl, ht5⟩
      exact ⟨rfl, ((HTW.out.trans td (fun _ _ h => h)).trans ht4 (fun _ _ h => h)).trans ht5 (fun _ _ h => h)⟩))
    clear hh hsY td hm1
    go_wp2_with fail
    go_region_with (first | (go_at_call 11; (with_reducible refine HR.out.mono ?_); rintro e w4 ⟨a4, c4, rfl, cY4, HSM⟩) | (go_at_call 13; (with_reducible refine HSM.out.mono ?_); rintro e w5 ⟨rfl, HT5⟩))
    all_goals (
      have hfin : Hid (TruePost w (.returned (.bool true)) w5) := ⟨rfl, HT5.out⟩
      go_wp2_with fail
      go_ret
      exact hfin.out)
end Go.Proofs.Ytkhjhcbmefahkaa
