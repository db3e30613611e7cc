/-
  IndexDrops: keys that are gone through and then dropped leave none of them, and all others.
-/
import Derived.Test.YtkhjhcbmefahkaaDpl
namespace Go.Proofs.Ytkhjhcbmefahkaa
open Go.RowKit Go.Mm Go.Lst

def DrRel (w1 : World) (xb o : Nat) (L X : List Pair) (vS : Value) (bS : List Nat) (v : Value) (wr : World) : Prop :=
  ∃ i : Nat, v = .int .i64 i ∧ i ≤ X.length ∧ HasG w1 wr xb o (dropAll (X.take i) L) bS ∧ Sl wr 35 2 vS bS X.length (encPs X)

set_option maxRecDepth 100000 in
set_option maxHeartbeats 4000000 in
theorem drops_any (w : World) (order : Int) (ho0 : -9223372036854775808 ≤ order) (ho1 : order ≤ 9223372036854775807) (va : Option Addr) (kn kc : Nat) (hk : Strs w va kn) (e0 e1 : ByteArray) :
    Calls Try.prog 7 [.int .i64 order, .slice va kn kc, .agg #[.string e0, .string e1]].toArray w (TruePost w) := by
  have hsh := Lib.hid (fun W => shown_any W)
  have HAM := Lib.hid (fun W => among_any order 63 W ho0 ho1 (by omega) (by omega))
  have HK := Lib.hid hk
  clear hk ho0 ho1
  go_enter Try.func7, Try.ntmps7
  go_wp2_with fail
  have hbx := Lib.hid (Blk.new w [.string e0, .string e1] 56)
  have ht0 := Lib.hid (Tch.alloc (fun _ => False) w (.cells #[.string e0, .string e1] 56))
  (with_reducible refine (hsh.out _).mono ?_)
  rintro e w1 ⟨rfl, ht1⟩
  have hb1 := Lib.hid (ht1.get hbx.out (fun h => h))
  have hT1 := Lib.hid (ht0.out.trans ht1 (fun _ _ h => h))
  clear ht1 hbx ht0 hsh
  go_wp2_with fail
  (with_reducible refine (HAM.out _).mono ?_)
  rintro e w1' ⟨r, rfl, hr, rfl⟩
  clear HAM
  obtain ⟨o, ho⟩ : ∃ o : Nat, (o : Int) = 2 + (r : Int) := ⟨2 + r, by omega⟩
  have ho2 : 2 ≤ o := by omega
  have ho64 : o ≤ 64 := by omega
  have hnew := Lib.hid (new_has w1 w1 (Tch.refl _ _) o ho2 ho64)
  have HO := Lib.hid ho
  clear ho
  go_wp2_with fail
  rw [← HO.out]
  (with_reducible refine hnew.out.mono ?_)
  rintro e w2 ⟨xb, rfl, h2⟩
  have H2 := Lib.hid h2
  clear h2 hnew HO hr
  go_upto_block 0 with fail
  go_cut [10] from 39 to 55 (fun v wr => PutsRel w1 xb o kn v wr)
  case first =>
    go_wp2_with fail
    go_loopw [10] (fun v wr => PutsRel w1 xb o kn v wr) (fun v _ => kn - (intOf v).toNat)
    case atStart => exact ⟨0, [], rfl, Nat.zero_le _, Nat.zero_le _, H2.out, Nat.zero_le _⟩
    case round =>
      obtain ⟨i, L, rfl, hi, hi2, hh, hl⟩ := hrel
      by_cases hlt : i < kn ∧ i < 200
      · obtain ⟨hlt, hlt2⟩ := hlt
        have hd : decide ((i : Int) < (kn : Int)) = true := by simpa using hlt
        have hd2 : decide ((i : Int) < 200) = true := by simp; omega
        have hq : (i : Int) < (kn : Int) := by omega
        have hq0 : (0 : Int) ≤ (i : Int) := by omega
        obtain ⟨a, s, rfl, hc⟩ := HK.out i hlt
        have cc := Tch.cell (hT1.out.trans hh.here (fun _ _ h => h)) hc
        have HP := Lib.hid ((put_has hh (by omega) s i).mono (R' := fun e w' => e = .returned (retv (lget s L)) ∧ Hid (PutsRel w1 xb o kn (.int .i64 ((i : Int) + 1)) w')) (by
          rintro e w' ⟨rfl, h⟩
          exact ⟨rfl, i + 1, _, by simp, hlt, hlt2, h, lput_le hh.srt hl⟩))
        clear hh hl hc
        go_wp2_with fail
        (with_reducible refine HP.out.mono ?_)
        rintro e w3 ⟨rfl, hrel⟩
        go_wp2_with fail
        go_roundw
        case measure => simp [intOf]; omega
        case rel => exact hrel.out
      · have hfin : Hid (PutsRel w1 xb o kn (.int .i64 i) wr) := ⟨i, L, rfl, hi, hi2, hh, hl⟩
        clear hh hl
        have hor : i = kn ∨ (i < kn ∧ i = 200) := by omega
        clear hlt
        rcases hor with rfl | ⟨hlt, rfl⟩
        · go_wp2_with fail
          go_meet
          exact hfin.out
        · have hd : decide ((200 : Int) < (kn : Int)) = true := by simp; omega
          simp only [Int.cast_ofNat_Int] at hfin ⊢
          go_wp2_with fail
          go_meet
          exact hfin.out
  case rest =>
    obtain ⟨i, L, rfl, hi, hi2, hh, hl⟩ := hcut
    have hll : L.length ≤ 200 := by omega
    have c0 : wc.cell? ⟨w.heap.size, 0, none⟩ = some (.string e0) := (hh.here.get hb1.out (fun h => h)).cell 0
    have c1 : wc.cell? ⟨w.heap.size, 1, none⟩ = some (.string e1) := (hh.here.get hb1.out (fun h => h)).cell 1
    have HSRT := Lib.hid hh.srt
    have hm1 : ∀ X, upto (-1) X = X := fun X => by simp [upto]
    have HRA := Lib.hid (ranged_has hh (by omega : L.length ≤ 1000000) ⟨#[]⟩ ⟨#[]⟩ (-1))
    obtain ⟨X, hX⟩ : ∃ X, X = rng e0 e1 L := ⟨_, rfl⟩
    have HX := Lib.hid hX
    have hxl : X.length ≤ 200 := by rw [hX]; exact Nat.le_trans (List.length_filter_le _ _) hll
    have HH := Lib.hid hh
    clear hh hl hi hi2 hX
    go_wp2_with fail
    (with_reducible refine HRA.out.mono ?_)
    rintro e w3 ⟨vA, bA, rfl, hsA, hbA, ht3⟩
    rw [hm1, rng_whole] at hsA
    have c0 := Tch.cell ht3 c0
    have c1 := Tch.cell ht3 c1
    have HH3 := Lib.hid (HH.out.tch ht3)
    have HSA := Lib.hid hsA
    clear hsA hbA ht3 HRA HH
    have HRS := Lib.hid (ranged_has HH3.out (by omega : L.length ≤ 1000000) e0 e1 (-1))
    go_wp2_with fail
    (with_reducible refine HRS.out.mono ?_)
    rintro e w4 ⟨vS, bS, rfl, hsS, hbS, ht4⟩
    rw [hm1, ← HX.out] at hsS
    have HG := Lib.hid ((HasG.of_has HH3.out).add ht4 (N := bS) (fun y hy => ⟨hbS y hy, hsS.lt y hy⟩))
    obtain ⟨aA, cA, rfl, _⟩ := HSA.out.val
    obtain ⟨aS, cS, rfl, _⟩ := hsS.val
    have HSS := Lib.hid hsS
    have hxs : Srt X := by rw [HX.out]; exact List.Pairwise.filter _ HSRT.out
    have HXS := Lib.hid hxs
    clear hsS hbS ht4 HRS HH3 c0 c1 hxs HSA
    go_wp2_with fail
    go_loopw [13] (fun v wr => DrRel w1 xb o L X (.slice aS X.length cS) bS v wr) (fun v _ => X.length - (intOf v).toNat)
    case atStart => exact ⟨0, rfl, Nat.zero_le _, by rw [List.take_zero, dropAll_nil]; exact HG.out.mono (fun y hy => by simpa using hy), HSS.out⟩
    case round =>
      obtain ⟨k, rfl, hkl, hh, hs⟩ := hrel
      by_cases hlt : k < X.length
      · have hq : (k : Int) < (X.length : Int) := by omega
        have hd : decide (k < X.length) = true := by simpa using hlt
        have hq0 : (0 : Int) ≤ (k : Int) := by omega
        obtain ⟨p, hp⟩ : ∃ p, X[k]? = some p := ⟨X[k], by simp⟩
        obtain ⟨qx, cx', sp, hxe, hbq, hqx, _⟩ := hs.pos (by omega)
        obtain ⟨rfl, rfl⟩ : aS = some ⟨qx, 0, none⟩ ∧ cS = cx' := by simpa using hxe
        have d0 := (hqx.cell _).trans (encPs_get hp sp).1
        have hget := drop_next HSRT.out (X := X) (fun q hq => by rw [HX.out] at hq; exact (List.mem_filter.1 hq).1) HXS.out hp
        have HD := Lib.hid ((drop_hasG hh (by have := dropAll_le (X.take k) L; omega) p.1).mono (R' := fun e w' => e = .returned (.tuple #[.int .i64 p.2, .bool true]) ∧ w'.cell? ⟨qx, k * 2 + 1, none⟩ = some (.int .i64 p.2) ∧ Hid (DrRel w1 xb o L X (.slice (some ⟨qx, 0, none⟩) X.length cS) bS (.int .i64 ((k : Int) + 1)) w')) (by
          rintro e w' ⟨rfl, h1, h2⟩
          have hs2 := hs.tch h2 (fun y hy h => h.2 hy)
          have hb2 := h2.get hqx (fun h => h.2 (by rw [hbq]; simp))
          refine ⟨by rw [hget]; rfl, (hb2.cell _).trans (encPs_get hp sp).2, k + 1, by simp, hlt, ?_, hs2⟩
          rw [dropAll_snoc, ← take_next hp] at h1
          exact h1))
        clear hh hs hqx hxe hbq hget hp
        go_wp2_with fail
        (with_reducible refine HD.out.mono ?_)
        rintro e w5 ⟨rfl, d1, hrel⟩
        go_wp2_with fail
        go_roundw
        case measure => simp [intOf]; omega
        case rel => exact hrel.out
      · obtain rfl : k = X.length := by omega
        rw [List.take_length] at hh
        have c0 : wr.cell? ⟨w.heap.size, 0, none⟩ = some (.string e0) := (hh.here.get hb1.out (fun h => h)).cell 0
        have c1 : wr.cell? ⟨w.heap.size, 1, none⟩ = some (.string e1) := (hh.here.get hb1.out (fun h => h)).cell 1
        have hlf := rng_left HSRT.out e0 e1
        have hlp := len_parts HSRT.out e0 e1
        rw [← HX.out] at hlf hlp
        have hd : decide (X.length < X.length) = false := by simp
        have hLs := hh.srt
        have HH4 := Lib.hid hh.has
        obtain ⟨L', hL'⟩ : ∃ L', L' = dropAll X L := ⟨_, rfl⟩
        have hl2 : L'.length ≤ 200 := by rw [hL']; exact Nat.le_trans (dropAll_le _ _) hll
        rw [← hL'] at hlf hlp hLs HH4
        have HLF := Lib.hid hlf; have HLP := Lib.hid hlp; have HLS := Lib.hid hLs
        have HRL := Lib.hid (ranged_has HH4.out (by omega : L'.length ≤ 1000000) e0 e1 (-1))
        clear hh hs hlf hlp hLs hL' HG HSS
        go_wp2_with fail
        (with_reducible refine HRL.out.mono ?_)
        rintro e w5 ⟨vL, bL, rfl, hsL, hbL, ht5⟩
        rw [hm1, HLF.out] at hsL
        obtain ⟨aL, cL, rfl, _⟩ := hsL.val
        have HH5 := Lib.hid (HH4.out.tch ht5)
        clear hsL hbL ht5 HRL c0 c1
        have HRN := Lib.hid (ranged_has HH5.out (by omega : L'.length ≤ 1000000) ⟨#[]⟩ ⟨#[]⟩ (-1))
        go_wp2_with fail
        (with_reducible refine HRN.out.mono ?_)
        rintro e w6 ⟨vN, bN, rfl, hsN, hbN, ht6⟩
        rw [hm1, rng_whole] at hsN
        obtain ⟨aN, cN, rfl, _⟩ := hsN.val
        have HH6 := Lib.hid (HH5.out.tch ht6)
        have HSN := Lib.hid hsN
        clear hsN hbN ht6 HRN
        have z0 : (([] : List Pair).length : Int) = 0 := rfl
        have hall := HLP.out
        go_wp2_with (go_at_call 22; (with_reducible refine (len_has HH6.out).mono ?_); rintro e w7 ⟨rfl, rfl⟩)
        clear hall
        go_loopw [18] (fun v wr => SameRel w7 L'.length v wr) (fun v _ => L'.length - (intOf v).toNat)
        case atStart => exact ⟨0, rfl, Nat.zero_le _, Tch.refl _ _⟩
        case round =>
          obtain ⟨k, rfl, hkl, ht⟩ := hrel
          by_cases hlt : k < L'.length
          · have hq : (k : Int) < (L'.length : Int) := by omega
            have hd : decide (k < L'.length) = true := by simpa using hlt
            have hq0 : (0 : Int) ≤ (k : Int) := by omega
            obtain ⟨p, hp⟩ : ∃ p, L'[k]? = some p := ⟨L'[k], by simp⟩
            have hget := lget_mem HLS.out (k := p.1) (m := p.2) (List.mem_of_getElem? hp)
            obtain ⟨qx, cx', sp, hxe, _, hqx, _⟩ := HSN.out.pos (by omega)
            obtain ⟨rfl, rfl⟩ : aN = some ⟨qx, 0, none⟩ ∧ cN = cx' := by simpa using hxe
            have d0 := ((ht.get hqx (fun h => h)).cell _).trans (encPs_get hp sp).1
            have HGT := Lib.hid ((get_has (HH6.out.tch ht) p.1).mono (R' := fun e w' => e = .returned (.tuple #[.int .i64 p.2, .bool true]) ∧ w'.cell? ⟨qx, k * 2 + 1, none⟩ = some (.int .i64 p.2) ∧ Hid (SameRel w7 L'.length (.int .i64 ((k : Int) + 1)) w')) (by
              rintro e w' ⟨rfl, h1, h2⟩
              exact ⟨by rw [hget]; rfl, ((h2.get (ht.get hqx (fun h => h)) (fun h => h)).cell _).trans (encPs_get hp sp).2, k + 1, by simp, hlt, ht.trans h2 (fun _ _ h => h)⟩))
            clear ht hqx hxe hget hp
            go_wp2_with fail
            (with_reducible refine HGT.out.mono ?_)
            rintro e w8 ⟨rfl, d1, hrel⟩
            go_wp2_with fail
            go_roundw
            case measure => simp [intOf]; omega
            case rel => exact hrel.out
          · obtain rfl : k = L'.length := by omega
            have hd : decide (L'.length < L'.length) = false := by simp
            have hfin : Hid (TruePost w (.returned (.bool true)) wr) := ⟨rfl, hT1.out.trans (HH6.out.here.trans ht (fun _ _ h => h)) (fun _ _ h => h)⟩
            clear ht
            go_wp2_with fail
            go_ret
            exact hfin.out
end Go.Proofs.Ytkhjhcbmefahkaa
