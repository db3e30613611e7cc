/-
  IndexRanges: a range is what lies between its ends of all; two ranges side by side are one.
-/
import Derived.Deep.Cut
import Derived.Deep.CutRange
import Derived.Deep.CutBlock
import Derived.Test.YtkhjhcbmefahkaaSam
namespace Go.Proofs.Ytkhjhcbmefahkaa
open Go.RowKit Go.Mm Go.Lst

theorem Has.srt {w0 w : World} {xb order : Nat} {L : List Pair} (h : Has w0 w xb order L) : Srt L := by
  obtain ⟨F, ⟨_, _, _, _, _, _, _, _, _, _, _, hs, _⟩, _⟩ := h
  exact hs

theorem rng_split {a b c : ByteArray} (hab : ¬ cmpB b a < 0) (hbc : ¬ cmpB c b < 0) (hb : b ≠ ⟨#[]⟩) (hc : c ≠ ⟨#[]⟩) : ∀ {L : List Pair}, Srt L → rng a c L = rng a b L ++ rng b c L
  | [], _ => rfl
  | p :: L, hs => by
    have hs' := List.pairwise_cons.1 hs
    have ih := rng_split hab hbc hb hc hs'.2
    by_cases h1 : cmpB p.1 a < 0
    · have h2 : cmpB p.1 b < 0 := by
        by_cases he : cmpB a b = 0
        · rw [← cmp_eq.1 he]; exact h1
        · refine cmp_trans h1 ?_
          rw [cmp_neg] at hab; omega
      simp only [rng, List.filter_cons] at ih ⊢
      simp [inr, h1, h2, ih]
    · by_cases h2 : cmpB p.1 b < 0
      · have h3 : cmpB p.1 c < 0 := by
          by_cases he : cmpB b c = 0
          · rw [← cmp_eq.1 he]; exact h2
          · refine cmp_trans h2 ?_
            rw [cmp_neg] at hbc; omega
        simp only [rng, List.filter_cons] at ih ⊢
        simp [inr, h1, h2, h3, hb, hc, ih]
      · have hnone : rng a b L = [] := by
          unfold rng
          rw [List.filter_eq_nil_iff]
          intro q hq
          have h4 := hs'.1 q hq
          have h5 : ¬ cmpB q.1 b < 0 := fun h => h2 (cmp_trans h4 h)
          simp [inr, h5, hb]
        rw [hnone, List.nil_append] at ih
        simp only [rng, List.filter_cons] at ih hnone ⊢
        simp [inr, h1, h2, hb, hc, ih]
        simpa [inr, hb] using hnone

/-- the slots of a slice of strings hold strings -/
def Strs (w : World) (va : Option Addr) (n : Nat) : Prop := ∀ i, i < n → ∃ a s, va = some a ∧ w.cell? (a.add i) = some (.string s)

theorem block_of_cell {w : World} {p : Addr} {v : Value} (h : w.cell? p = some v) : p.block < w.heap.size := by
  apply Classical.byContradiction
  intro hn
  simp [World.cell?, Array.getElem?_eq_none (show w.heap.size ≤ p.block by omega)] at h
theorem Tch.cell {w w' : World} (h : Tch (fun _ => False) w w') {p : Addr} {v : Value} (hc : w.cell? p = some v) : w'.cell? p = some v :=
  (World.cell?_of_block (h.block p.block (block_of_cell hc) (fun e => e))).trans hc

theorem eq_cmp (a b : ByteArray) : (a.toList == b.toList) = true ↔ cmpB a b = 0 := by
  rw [cmp_eq, beq_iff_eq, ByteArray.toList_eq, ByteArray.toList_eq]
  constructor
  · intro h
    cases a; cases b
    simpa using h
  · rintro rfl; rfl
theorem gtr_yes {a b : ByteArray} (h : (!Op.bytesLess a.toList b.toList) = true ∧ (!a.toList == b.toList) = true) : 0 ≤ cmpB a b := by
  refine Int.not_lt.1 (fun h2 => ?_)
  have := h.1
  rw [(less_cmp _ _).2 h2] at this
  cases this
theorem gtr_no {a b : ByteArray} (h : (!Op.bytesLess a.toList b.toList) = false ∨ (!a.toList == b.toList) = false) : 0 ≤ cmpB b a := by
  have e := cmp_neg a b
  rcases h with h | h
  · have := (less_cmp a b).1 (by simpa using h)
    omega
  · have := (eq_cmp a b).1 (by simpa using h)
    omega

def PutsRel (w : World) (xb order kn : Nat) (v : Value) (wr : World) : Prop := ∃ (i : Nat) (L : List Pair), v = .int .i64 i ∧ i ≤ kn ∧ i ≤ 200 ∧ Has w wr xb order L ∧ L.length ≤ i

theorem lput_le {key : ByteArray} {n : Int} {L : List Pair} (hs : Srt L) {i : Nat} (h : L.length ≤ i) : (lput key n L).length ≤ i + 1 := by
  rw [lput_length hs]
  split <;> omega

set_option maxRecDepth 100000 in
set_option maxHeartbeats 2000000 in
theorem ranges_any (w : World) (va : Option Addr) (kn kc : Nat) (hk : Strs w va kn) (e0 e1 e2 : ByteArray) :
    Calls Try.prog 3 [.slice va kn kc, .agg #[.string e0, .string e1, .string e2]].toArray w (TruePost w) := by
  have hsh := Lib.hid (fun W => shown_any W)
  have HK := Lib.hid hk
  clear hk
  go_enter Try.func3, Try.ntmps3
  go_wp2_with fail
  have hbx := Lib.hid (Blk.new w [.string e0, .string e1, .string e2] 23)
  have ht0 := Lib.hid (Tch.alloc (fun _ => False) w (.cells #[.string e0, .string e1, .string e2] 23))
  refine (hsh.out _).mono ?_
  rintro e w1 ⟨rfl, ht1⟩
  have hb1 := Lib.hid (ht1.get hbx.out (fun h => h))
  have hT1 := Lib.hid (ht0.out.trans ht1 (fun _ _ h => h))
  clear ht1 hbx ht0 hsh
  have hnew := Lib.hid (new_has w1 w1 (Tch.refl _ _) 3 (by omega) (by omega))
  go_wp2_with fail
  refine hnew.out.mono ?_
  rintro e w2 ⟨xb, rfl, h2⟩
  have H2 := Lib.hid h2
  clear h2 hnew
  go_upto_block 0 with fail
  go_cut [8] from 34 to 50 (fun v wr => PutsRel w1 xb 3 kn v wr)
  case first =>
    go_wp2_with fail
    go_loopw [8] (fun v wr => PutsRel w1 xb 3 kn v wr) (fun v _ => kn - (intOf v).toNat)
    case atStart => exact ⟨0, [], rfl, Nat.zero_le _, Nat.zero_le _, H2.out, Nat.zero_le _⟩
    case round =>
      obtain ⟨i, L, rfl, hi, hi2, hh, hl⟩ := hrel
      by_cases hlt : i < kn ∧ i < 200
      · obtain ⟨hlt, hlt2⟩ := hlt
        have hd : decide ((i : Int) < (kn : Int)) = true := by simpa using hlt
        have hd2 : decide ((i : Int) < 200) = true := by simp; omega
        have hq : (i : Int) < (kn : Int) := by omega
        have hq0 : (0 : Int) ≤ (i : Int) := by omega
        obtain ⟨a, s, rfl, hc⟩ := HK.out i hlt
        have cc := Tch.cell (hT1.out.trans hh.here (fun _ _ h => h)) hc
        have HP := Lib.hid ((put_has hh (by omega) s i).mono (R' := fun e w' => e = .returned (retv (lget s L)) ∧ Hid (PutsRel w1 xb 3 kn (.int .i64 ((i : Int) + 1)) w')) (by
          rintro e w' ⟨rfl, h⟩
          exact ⟨rfl, i + 1, _, by simp, hlt, hlt2, h, lput_le hh.srt hl⟩))
        clear hh hl hc
        go_wp2_with fail
        refine HP.out.mono ?_
        rintro e w3 ⟨rfl, hrel⟩
        go_wp2_with fail
        go_roundw
        case measure => simp [intOf]; omega
        case rel => exact hrel.out
      · have hfin : Hid (PutsRel w1 xb 3 kn (.int .i64 i) wr) := ⟨i, L, rfl, hi, hi2, hh, hl⟩
        clear hh hl
        have hor : i = kn ∨ (i < kn ∧ i = 200) := by omega
        clear hlt
        rcases hor with rfl | ⟨hlt, rfl⟩
        · go_wp2_with fail
          go_meet
          exact hfin.out
        · have hd : decide ((200 : Int) < (kn : Int)) = true := by simp; omega
          simp only [Int.cast_ofNat_Int] at hfin ⊢
          go_wp2_with fail
          go_meet
          exact hfin.out
  case rest =>
    obtain ⟨i, L, rfl, hi, hi2, hh, hl⟩ := hcut
    have HH := Lib.hid hh
    have hll : L.length ≤ 200 := by omega
    have c0 : wc.cell? ⟨w.heap.size, 0, none⟩ = some (.string e0) := (hh.here.get hb1.out (fun h => h)).cell 0
    have c1 : wc.cell? ⟨w.heap.size, 1, none⟩ = some (.string e1) := (hh.here.get hb1.out (fun h => h)).cell 1
    have c2 : wc.cell? ⟨w.heap.size, 2, none⟩ = some (.string e2) := (hh.here.get hb1.out (fun h => h)).cell 2
    clear hh hl hi hi2
    go_wp2_with fail
    go_quiet (fail)
    have HH2 := Lib.hid (HH.out.tch (w' := wc.drewN nq) ⟨rfl, rfl, rfl, Nat.le_refl _, fun _ _ _ => rfl⟩)
    generalize World.drewN _ nq = w5 at *
    clear c0 c1 c2 HH
    go_upto_if 59 with fail
    go_cut [9, 10] from 57 to 61 (fun x y wr => ∃ a b, x = .string a ∧ y = .string b ∧ 0 ≤ cmpB b a ∧ wr = w5)
    case first =>
      go_wp2_with fail
      · have h := gtr_yes (a := e0) (b := e1) (by assumption)
        go_meet
        exact ⟨e1, e0, rfl, rfl, h, rfl⟩
      · have h := gtr_no (a := e0) (b := e1) (by assumption)
        go_meet
        exact ⟨e0, e1, rfl, rfl, h, rfl⟩
    case rest =>
    obtain ⟨a, b, rfl, rfl, hab, rfl⟩ := hcut
    have HAB := Lib.hid hab
    clear hab
    go_upto_if 64 with fail
    go_cut [10, 11] from 62 to 66 (fun x y wr => ∃ b' c, x = .string b' ∧ y = .string c ∧ 0 ≤ cmpB c b' ∧ 0 ≤ cmpB c a ∧ wr = wc)
    case first =>
      go_wp2_with fail
      · have h := gtr_yes (a := b) (b := e2) (by assumption)
        go_meet
        exact ⟨e2, b, rfl, rfl, h, HAB.out, rfl⟩
      · have h := gtr_no (a := b) (b := e2) (by assumption)
        go_meet
        refine ⟨b, e2, rfl, rfl, h, Int.not_lt.1 (fun h2 => ?_), rfl⟩
        have h3 := HAB.out
        by_cases he : cmpB b a = 0
        · rw [cmp_eq.1 he] at h; omega
        · have h4 := cmp_trans h2 (show cmpB a b < 0 by have := cmp_neg a b; omega)
          omega
    case rest =>
    obtain ⟨b', c, rfl, rfl, hbc, hac, rfl⟩ := hcut
    have HBC := Lib.hid hbc; have HAC := Lib.hid hac
    clear hbc hac HAB
    go_upto_if 69 with fail
    go_cut [9, 10] from 67 to 71 (fun x y wr => ∃ a2 b2, x = .string a2 ∧ y = .string b2 ∧ 0 ≤ cmpB b2 a2 ∧ 0 ≤ cmpB c b2 ∧ wr = wc)
    case first =>
      go_wp2_with fail
      · have h := gtr_yes (a := a) (b := b') (by assumption)
        go_meet
        exact ⟨b', a, rfl, rfl, h, HAC.out, rfl⟩
      · have h := gtr_no (a := a) (b := b') (by assumption)
        go_meet
        exact ⟨a, b', rfl, rfl, h, HBC.out, rfl⟩
    case rest =>
    obtain ⟨a2, b2, rfl, rfl, hab, hbc, rfl⟩ := hcut
    have HAB := Lib.hid hab; have HBC2 := Lib.hid hbc
    clear hab hbc HBC HAC
    have hfin0 : Hid (TruePost w (.returned (.bool true)) wc) := ⟨rfl, hT1.out.trans HH2.out.here (fun _ _ h => h)⟩
    by_cases hb : b2.toList = []
    · go_wp2_with fail
      go_ret
      exact hfin0.out
    have hbe : b2.toList.isEmpty = false := by simpa using hb
    by_cases hc : c.toList = []
    · have hce : c.toList.isEmpty = true := by simpa using hc
      go_wp2_with fail
      go_ret
      exact hfin0.out
    have hce : c.toList.isEmpty = false := by simpa using hc
    have hsplit := Lib.hid (rng_split (a := a2) (Int.not_lt.2 HAB.out) (Int.not_lt.2 HBC2.out) (fun e => hb ((empty_iff _).2 e)) (fun e => hc ((empty_iff _).2 e)) HH2.out.srt)
    have hnb := Lib.hid (fun e => hb ((empty_iff b2).2 e)); have hnc := Lib.hid (fun e => hc ((empty_iff c).2 e))
    have hm1 : ∀ X, upto (-1) X = X := fun X => by simp [upto]
    have hXl : ∀ f t, (rng f t L).length ≤ 200 := fun f t => Nat.le_trans (List.length_filter_le _ _) hll
    obtain ⟨X, hX⟩ : ∃ X, X = rng a2 c L := ⟨_, rfl⟩
    obtain ⟨Y, hY⟩ : ∃ Y, Y = rng a2 b2 L := ⟨_, rfl⟩
    obtain ⟨Z, hZ⟩ : ∃ Z, Z = rng b2 c L := ⟨_, rfl⟩
    have hXl := hX ▸ hXl a2 c
    have hRX := Lib.hid (ranged_has HH2.out (by omega : L.length ≤ 1000000) a2 c (-1))
    go_wp2_with fail
    refine hRX.out.mono ?_
    rintro e w6 ⟨vx, bx, rfl, hsx, hbx, ht6⟩
    rw [hm1, ← hX] at hsx
    have H6 := Lib.hid (HH2.out.tch ht6)
    have hRY := Lib.hid (ranged_has H6.out (by omega : L.length ≤ 1000000) a2 b2 (-1))
    have HSX := Lib.hid hsx
    clear hsx ht6 hbx hRX
    go_wp2_with fail
    refine hRY.out.mono ?_
    rintro e w7 ⟨vy, bY, rfl, hsy, hby, ht7⟩
    rw [hm1, ← hY] at hsy
    have H7 := Lib.hid (H6.out.tch ht7)
    have HSX7 := Lib.hid (HSX.out.tch ht7 (fun _ _ h => h))
    have hRZ := Lib.hid (ranged_has H7.out (by omega : L.length ≤ 1000000) b2 c (-1))
    have HSY := Lib.hid hsy
    clear hsy ht7 hby hRY HSX
    go_wp2_with fail
    refine hRZ.out.mono ?_
    rintro e w8 ⟨vz, bz, rfl, hsz, hbz, ht8⟩
    rw [hm1, ← hZ] at hsz
    have H8 := Lib.hid (H7.out.tch ht8)
    have HSX8 := Lib.hid (HSX7.out.tch ht8 (fun _ _ h => h))
    have HSY8 := Lib.hid (HSY.out.tch ht8 (fun _ _ h => h))
    have HSZ8 := Lib.hid hsz
    clear hsz ht8 hbz hRZ HSX7 HSY H6 H7
    obtain ⟨W9, hW9⟩ : ∃ W9, w8.alloc (.cells #[] 35) = W9 := ⟨_, rfl⟩
    have ht9 : Tch (fun _ => False) w8 W9 := by rw [← hW9]; exact Tch.alloc _ _ _
    have hS0 : Sl W9 35 2 (.slice (some ⟨w8.heap.size, 0, none⟩) 0 0) [w8.heap.size] 0 [] :=
      .inr ⟨w8.heap.size, 0, [], rfl, rfl, by rw [← hW9]; exact Blk.newLast (w := w8) [] 35 rfl, rfl, rfl, Nat.le_refl _⟩
    have hY9 := HSY8.out.tch ht9 (fun _ _ h => h)
    have hZ9 := HSZ8.out.tch ht9 (fun _ _ h => h)
    have hX9 := HSX8.out.tch ht9 (fun _ _ h => h)
    have hyl : Y.length ≤ 200 := by rw [hY]; exact Nat.le_trans (List.length_filter_le _ _) hll
    have hzl : Z.length ≤ 200 := by rw [hZ]; exact Nat.le_trans (List.length_filter_le _ _) hll
    obtain ⟨v1, w10, bl1, hr1, hs1, ht10, hb1'⟩ := Sl.append (P := Try.prog) (t := 31) (t' := 31) (ty := 31) Try.underlying31 Try.underlying31 infoP35 (by decide) rfl hS0 hY9.src (hY9.drew).src (encPs_one Y) (by omega)
    have ht810 : Tch (fun _ => False) w8 w10 := ht9.trans ht10 (fun k hk hs => by simp only [List.mem_singleton] at hs; omega)
    have hZ10 := HSZ8.out.tch ht810 (fun _ _ h => h)
    obtain ⟨v2, w11, bl2, hr2, hs2, ht11, hb2'⟩ := Sl.append (P := Try.prog) (t := 31) (t' := 31) (ty := 31) Try.underlying31 Try.underlying31 infoP35 (by decide) rfl hs1 hZ10.src (hZ10.drew).src (encPs_one Z) (by omega)
    have ht811 : Tch (fun _ => False) w8 w11 := ht810.trans ht11 (fun k hk hs => by
      rcases hb1' k hs with h | h
      · simp only [List.mem_singleton] at h; omega
      · have := ht9.size; omega)
    have hXYZ : X = Y ++ Z := by rw [hX, hY, hZ]; exact hsplit.out
    have HS2 := Lib.hid (show Sl w11 35 2 v2 bl2 X.length (encPs X) from by
      rw [List.nil_append, ← encPs_append, ← hXYZ] at hs2
      rw [show X.length = 0 + Y.length + Z.length by rw [hXYZ, List.length_append]; omega]
      exact hs2)
    have HX11 := Lib.hid (HSX8.out.tch ht811 (fun _ _ h => h))
    have H11 := Lib.hid (H8.out.tch ht811)
    have HR1 := Lib.hid hr1; have HR2 := Lib.hid hr2
    have HXE := Lib.hid hX
    clear hr1 hr2 hs1 hs2 ht10 ht11 hb1' hb2' ht810 hZ10 ht811 hXYZ hS0 hY9 hZ9 hX9 ht9 hyl hzl HSY8 HSZ8 hsplit HSX8 H8 hY hZ hX
    have hw := Lib.hid hW9
    clear hW9
    go_wp2_with (at_builtin; first | (rw [hw.out]; refine wpList_append rfl (.tmp 90) (.tmp 91) 31 31 rfl _ _ HR1.out ?_) | refine wpList_append rfl (.tmp 92) (.tmp 93) 31 31 rfl _ _ HR2.out ?_)
    obtain ⟨ax, cx, rfl, _⟩ := HX11.out.val
    go_loopw [16] (fun v wr => SameRel w11 X.length v wr) (fun v _ => X.length - (intOf v).toNat)
    case atStart => exact ⟨0, rfl, Nat.zero_le _, Tch.refl _ _⟩
    case round =>
      obtain ⟨k, rfl, hkl, ht⟩ := hrel
      by_cases hlt : k < X.length
      · have hd : decide ((k : Int) < (X.length : Int)) = true := by simpa using hlt
        have hq : (k : Int) < (X.length : Int) := by omega
        have hq0 : (0 : Int) ≤ (k : Int) := by omega
        obtain ⟨p, hp⟩ : ∃ p, X[k]? = some p := ⟨X[k], by simp⟩
        have hpm : p ∈ rng a2 c L := HXE.out ▸ List.mem_of_getElem? hp
        have hpL : p ∈ L := (List.mem_filter.1 hpm).1
        have hpi := (List.mem_filter.1 hpm).2
        have hget := lget_mem H11.out.srt hpL
        obtain ⟨qx, cx', sp, hxe, _, hqx, _⟩ := HX11.out.pos (by omega)
        obtain ⟨rfl, rfl⟩ : ax = some ⟨qx, 0, none⟩ ∧ cx = cx' := by simpa using hxe
        have d0 := ((ht.get hqx (fun h => h)).cell _).trans (encPs_get hp sp).1
        have HG := Lib.hid (get_has (H11.out.tch ht) p.1)
        have HT := Lib.hid ht; have HQ := Lib.hid hqx; have HP := Lib.hid hp
        have HGET := Lib.hid hget; have HPI := Lib.hid hpi
        clear ht hqx hp hpm hpL hget hpi hxe
        go_wp2_with fail
        refine HG.out.mono ?_
        rintro e w12 ⟨rfl, h12, ht12⟩
        rw [HGET.out, show retv (some p.2) = .tuple #[.int .i64 p.2, .bool true] from rfl]
        have HT2 := Lib.hid (HT.out.trans ht12 (fun _ _ h => h))
        clear h12 ht12 d0
        have d0 := ((HT2.out.get HQ.out (fun h => h)).cell _).trans (encPs_get HP.out sp).1
        have d1 := ((HT2.out.get HQ.out (fun h => h)).cell _).trans (encPs_get HP.out sp).2
        have hpi := HPI.out
        have q2 : Op.bytesLess p.1.toList a2.toList = false := by
          rw [Bool.eq_false_iff]
          intro h
          have := (less_cmp _ _).1 h
          simp [inr, this] at hpi
        have q3 : Op.bytesLess p.1.toList c.toList = true := by
          refine (less_cmp _ _).2 ?_
          simp [inr] at hpi
          exact hpi.2.resolve_left hnc.out
        clear hpi
        have hrel : Hid (∀ m, SameRel w11 X.length (.int .i64 ((k : Int) + 1)) (w12.drewN m)) := fun m => ⟨k + 1, by simp, hlt, HT2.out.trans (S' := fun _ => False) ⟨rfl, rfl, rfl, Nat.le_refl _, fun _ _ _ => rfl⟩ (fun _ _ h => h)⟩
        cases k with
        | zero =>
          simp only [Int.cast_ofNat_Int] at *
          go_wp2_with fail
          go_quiet (fail)
          go_wp2_with fail
          go_roundw
          case measure => simp [intOf]; omega
          case rel => exact hrel.out _
        | succ j =>
          obtain ⟨p', hp'⟩ : ∃ p', X[j]? = some p' := ⟨X[j], by simp⟩
          have hlt2 : cmpB p'.1 p.1 < 0 := by
            have hsx : Srt X := by rw [HXE.out]; exact List.Pairwise.filter _ HH2.out.srt
            obtain ⟨h1, e1⟩ := List.getElem?_eq_some_iff.1 hp'
            obtain ⟨h2, e2⟩ := List.getElem?_eq_some_iff.1 HP.out
            have := List.pairwise_iff_getElem.1 hsx j (j + 1) h1 h2 (by omega)
            rw [e1, e2] at this
            exact this
          have f0 := ((HT2.out.get HQ.out (fun h => h)).cell _).trans (encPs_get hp' sp).1
          have q4 : Op.bytesLess p.1.toList p'.1.toList = false := by
            rw [Bool.eq_false_iff]; intro h
            have := (less_cmp _ _).1 h
            rw [cmp_neg] at this; omega
          have q5 : (p.1.toList == p'.1.toList) = false := by
            rw [Bool.eq_false_iff]; intro h
            have := (eq_cmp _ _).1 h
            rw [cmp_neg] at this; omega
          have q6 : Op.bytesLess p'.1.toList p.1.toList = true := (less_cmp _ _).2 hlt2
          have q7 : (0 : Int) < (j : Int) + 1 := by omega
          have q8 : (j : Int) < (X.length : Int) := by omega
          have q9 : (0 : Int) ≤ (j : Int) := by omega
          have q10 : (j : Int) + 1 - 1 = (j : Int) := by omega
          clear hp' hlt2
          simp only [Int.natCast_add, Int.cast_ofNat_Int] at *
          go_wp2_with fail
          go_quiet (fail)
          go_wp2_with fail
          go_roundw
          case measure => simp [intOf]; omega
          case rel => exact hrel.out _
      · obtain rfl : k = X.length := by omega
        have hd : decide ((X.length : Int) < (X.length : Int)) = false := by simp
        have HSM := Lib.hid (same_true (HX11.out.tch ht (fun _ _ h => h)) (HS2.out.tch ht (fun _ _ h => h)) (by omega))
        have HT := Lib.hid (hT1.out.trans (H11.out.tch ht).here (fun _ _ h => h))
        clear ht
        go_wp2_with fail
        refine HSM.out.mono ?_
        rintro e w13 ⟨rfl, ht13⟩
        have hfin : Hid (TruePost w (.returned (.bool true)) w13) := ⟨rfl, HT.out.trans ht13 (fun _ _ h => h)⟩
        clear ht13
        go_wp2_with fail
        go_ret
        exact hfin.out

end Go.Proofs.Ytkhjhcbmefahkaa
