/-
  IndexMany: many keys, put in any order and dropped in any other one, are just there, and the tree is empty in the end.
-/
import Derived.Test.YtkhjhcbmefahkaaKya
import Derived.Test.YtkhjhcbmefahkaaMnl
import Derived.Test.YtkhjhcbmefahkaaRgd
import Derived.Test.YtkhjhcbmefahkaaDpl
namespace Go.Proofs.Ytkhjhcbmefahkaa
open Go.RowKit Go.Mm Go.Lst Go.Shelf

attribute [local go_sem] Oper.semAt_some
attribute [local go_sem] wide_fn wide_depth

def M1Rel (w1 : World) (xb o n s : Nat) (k v : Value) (wr : World) : Prop := ∃ (i : Nat) (L : List Pair), v = .int .i64 i ∧ i ≤ n ∧ k = .int .i64 (i * s % n : Nat) ∧ Has w1 wr xb o L ∧ KB (Vis s n i) L ∧ L.length = i
def Full (w1 : World) (xb o n : Nat) (wr : World) : Prop := ∃ L, Has w1 wr xb o L ∧ KB (fun m => m < n) L ∧ L.length = n

theorem put_step {w1 wr : World} {xb o n s i : Nat} {L : List Pair} (hn : n ≤ 600) (hi : i < n) (hg : Nat.gcd s n = 1) (h : Has w1 wr xb o L) (hk : KB (Vis s n i) L) (hl : L.length = i) :
    Calls Try.prog 10 #[.pointer (some ⟨xb, 0, none⟩), .string (keyS (i * s % n)), .int .i64 (i * s % n : Nat)] wr fun e w' => e = .returned (.tuple #[.int .i64 0, .bool false]) ∧ ∃ L', L'.length = i + 1 ∧ Has w1 w' xb o L' ∧ KB (Vis s n (i + 1)) L' := by
  have hlt : i * s % n < n := Nat.mod_lt _ (by omega)
  have hnv := vis_new hg hi
  refine (put_has h (by omega) (keyS (i * s % n)) (i * s % n : Nat)).mono ?_
  rintro e w' ⟨rfl, h1⟩
  obtain ⟨h2, h3⟩ := hk.put (m := i * s % n) (by omega) hnv
  exact ⟨by rw [hk.not (by omega) hnv]; rfl, _, by rw [h3, hl], h1, h2.congr (fun m => vis_succ.symm)⟩

theorem body_ok {W : World} {B : Nat} {v u : Value} (Lc : Array Value) (hv : Boxed W B 3 v) :
    KeepsOthers W ((W.setCell ⟨B, 0, none⟩ u).alloc (.cells Lc 5)) ∧ Kp [3] W ((W.setCell ⟨B, 0, none⟩ u).alloc (.cells Lc 5)) ∧ Boxed ((W.setCell ⟨B, 0, none⟩ u).alloc (.cells Lc 5)) B 3 u := by
  have hb : Blk W B [v] 3 := hv
  refine ⟨(KeepsOthers.setCell _ _ _).trans (KeepsOthers.alloc _ _), Kp.trans (show Kp [3] W (W.setCell ⟨B, 0, none⟩ u) from Tch.setCell W (a := ⟨B, 0, none⟩) ?_ u) (Kp.of_tch (Tch.alloc _ _ _)), (hb.setC 0 u).alloc _⟩
  rintro ⟨cs, t, fz, h1, h2⟩
  rw [show W.heap[B]? = _ from hb] at h1
  cases h1
  simp at h2

set_option maxRecDepth 100000 in
set_option maxHeartbeats 4000000 in
theorem many_any (w : World) (order keys s1 s2 : Int) (ho0 : -9223372036854775808 ≤ order) (ho1 : order ≤ 9223372036854775807) (hk0 : -9223372036854775808 ≤ keys) (hk1 : keys ≤ 9223372036854775807)
    (ha0 : -9223372036854775808 ≤ s1) (ha1 : s1 ≤ 9223372036854775807) (hb0 : -9223372036854775808 ≤ s2) (hb1 : s2 ≤ 9223372036854775807) :
    Calls Try.prog 5 [.int .i64 order, .int .i64 keys, .agg #[.int .i64 s1, .int .i64 s2]].toArray w (TruePost w) := by
  refine (callsIn_wide (n := 9)).1 ?_
  refine callsIn_of_wp_marks Try.func5 rfl trivial ?_ rfl
  simp only [Try.ntmps5, List.size_toArray, List.length_cons, List.length_nil, Nat.reduceAdd, Nat.reduceSub, Array.replicate_succ, Array.replicate_zero, List.push_toArray, List.append_toArray, List.nil_append, List.cons_append]
  refine wpIn_wide.2 ?_
  have hsh := Lib.hid (fun W => shown_any W)
  have HAM := Lib.hid (fun W => among_any order 63 W ho0 ho1 (by omega) (by omega))
  have HAK := Lib.hid (fun W => among_any keys 601 W hk0 hk1 (by omega) (by omega))
  have HS1 := Lib.hid (fun n hn W => step_any s1 n hn W ha0 ha1)
  have HS2 := Lib.hid (fun n hn W => step_any s2 n hn W hb0 hb1)
  clear ho0 ho1 hk0 hk1 ha0 ha1 hb0 hb1
  go_wp2_with fail
  have hbx := Blk.new w [.int .i64 s1, .int .i64 s2] 49
  have hrc := Blk.newLast (w := w.alloc (.cells #[.int .i64 s1, .int .i64 s2] 49)) (n := w.heap.size + 1) [.bool false] 4 (by simp)
  have ht0 : Tch (fun _ => False) w ((w.alloc (.cells #[.int .i64 s1, .int .i64 s2] 49)).alloc (.cells #[.bool false] 4)) := (Tch.alloc _ _ _).trans (Tch.alloc _ _ _) (fun _ _ h => h)
  (with_reducible refine (hsh.out _).mono ?_)
  rintro e w1 ⟨rfl, ht1⟩
  have HBX := Lib.hid (ht1.get ((Tch.alloc (fun _ => False) _ _).get hbx (fun h => h)) (fun h => h))
  have HRC := Lib.hid (ht1.get hrc (fun h => h))
  have HT1 := Lib.hid (ht0.trans ht1 (fun _ _ h => h))
  clear ht1 hbx hrc ht0 hsh
  go_wp2_with fail
  (with_reducible refine (HAM.out _).mono ?_)
  rintro e w1' ⟨r, rfl, hr, rfl⟩
  obtain ⟨o, ho⟩ : ∃ o : Nat, (o : Int) = 2 + (r : Int) := ⟨2 + r, by omega⟩
  have ho2 : 2 ≤ o := by omega
  have ho64 : o ≤ 64 := by omega
  have hnew := Lib.hid (new_has w1 w1 (Tch.refl _ _) o ho2 ho64)
  have hwo : wrap64 (2 + (r : Int)) = (o : Int) := by rw [← ho]; exact IntWalk.wrap64_in _ (by omega)
  have HO := Lib.hid ho
  clear HAM ho hwo
  go_wp2_with fail
  rw [← HO.out]
  (with_reducible refine (HAK.out _).mono ?_)
  rintro e w1' ⟨n, rfl, hn, rfl⟩
  have hn6 : n ≤ 600 := by omega
  have HN1 := Lib.hid (HS1.out n hn6)
  have HN2 := Lib.hid (HS2.out n hn6)
  clear HAK hn HS1 HS2 hr HO
  go_wp2_with fail
  (with_reducible refine hnew.out.mono ?_)
  rintro e w2 ⟨xb, rfl, h2⟩
  have H2 := Lib.hid h2
  have b0 : w2.cell? ⟨w.heap.size, 0, none⟩ = some (.int .i64 s1) := (h2.here.get HBX.out (fun h => h)).cell 0
  clear h2 hnew
  go_wp2_with fail
  (with_reducible refine (HN1.out _).mono ?_)
  rintro e w3 ⟨p1, rfl, hp1, hp7, hg1, ht3⟩
  have H3 := Lib.hid (H2.out.tch ht3)
  have b1 : w3.cell? ⟨w.heap.size, 1, none⟩ = some (.int .i64 s2) := (H3.out.here.get HBX.out (fun h => h)).cell 1
  have HG1 := Lib.hid hg1
  clear H2 ht3 b0 HN1 hg1
  go_wp2_with fail
  (with_reducible refine (HN2.out _).mono ?_)
  rintro e w4 ⟨p2, rfl, hp2, hp27, hg2, ht4⟩
  have H4 := Lib.hid (H3.out.tch ht4)
  have HG2 := Lib.hid hg2
  clear H3 ht4 b1 HN2 hg2
  go_upto_block 0 with fail
  go_cut [14] from 56 to 81 (fun _ wr => Full w1 xb o n wr)
  case first =>
    go_wp2_with fail
    go_loopw [13, 14] (fun k v wr => M1Rel w1 xb o n p1 k v wr) (fun _ v _ => n - (intOf v).toNat)
    case atStart => exact ⟨0, [], rfl, Nat.zero_le _, by simp, H4.out, KB.nil.congr (fun m => by simp [vis_zero]), rfl⟩
    case round =>
      obtain ⟨i, L, rfl, hi, rfl, hh, hkb, hl⟩ := hrel
      by_cases hlt : i < n
      · have hd : decide (i < n) = true := by simpa using hlt
        have hq0 : (0 : Int) ≤ (i : Int) := by omega
        have hq1 : (1 : Int) ≤ (n : Int) := by omega
        have hnz : ((n : Int) == 0) = false := by rw [beq_eq_false_iff_ne]; omega
        have hkn : i * p1 % n < n := Nat.mod_lt _ (by omega)
        have hnx : (((i + 1) * p1 % n : Nat) : Int) = ((i * p1 % n : Nat) + (p1 : Int)) % (n : Int) := by rw [← vis_next]; simp
        have HP := Lib.hid (fun W (ht : Tch (fun _ => False) wr W) => put_step hn6 hlt HG1.out (hh.tch ht) hkb hl)
        have HNX := Lib.hid hnx
        obtain ⟨k, hk⟩ : ∃ k : Nat, k = i * p1 % n := ⟨_, rfl⟩
        rw [← hk] at hkn HP HNX ⊢
        clear hh hkb hl hnx hk
        go_wp2_with fail
        (with_reducible refine (key_any k (by omega) _).mono ?_)
        rintro e w5 ⟨rfl, LK, rfl⟩
        go_wp2_with fail
        (with_reducible refine (HP.out _ (Tch.alloc _ _ _)).mono ?_)
        rintro e w6 ⟨rfl, L', hl', h6, hkb'⟩
        have HLN : Hid (Calls Try.prog 22 #[.pointer (some ⟨xb, 0, none⟩)] w6 fun e w' => e = .returned (.int .i64 ((i : Int) + 1)) ∧ w' = w6) := by
          have := len_has h6
          rw [hl'] at this
          exact Lib.hid (by simpa using this)
        have hrel : Hid (M1Rel w1 xb o n p1 (.int .i64 (((k : Int) + (p1 : Int)) % (n : Int))) (.int .i64 ((i : Int) + 1)) w6) := ⟨i + 1, L', by simp, hlt, by rw [HNX.out], h6, hkb', hl'⟩
        clear hl' h6 hkb' HP HNX
        go_wp2_with (go_at_call 22; (with_reducible refine HLN.out.mono ?_); rintro e w7 ⟨rfl, rfl⟩)
        go_roundw
        case measure => simp [intOf]; omega
        case rel => exact hrel.out
      · obtain rfl : i = n := by omega
        have hd : decide (i < i) = false := by simp
        have hfin : Hid (Full w1 xb o i wr) := by
          refine ⟨L, hh, ?_, hl⟩
          by_cases h0 : i = 0
          · subst h0
            exact hkb.congr (fun m => by simp [vis_zero])
          · exact hkb.full (fun m hm => vis_lt (by omega) hm) hl
        clear hh hkb hl
        go_wp2_with fail
        go_meet
        exact hfin.out
  case rest =>
  have HFU := Lib.hid hcut
  clear hcut H4
  go_wp2_with fail
  (with_reducible refine ((callsIn_wide (n := 9)).1 (range_in 9 _ ⟨#[]⟩ ⟨#[]⟩ _)).mono ?_)
  rintro e w' ⟨rfl, rfl⟩
  go_wp2_with fail
  obtain ⟨W0, hW0⟩ : ∃ W0, ((((wc.alloc (.cells #[.int .i64 (-1)] 3)).alloc (.cells #[.pointer (some ⟨xb, 0, none⟩)] 25)).alloc (.cells #[.string ⟨#[]⟩] 9)).alloc (.cells #[.string ⟨#[]⟩] 9)) = W0 := ⟨_, rfl⟩
  rw [hW0]
  have hsz : W0.heap.size = wc.heap.size + 4 := by rw [← hW0]; simp
  have hT : Tch (fun _ => False) wc W0 := by
    rw [← hW0]
    exact (((Tch.alloc _ _ _).trans (Tch.alloc _ _ _) (fun _ _ h => h)).trans (Tch.alloc _ _ _) (fun _ _ h => h)).trans (Tch.alloc _ _ _) (fun _ _ h => h)
  have b3 : Boxed W0 wc.heap.size 3 (.int .i64 (-1)) := by rw [← hW0]; exact (((Boxed.new wc 3 _).alloc _).alloc _).alloc _
  have hx : Blk W0 (wc.heap.size + 1) [.pointer (some ⟨xb, 0, none⟩)] 25 := by
    rw [← hW0]
    have := Blk.newLast (w := wc.alloc (.cells #[.int .i64 (-1)] 3)) (n := wc.heap.size + 1) [.pointer (some ⟨xb, 0, none⟩)] 25 (by simp)
    exact (this.alloc _).alloc _
  have hf : Blk W0 (wc.heap.size + 1 + 1) [.string ⟨#[]⟩] 9 := by
    rw [← hW0]
    have := Blk.newLast (w := (wc.alloc (.cells #[.int .i64 (-1)] 3)).alloc (.cells #[.pointer (some ⟨xb, 0, none⟩)] 25)) (n := wc.heap.size + 1 + 1) [.string ⟨#[]⟩] 9 (by simp)
    exact this.alloc _
  have ht : Blk W0 (wc.heap.size + 1 + 2) [.string ⟨#[]⟩] 9 := by
    rw [← hW0]
    exact Blk.newLast _ _ (by simp)
  obtain ⟨L, hL, hKB, hLn⟩ := HFU.out
  obtain ⟨F, hIx, _⟩ := hL.tch hT
  have hBel : Below wc.heap.size wc W0 := hT.below
  have hrc0 : Blk wc (w.heap.size + 1) [.bool false] 4 := hL.here.get HRC.out (fun h => h)
  have HKB := Lib.hid hKB; have HLN := Lib.hid hLn; have HL := Lib.hid hL; have HRC0 := Lib.hid hrc0; have HTW := Lib.hid hT
  clear hKB hLn hL HFU hT hrc0
  refine (wpIn_wide (n := 9)).1 ?_
  refine wpIn_rangeFunc_ownG rfl (by omega) (gf := 34) (lb := #[.pointer (some ⟨wc.heap.size + 1 + 1, 0, none⟩), .pointer (some ⟨wc.heap.size + 1 + 2, 0, none⟩), .pointer (some ⟨wc.heap.size + 1, 0, none⟩)]) rfl trivial (enters_of Try.func34 (by kernel_rfl) rfl)
    (range_stops [3] (by unfold Safe; decide) (9 - 1) hIx ⟨#[]⟩ ⟨#[]⟩ _ _ _ hf ht hx) Kp.trans (fun W l o o' _ h hc _ => Kp.putObj W l o o' h hc) (Below.refl _ _) (fun _ => rfl)
    (fun pre W => (Boxed W wc.heap.size 3 (.int .i64 (lastv pre)) ∧ -1 ≤ lastv pre) ∧ Below wc.heap.size wc W)
    (fun c pre _ => c = .ret ∧ Bad pre)
    (OwnFrom.and (OwnFrom.and (Own.from (boxed_own _ _ (fun pre => .int .i64 (lastv pre))) _) (ownFrom_pure _ _)) (ownFrom_below (Nat.le_refl _) (by omega)))
    (fun c => ownFrom_pure _ _)
    ⟨⟨b3, by simp [lastv]⟩, hBel⟩
    ?a1 ?assign ?body ?done ?stop
  case assign =>
    intro l x W K hK
    gi_wp2
    exact hK
  case body =>
    rintro l pre x W ⟨⟨hv, hm⟩, hB⟩ hlt
    have hc := hv.cell
    have hfz := hv.frozen
    have hrW : Blk W (w.heap.size + 1) [.bool false] 4 := (hB.block _ (HRC0.out.lt)).trans HRC0.out
    have r0 : W.cell? ⟨w.heap.size + 1, 0, none⟩ = some (.bool false) := hrW.cell 0
    have r1 : W.frozen? ⟨w.heap.size + 1, 0, none⟩ = false := hrW.frozen 0
    have lW := hB.size
    have HV := Lib.hid hv; have HBB := Lib.hid hB; have HRW := Lib.hid hrW
    clear hv hB hrW hlt
    by_cases hA : x.2 ≤ lastv pre
    · have qa : decide (x.2 ≤ lastv pre) = true := by simpa using hA
      have hbad : Hid (Bad (pre ++ [x])) := ⟨pre, x, rfl, fun h => by have := h.1; omega⟩
      gi_wp2_with fail
      exact ⟨(KeepsOthers.setCell _ _ _).from _, rfl, hbad.out⟩
    · have qa : decide (x.2 ≤ lastv pre) = false := by simpa using hA
      have q0 : 0 ≤ x.2 := by omega
      have HKY := Lib.hid (fun W' => key_arb x.2 q0 W')
      have lb : w.heap.size + 1 < W.heap.size := HRW.out.lt
      have lv : wc.heap.size < W.heap.size := HV.out.lt
      gi_wp2_with (gi_at_call 25; refine (CallsIn.inRound l (callsIn_wide.2 (HKY.out _))).mono ?_; rintro e w5 ⟨s', Lc, rfl, rfl, hs⟩; have HSS := Lib.hid hs; clear hs)
      · by_cases hxs : x.1 = s'
        · subst hxs
          simp_all
        · have hbad : Bad (pre ++ [x]) := ⟨pre, x, rfl, fun h => hxs (h.2.2.trans (HSS.out h.2.1).symm)⟩
          exact ⟨((KeepsOthers.setCell _ _ _).trans (KeepsOthers.alloc _ _)).from _, rfl, hbad⟩
      · obtain ⟨g1, g2, g3⟩ := body_ok (u := .int .i64 x.2) Lc HV.out
        exact ⟨g1.from _, g2, ⟨by rw [lastv_snoc]; exact g3, by rw [lastv_snoc]; omega⟩, (HBB.out.setCell (Nat.le_refl _) _).alloc (by simp; omega) _⟩
  case done =>
    rintro D xs W hD rfl ⟨⟨hv, hm⟩, hB⟩ hK
    have hTB : Tch (fun _ => False) wc W := Tch.of_below hB (Nat.le_refl _)
    have hDW : D < W.heap.size := (Array.getElem?_eq_some_iff.1 hK).1
    have hG : HasG w1 W xb o L [D] := (HasG.of_has HL.out).add hTB (N := [D]) (by simp; omega)
    have H2 : Hid (M2St w1 xb o n p2 D 0 W) := Lib.hid ⟨L, hG, HKB.out.congr (fun m => by simp [vis_zero]), HLN.out, hK⟩
    have HD24 := Lib.hid (has_depth hG.has ho2 ho64 (m := (n : Int)) (by rw [HLN.out]) (by omega))
    clear hTB hG hv hm hB hK hDW hIx hBel b3 hx hf ht hsz hW0
    go_wp2_with fail
    (with_reducible refine HD24.out.mono ?_)
    rintro e w5 ⟨d, rfl, hdp, rfl⟩
    clear HD24
    go_wp2_with fail
    (with_reducible refine (hdp.out _).mono ?_)
    rintro e w5' ⟨rfl, rfl⟩
    clear hdp
    go_wp2_with fail
    go_loopw [13, 21] (fun k v wr => M2Rel w1 xb o n p2 D k v wr) (fun _ v _ => n - (intOf v).toNat)
    case atStart => exact ⟨0, rfl, Nat.zero_le _, by simp, H2.out⟩
    case round =>
      obtain ⟨i, rfl, hi, rfl, hst⟩ := hrel
      by_cases hlt : i < n
      · have hd : decide (i < n) = true := by simpa using hlt
        have hq0 : (0 : Int) ≤ (i : Int) := by omega
        have hq1 : (1 : Int) ≤ (n : Int) := by omega
        have hnz : ((n : Int) == 0) = false := by rw [beq_eq_false_iff_ne]; omega
        have hkn : i * p2 % n < n := Nat.mod_lt _ (by omega)
        have hnx : (((i + 1) * p2 % n : Nat) : Int) = ((i * p2 % n : Nat) + (p2 : Int)) % (n : Int) := by rw [← vis_next]; simp
        have HP := Lib.hid (fun W (h : M2St w1 xb o n p2 D i W) => st_drop hn6 hlt HG2.out h)
        have HGT := Lib.hid (fun W (h : M2St w1 xb o n p2 D (i + 1) W) => st_get hn6 hlt h)
        have HDP := Lib.hid (fun W (h : M2St w1 xb o n p2 D (i + 1) W) => st_depth (m := (n : Int) - (i : Int) - 1) h ho2 ho64 hn6 (by omega))
        have HNX := Lib.hid hnx
        obtain ⟨k, hk⟩ : ∃ k : Nat, k = i * p2 % n := ⟨_, rfl⟩
        rw [← hk] at hkn HP HGT HNX ⊢
        have HST := Lib.hid hst
        clear hst hnx hk H2
        go_wp2_with fail
        (with_reducible refine (key_any k (by omega) _).mono ?_)
        rintro e w6 ⟨rfl, LK, rfl⟩
        go_wp2_with fail
        (with_reducible refine (HP.out _ (HST.out.quiet (Tch.alloc _ _ _))).mono ?_)
        rintro e w6 ⟨rfl, h6⟩
        have H6 := Lib.hid h6
        clear h6 HST HP
        go_wp2_with fail
        (with_reducible refine (key_any k (by omega) _).mono ?_)
        rintro e w7 ⟨rfl, LK2, rfl⟩
        go_wp2_with fail
        (with_reducible refine (HGT.out _ (H6.out.quiet (Tch.alloc _ _ _))).mono ?_)
        rintro e w7 ⟨rfl, h7⟩
        have H7 := Lib.hid h7
        have HD7 := Lib.hid (HDP.out _ h7)
        clear h7 H6 HGT HDP
        go_wp2_with fail
        (with_reducible refine HD7.out.mono ?_)
        rintro e w8 ⟨d8, rfl, hdp, rfl⟩
        go_wp2_with fail
        have hrel : Hid (M2Rel w1 xb o n p2 D (.int .i64 (((k : Int) + (p2 : Int)) % (n : Int))) (.int .i64 ((i : Int) + 1)) w8) := ⟨i + 1, by simp, hlt, by rw [HNX.out], H7.out⟩
        (with_reducible refine (hdp.out _).mono ?_)
        rintro e w9 ⟨rfl, rfl⟩
        clear hdp H7 HNX HD7
        go_wp2_with fail
        go_roundw
        case measure => simp [intOf]; omega
        case rel => exact hrel.out
      · obtain rfl : i = n := by omega
        have hd : decide (i < i) = false := by simp
        have hrW : Blk wr (w.heap.size + 1) [.bool false] 4 := hst.here.get HRC.out (fun h => h)
        have r0 : wr.cell? ⟨w.heap.size + 1, 0, none⟩ = some (.bool false) := hrW.cell 0
        have r1 : wr.frozen? ⟨w.heap.size + 1, 0, none⟩ = false := hrW.frozen 0
        obtain ⟨he1, he2⟩ := st_end hst
        have HE1 := Lib.hid he1; have HE2 := Lib.hid he2; have HST := Lib.hid hst; have HRW := Lib.hid hrW
        clear he1 he2 hst hrW H2
        go_wp2_with fail
        (with_reducible refine HE1.out.mono ?_)
        rintro e w6 ⟨rfl, rfl⟩
        go_wp2_with fail
        (with_reducible refine HE2.out.mono ?_)
        rintro e w6 ⟨rfl, rfl⟩
        clear HE1 HE2
        go_wp2_with fail
        have hne : D ≠ w.heap.size + 1 := by
          intro e
          have h1 := HST.out.obj
          rw [e, show wr.heap[w.heap.size + 1]? = _ from HRW.out] at h1
          cases h1
        have hDo : (wr.setCell ⟨w.heap.size + 1, 0, none⟩ (.bool true)).heap[D]? = some (.deferred (some [])) := (Below.heap_setCell wr ⟨w.heap.size + 1, 0, none⟩ _ D hne).trans HST.out.obj
        have hrF := (Kp.putObj (S := []) _ D _ (.deferred none) hDo rfl).blk (HRW.out.setC 0 (.bool true)) (by simp)
        have q0 := hrF.cell 0
        have hge : w.heap.size ≤ D := by have := HT1.out.size; have := HL.out.here.size; have := HTW.out.size; omega
        have hbel : Below w.heap.size w ((wr.setCell ⟨w.heap.size + 1, 0, none⟩ (.bool true)).putObj D (.deferred none)) :=
          ((HT1.out.trans HST.out.here (fun _ _ h => h)).below.setCell (by simp) _).trans (belowK_b (w := w) (Nat.le_refl _) _ D _ (.deferred none) hge hDo rfl rfl)
        have hfin : Hid (TruePost w (.returned (.bool true)) ((wr.setCell ⟨w.heap.size + 1, 0, none⟩ (.bool true)).putObj D (.deferred none))) := ⟨rfl, Tch.of_below hbel (Nat.le_refl _)⟩
        refine ⟨by simp, .inl ⟨_, _, rfl, run_takeDeferred hDo, ?_⟩⟩
        refine ⟨.bool true, by simp [results, Try.results5, go_sem, q0], ?_⟩
        exact hfin.out
  case stop =>
    rintro D c pre W hD hp ⟨rfl, hbad⟩ hK
    rw [rng_whole] at hp
    exact (HKB.out.good hp hbad).elim
end Go.Proofs.Ytkhjhcbmefahkaa
