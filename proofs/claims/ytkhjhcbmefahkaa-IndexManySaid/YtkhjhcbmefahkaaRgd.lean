/-
  Range, and the statements' own 'ranged'.
-/
import Derived.Test.YtkhjhcbmefahkaaRgs
namespace Go.Proofs.Ytkhjhcbmefahkaa
open Go.RowKit Go.Mm Go.Lst Go.Shelf
attribute [local go_sem] Oper.semAt_some wide_fn wide_depth

theorem range_in (n : Nat) (p : Option Addr) (fr to : ByteArray) (w : World) :
    CallsIn Fence.wide n Try.prog 26 #[.pointer p, .string fr, .string to] w fun e w' =>
      e = .returned (.func (.func 34) #[] #[.pointer (some ⟨w.heap.size + 1, 0, none⟩), .pointer (some ⟨w.heap.size + 2, 0, none⟩), .pointer (some ⟨w.heap.size, 0, none⟩)]) ∧
      w' = ((w.alloc (.cells #[.pointer p] 25)).alloc (.cells #[.string fr] 9)).alloc (.cells #[.string to] 9) := by
  refine callsIn_of_wp Try.func26 rfl trivial ?_ rfl
  simp only [Try.ntmps26, List.size_toArray, List.length_cons, List.length_nil, Nat.reduceAdd, Nat.reduceSub, Array.replicate_succ, Array.replicate_zero, List.push_toArray, List.append_toArray, List.nil_append, List.cons_append]
  gi_wp2_with fail
  go_ret
  exact ⟨rfl, rfl⟩

theorem Kp.appended {W w1 : World} {B : Nat} {t e : TypeId} {n₀ size k : Nat} {v v' : Value} {xs : List Value} {tmp : Obj} (hv : Boxed W B t v) (hrow : W.ownsRow n₀ e size v k xs) (hgrow : (W.alloc tmp).grownBy w1 v.ownBlock) :
    Kp [t, e] W (w1.setCell ⟨B, 0, none⟩ v') := by
  have hs : W.heap.size ≤ w1.heap.size := Nat.le_trans (by simp) hgrow.size
  refine ⟨hgrow.os, hgrow.tape, hgrow.output, by simp [World.setCell]; exact hs, fun j hj hn => ?_⟩
  have h1 : j ≠ B := by
    rintro rfl
    exact hn (fun ⟨cs, t', fz, h, hn'⟩ => by rw [show W.heap[j]? = _ from hv] at h; cases h; simp at hn')
  have h2 : some j ≠ v.ownBlock := by
    intro ej
    rcases hrow.2 with ⟨rfl, _⟩ | ⟨g, cap, cur, rfl, _, hgb, _⟩
    · simp [Value.ownBlock] at ej
    · obtain rfl : j = g := by simpa [Value.ownBlock] using ej
      exact hn (fun ⟨cs, t', fz, h, hn'⟩ => by rw [hgb] at h; cases h; simp at hn')
  rw [Below.heap_setCell _ _ _ _ h1, hgrow.block j (by simp; omega) h2, Below.heap_alloc _ _ _ hj]

theorem Sl.of_row {W : World} {n₀ T k n : Nat} {v : Value} {xs : List Value} (h : W.ownsRow n₀ T k v n xs) : ∃ bl, Sl W T k v bl n xs ∧ ∀ y ∈ bl, n₀ ≤ y := by
  obtain ⟨hl, ⟨rfl, rfl⟩ | ⟨g, cap, cur, rfl, hb, hg, hn, _, hc, ht⟩⟩ := h
  · rw [Nat.zero_mul] at hl
    obtain rfl := List.eq_nil_of_length_eq_zero hl
    exact ⟨[], Sl.nil _ _ _, by simp⟩
  · refine ⟨[g], .inr ⟨g, cap, cur.toList.drop (n * k), rfl, rfl, ?_, hl, ?_, hn⟩, by simpa using hb⟩
    · show W.heap[g]? = _
      rw [hg, ← ht, List.take_append_drop]
    · rw [← ht, List.take_append_drop]; simpa using hc

theorem Blk.cells {w : World} {b : Nat} {L : List Value} {T : TypeId} (h : Blk w b L T) : ∀ j u, L[j]? = some u → w.cell? ((⟨b, 0, none⟩ : Addr).add j) = some u := by
  intro j u hu
  rw [add_lit, Nat.zero_add, h.cell]
  exact hu

/-- how far a range is gone through, left behind so many (below 0: never) -/
def upto (most : Int) (X : List Pair) : List Pair := if most < 0 then X else X.take most.toNat

theorem infoP35 : (Try.prog.info? 35).map (fun i => (i.zero, i.size, i.bytes)) = some (some (.agg #[.string ⟨#[]⟩, .int .i64 0]), 2, 24) := by kernel_rfl

def RangedPost (X : List Pair) (w : World) (e : Ending) (w' : World) : Prop := ∃ v bl, e = .returned v ∧ Sl w' 35 2 v bl X.length (encPs X) ∧ (∀ y ∈ bl, w.heap.size ≤ y) ∧ Tch (fun _ => False) w w'

set_option maxRecDepth 100000 in
set_option maxHeartbeats 2000000 in
theorem ranged_any {w : World} {xb order : Nat} {L : List Pair} {F : List Nat} (hI : Ix w xb order L F) (hlen : L.length ≤ 1000000) (fr to : ByteArray) (most : Int) :
    Calls Try.prog 11 #[.pointer (some ⟨xb, 0, none⟩), .string fr, .string to, .int .i64 most] w (RangedPost (upto most (rng fr to L)) w) := by
  refine (callsIn_wide (n := 9)).1 ?_
  obtain ⟨i0, hi, hz0, hz1, hz2⟩ := info_parts infoP35
  have HI := Lib.hid hI
  clear hI
  by_cases hm0 : most = 0
  · subst hm0
    refine callsIn_of_wp_marks Try.func11 rfl trivial ?_ rfl
    simp only [Try.ntmps11, List.size_toArray, List.length_cons, List.length_nil, Nat.reduceAdd, Nat.reduceSub, Array.replicate_succ, Array.replicate_zero, List.push_toArray, List.append_toArray, List.nil_append, List.cons_append]
    gi_wp2_with fail
    obtain ⟨W0, hW0⟩ : ∃ W0, ((w.alloc (.cells #[.int .i64 0] 3)).alloc (.cells #[] 35)).alloc (.cells #[.slice (some ⟨w.heap.size + 1, 0, none⟩) 0 0] 31) = W0 := ⟨_, rfl⟩
    have hB : Blk W0 (w.heap.size + 1) [] 35 := by rw [← hW0]; exact (Tch.alloc (fun _ => False) _ _).get (Blk.newLast (w := w.alloc (.cells #[.int .i64 0] 3)) [] 35 (by simp)) (fun h => h)
    have hT : Tch (fun _ => False) w W0 := by rw [← hW0]; exact ((Tch.alloc _ _ _).trans (Tch.alloc _ _ _) (fun _ _ h => h)).trans (Tch.alloc _ _ _) (fun _ _ h => h)
    have hfin : Hid (RangedPost (upto 0 (rng fr to L)) w (.returned (.slice (some ⟨w.heap.size + 1, 0, none⟩) 0 0)) W0) :=
      ⟨_, [w.heap.size + 1], rfl, .inr ⟨w.heap.size + 1, 0, [], by simp [upto], rfl, by simpa [upto, encPs] using hB, by simp [upto, encPs], by simp [upto, encPs], by simp [upto]⟩, by simp, hT⟩
    rw [hW0]
    refine ⟨_, results_tmp rfl _ _ _, ?_⟩
    show RangedPost _ _ (.returned (.slice (some ⟨w.heap.size + 1, 0, none⟩) 0 0)) _
    exact hfin.out
  · have hmz : (most == 0) = false := by simpa using hm0
    refine callsIn_of_wp_marks Try.func11 rfl trivial ?_ rfl
    simp only [Try.ntmps11, List.size_toArray, List.length_cons, List.length_nil, Nat.reduceAdd, Nat.reduceSub, Array.replicate_succ, Array.replicate_zero, List.push_toArray, List.append_toArray, List.nil_append, List.cons_append]
    gi_wp2_with fail
    refine (range_in _ _ _ _ _).mono ?_
    rintro e w' ⟨rfl, rfl⟩
    gi_wp2_with fail
    obtain ⟨W0, hW0⟩ : ∃ W0, ((((((w.alloc (.cells #[.int .i64 most] 3)).alloc (.cells #[] 35)).alloc (.cells #[.slice (some ⟨w.heap.size + 1, 0, none⟩) 0 0] 31)).alloc (.cells #[.pointer (some ⟨xb, 0, none⟩)] 25)).alloc (.cells #[.string fr] 9)).alloc (.cells #[.string to] 9)) = W0 := ⟨_, rfl⟩
    rw [hW0]
    have hsz : W0.heap.size = w.heap.size + 6 := by rw [← hW0]; simp
    have hT : Tch (fun _ => False) w W0 := by
      rw [← hW0]
      exact (((((Tch.alloc _ _ _).trans (Tch.alloc _ _ _) (fun _ _ h => h)).trans (Tch.alloc _ _ _) (fun _ _ h => h)).trans (Tch.alloc _ _ _) (fun _ _ h => h)).trans (Tch.alloc _ _ _) (fun _ _ h => h)).trans (Tch.alloc _ _ _) (fun _ _ h => h)
    have b3 : Boxed W0 w.heap.size 3 (.int .i64 most) := by rw [← hW0]; exact (((((Boxed.new w 3 _).alloc _).alloc _).alloc _).alloc _).alloc _
    have b9 : Boxed W0 (w.heap.size + 1 + 1) 31 (.slice (some ⟨w.heap.size + 1, 0, none⟩) 0 0) := by
      rw [← hW0]
      have := Boxed.new ((w.alloc (.cells #[.int .i64 most] 3)).alloc (.cells #[] 35)) 31 (.slice (some ⟨w.heap.size + 1, 0, none⟩) 0 0)
      simp only [World.size_alloc] at this
      exact ((this.alloc _).alloc _).alloc _
    have hB : Blk W0 (w.heap.size + 1) [] 35 := by
      rw [← hW0]
      have := Blk.newLast (w := w.alloc (.cells #[.int .i64 most] 3)) (n := w.heap.size + 1) [] 35 (by simp)
      exact (Tch.alloc (fun _ => False) _ _).get ((Tch.alloc (fun _ => False) _ _).get ((Tch.alloc (fun _ => False) _ _).get ((Tch.alloc (fun _ => False) _ _).get this (fun h => h)) (fun h => h)) (fun h => h)) (fun h => h)
    have hx : Blk W0 (w.heap.size + 1 + 1 + 1) [.pointer (some ⟨xb, 0, none⟩)] 25 := by
      rw [← hW0]
      have := Blk.newLast (w := ((w.alloc (.cells #[.int .i64 most] 3)).alloc (.cells #[] 35)).alloc (.cells #[.slice (some ⟨w.heap.size + 1, 0, none⟩) 0 0] 31)) (n := w.heap.size + 1 + 1 + 1) [.pointer (some ⟨xb, 0, none⟩)] 25 (by simp)
      exact (Tch.alloc (fun _ => False) _ _).get ((Tch.alloc (fun _ => False) _ _).get this (fun h => h)) (fun h => h)
    have hf : Blk W0 (w.heap.size + 1 + 1 + 1 + 1) [.string fr] 9 := by
      rw [← hW0]
      have := Blk.newLast (w := (((w.alloc (.cells #[.int .i64 most] 3)).alloc (.cells #[] 35)).alloc (.cells #[.slice (some ⟨w.heap.size + 1, 0, none⟩) 0 0] 31)).alloc (.cells #[.pointer (some ⟨xb, 0, none⟩)] 25)) (n := w.heap.size + 1 + 1 + 1 + 1) [.string fr] 9 (by simp)
      exact (Tch.alloc (fun _ => False) _ _).get this (fun h => h)
    have ht : Blk W0 (w.heap.size + 1 + 1 + 1 + 2) [.string to] 9 := by
      rw [← hW0]
      exact Blk.newLast _ _ (by simp)
    have hrow : W0.ownsRow w.heap.size 35 2 (.slice (some ⟨w.heap.size + 1, 0, none⟩) 0 0) 0 [] := ⟨rfl, .inr ⟨w.heap.size + 1, 0, #[], rfl, by omega, hB, Nat.le_refl _, by decide, by simp, by simp⟩⟩
    have hBel : Below w.heap.size w W0 := hT.below
    have hrl : (rng fr to L).length ≤ 1000000 := Nat.le_trans (List.length_filter_le _ _) hlen
    refine wpIn_rangeFunc_ownG rfl (by omega) (gf := 34) (lb := #[.pointer (some ⟨w.heap.size + 1 + 1 + 1 + 1, 0, none⟩), .pointer (some ⟨w.heap.size + 1 + 1 + 1 + 2, 0, none⟩), .pointer (some ⟨w.heap.size + 1 + 1 + 1, 0, none⟩)]) rfl trivial (enters_of Try.func34 (by kernel_rfl) rfl)
      (range_stops [31, 35] (by unfold Safe; decide) (9 - 1) (HI.out.tch hT) fr to _ _ _ hf ht hx) Kp.trans (fun W l o o' _ h hc _ => Kp.putObj W l o o' h hc) (Below.refl _ _) (fun _ => rfl)
      (fun pre W => ((∃ v, Boxed W (w.heap.size + 1 + 1) 31 v ∧ W.ownsRow w.heap.size 35 2 v pre.length (encPs pre) ∧ True) ∧ Boxed W w.heap.size 3 (.int .i64 most) ∧ (most < 0 ∨ (pre.length : Int) < most)) ∧ Below w.heap.size w W)
      (fun c pre W => (c = .exit 0 ∧ (∃ v, Boxed W (w.heap.size + 1 + 1) 31 v ∧ W.ownsRow w.heap.size 35 2 v pre.length (encPs pre) ∧ True) ∧ (pre.length : Int) = most) ∧ Below w.heap.size w W)
      (OwnFrom.and (OwnFrom.and (Own.from (holdsRow_own w.heap.size (w.heap.size + 1 + 1) 31 35 2 (fun pre : List Pair => pre.length) (fun pre => encPs pre) (fun _ _ => True)) _) (OwnFrom.and (Own.from (boxed_own _ _ (fun _ => .int .i64 most)) _) (ownFrom_pure _ _))) (ownFrom_below (Nat.le_refl _) (by omega)))
      (fun c => OwnFrom.and (OwnFrom.and (ownFrom_pure _ _) (OwnFrom.and (Own.from (holdsRow_own w.heap.size (w.heap.size + 1 + 1) 31 35 2 (fun pre : List Pair => pre.length) (fun pre => encPs pre) (fun _ _ => True)) _) (ownFrom_pure _ _))) (ownFrom_below (Nat.le_refl _) (by omega)))
      ⟨⟨⟨_, b9, hrow, trivial⟩, b3, by simp; omega⟩, hBel⟩
      (fun x => { tmps := #[.pointer (some ⟨xb, 0, none⟩), .string fr, .string to, .int .i64 most, undef, undef, undef, .pointer (some ⟨w.heap.size, 0, none⟩), .slice none 0 0, .pointer (some ⟨w.heap.size + 1 + 1, 0, none⟩), .string x.1, .int .i64 x.2, .slice (some ⟨w.heap.size + 1, 0, none⟩) 0 0, .int .i64 most, .bool false, undef, .pointer (some ⟨xb, 0, none⟩), .string fr, .string to,
        .func (.func 34) #[] #[.pointer (some ⟨w.heap.size + 1 + 1 + 1 + 1, 0, none⟩), .pointer (some ⟨w.heap.size + 1 + 1 + 1 + 2, 0, none⟩), .pointer (some ⟨w.heap.size + 1 + 1 + 1, 0, none⟩)],
        .string x.1, .int .i64 x.2, undef, undef, undef, undef, undef, undef, undef, undef, undef, undef, undef], defers := [] }) ?assign ?body ?done ?stop
    case assign =>
      intro l x W K hK
      gi_wp2
      exact hK
    case body =>
      rintro l pre x W ⟨⟨⟨v, hv, hrow, -⟩, hb3, hm⟩, hB⟩ hlt
      have hc := hv.cell
      have h1 : pre.length + 1 ≤ maxLen := by unfold maxLen; omega
      have h2 : (pre.length + 1) * 24 ≤ 140737488355328 := by omega
      have h3 : w.heap.size ≤ (W.alloc (.cells #[.string x.1, .int .i64 x.2] 35)).heap.size := by have := hB.size; simp; omega
      have hnew : Blk (W.alloc (.cells #[.string x.1, .int .i64 x.2] 35)) W.heap.size [.string x.1, .int .i64 x.2] 35 := Blk.newLast (w := W) _ _ rfl
      have HV := Lib.hid hv; have HROW := Lib.hid hrow; have HB3 := Lib.hid hb3; have HM := Lib.hid hm; have HBB := Lib.hid hB
      clear hv hrow hb3 hm hB hlt hrl
      have hlen1 : (pre ++ [x]).length = pre.length + 1 := by simp
      have henc : encPs (pre ++ [x]) = encPs pre ++ [.string x.1, .int .i64 x.2] := by rw [encPs_append]; rfl
      have HL1 := Lib.hid hlen1; have HENC := Lib.hid henc; have HNEW := Lib.hid hnew
      clear hlen1 henc hnew
      gi_wp2_with (gi_at_builtin; refine wpListIn_append_own _ rfl _ _ 31 rfl w.heap.size 35 i0 (.agg #[.string ⟨#[]⟩, .int .i64 0]) 2 24 Try.underlying31 hi hz0 hz1 hz2 rfl (by decide) _ _ _ rfl (HROW.out.alloc _) ⟨W.heap.size, 0, none⟩ 1 1 [.string x.1, .int .i64 x.2] rfl rfl (Blk.cells HNEW.out) (by simp [Value.oneCell']) h1 h2 h3 ?_; intro v' w1 hown' hgrow _; obtain ⟨g', cap', rfl⟩ := ownsRow_succ hown'; obtain ⟨hv1, hv2, hr2, hk2, hb2⟩ := HV.out.appended (by decide) HROW.out HBB.out.size (by omega) hown' hgrow; have hc1 := hv1.cell; have hf1 := hv1.frozen; have hc2 := hv2.cell; have hb3 := (((HB3.out.alloc _).kept hgrow (HB3.out.not_row (by decide) HROW.out)).other (B' := w.heap.size + 1 + 1) (by omega) (.slice (some ⟨g', 0, none⟩) (pre.length + 1) cap')); have hc3 := hb3.cell; have HKP := Lib.hid (Kp.appended (v' := .slice (some ⟨g', 0, none⟩) (pre.length + 1) cap') HV.out HROW.out hgrow); have HV2 := Lib.hid hv2; have HR2 := Lib.hid hr2; have HK2 := Lib.hid hk2; have HB2 := Lib.hid hb2; have HB31 := Lib.hid hb3; clear hv1 hv2 hr2 hk2 hb2 hb3 hown' hgrow)
      · have hq : (pre.length : Int) + 1 = most := by simpa using ‹((pre.length : Int) + 1 == most) = true›
        exact ⟨HK2.out.from _, ⟨rfl, ⟨_, HV2.out, by rw [HL1.out, HENC.out]; exact HR2.out, trivial⟩, by rw [HL1.out]; simpa using hq⟩, HBB.out.trans HB2.out⟩
      · have hq : ¬ (pre.length : Int) + 1 = most := by simpa using ‹((pre.length : Int) + 1 == most) = false›
        have hm := HM.out
        exact ⟨HK2.out.from _, HKP.out, ⟨⟨_, HV2.out, by rw [HL1.out, HENC.out]; exact HR2.out, trivial⟩, HB31.out, by rw [HL1.out]; omega⟩, HBB.out.trans HB2.out⟩
    case done =>
      rintro D ys W hD rfl ⟨⟨⟨v, hv, hrow, -⟩, hb3, hm⟩, hB⟩ hK
      have hc := hv.cell
      have hrow2 := ownsRow_putObj hrow (.deferred none) hK rfl
      have hbel := hB.trans (belowK_b (w := w) (Nat.le_refl _) W D _ (.deferred none) (by omega) hK rfl rfl)
      obtain ⟨bl, hsl, hbl⟩ := Sl.of_row hrow2
      have hup : upto most (rng fr to L) = rng fr to L := by
        unfold upto
        rcases hm with h | h
        · rw [if_pos h]
        · rw [if_neg (by omega), List.take_of_length_le (by omega)]
      have HFIN := Lib.hid (show RangedPost (upto most (rng fr to L)) w (.returned v) _ from ⟨v, bl, rfl, by rw [hup]; exact hsl, hbl, Tch.of_below hbel (Nat.le_refl _)⟩)
      have HK := Lib.hid hK
      clear hv hrow hb3 hm hB hK hrow2 hbel hsl hbl hup
      gi_wp2_with fail
      refine ⟨by simp, .inl ⟨_, _, rfl, run_takeDeferred HK.out, ?_⟩⟩
      refine ⟨_, results_tmp rfl _ _ _, ?_⟩
      exact HFIN.out
    case stop =>
      rintro D c pre W hD hp ⟨⟨rfl, ⟨v, hv, hrow, -⟩, hm⟩, hB⟩ hK
      have hc := hv.cell
      have hrow2 := ownsRow_putObj hrow (.deferred none) hK rfl
      have hbel := hB.trans (belowK_b (w := w) (Nat.le_refl _) W D _ (.deferred none) (by omega) hK rfl rfl)
      obtain ⟨bl, hsl, hbl⟩ := Sl.of_row hrow2
      have hup : upto most (rng fr to L) = pre := by
        unfold upto
        obtain ⟨r, hr⟩ := hp
        rw [if_neg (by omega), ← hr, List.take_append_of_le_length (by omega), List.take_of_length_le (by omega)]
      have HFIN := Lib.hid (show RangedPost (upto most (rng fr to L)) w (.returned v) _ from ⟨v, bl, rfl, by rw [hup]; exact hsl, hbl, Tch.of_below hbel (Nat.le_refl _)⟩)
      have HK := Lib.hid hK
      clear hv hrow hm hB hK hrow2 hbel hsl hbl hup hp
      gi_wp2_with fail
      refine ⟨by simp, .inl ⟨_, _, rfl, run_takeDeferred HK.out, ?_⟩⟩
      refine ⟨_, results_tmp rfl _ _ _, ?_⟩
      exact HFIN.out

end Go.Proofs.Ytkhjhcbmefahkaa
