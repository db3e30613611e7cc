/-
  The reference's Range.
-/
import Derived.Test.YtkhjhcbmefahkaaRfp
namespace Go.Proofs.Ytkhjhcbmefahkaa
open Go.RowKit Go.Mm Go.Lst

def RgRel (w : World) (L : List Pair) (fr tt : ByteArray) (v i : Value) (wr : World) : Prop :=
  ∃ (k : Nat) (bl : List Nat), i = .int .i64 k ∧ k ≤ L.length ∧ Sl wr 35 2 v bl (rng fr tt (L.take k)).length (encPs (rng fr tt (L.take k))) ∧ (∀ y ∈ bl, w.heap.size ≤ y) ∧ Tch (fun _ => False) w wr

theorem rng_take_yes {L : List Pair} {fr tt : ByteArray} {k : Nat} {p : Pair} (hp : L[k]? = some p) (h : inr fr tt p = true) : rng fr tt (L.take (k + 1)) = rng fr tt (L.take k) ++ [p] := by
  rw [List.take_add_one, hp, Option.toList_some, rng_append]
  simp [rng, h]
theorem rng_take_no {L : List Pair} {fr tt : ByteArray} {k : Nat} {p : Pair} (hp : L[k]? = some p) (h : inr fr tt p = false) : rng fr tt (L.take (k + 1)) = rng fr tt (L.take k) := by
  rw [List.take_add_one, hp, Option.toList_some, rng_append]
  simp [rng, h]

set_option maxRecDepth 100000 in
set_option maxHeartbeats 2000000 in
theorem rrange_any {w : World} {yb : Nat} {L : List Pair} {G : List Nat} (h : Rf w yb L G) (hl : L.length ≤ 1000000) (fr tt : ByteArray) :
    Calls Try.prog 19 #[.pointer (some ⟨yb, 0, none⟩), .string fr, .string tt] w (RangedPost (rng fr tt L) w) := by
  obtain ⟨v, bl, hb, hp, hyb, rfl⟩ := h
  obtain ⟨va, vc, rfl, _⟩ := hp.val
  have HB := Lib.hid hb; have HP := Lib.hid hp
  have ly := hb.lt
  have c0 : w.cell? ⟨yb, 0, none⟩ = some (.slice va L.length vc) := hb.cell 0
  clear hb hp hyb
  go_enter Try.func19, Try.ntmps19
  go_wp2_with fail
  go_loopw [7, 8] (fun v i wr => RgRel w L fr tt v i wr) (fun _ i _ => L.length - (intOf i).toNat)
  case atStart => exact ⟨0, [], rfl, Nat.zero_le _, Sl.nil _ _ _, (fun y hy => by cases hy), Tch.refl _ _⟩
  case round =>
    obtain ⟨k, bl, rfl, hk, hs, hbl, ht⟩ := hrel
    have c0 : wr.cell? ⟨yb, 0, none⟩ = some (.slice va L.length vc) := (ht.get HB.out (fun h => h)).cell 0
    by_cases hlt : k < L.length
    · have hq : (k : Int) < (L.length : Int) := by omega
      have hd : decide (k < L.length) = true := by simpa using hlt
      have hq0 : (0 : Int) ≤ (k : Int) := by omega
      obtain ⟨p, hp⟩ : ∃ p, L[k]? = some p := ⟨L[k], by simp⟩
      obtain ⟨qx, cx', sp, hxe, _, hqx, _⟩ := HP.out.pos (by omega)
      obtain ⟨rfl, rfl⟩ : va = some ⟨qx, 0, none⟩ ∧ vc = cx' := by simpa using hxe
      have d0 := ((ht.get hqx (fun h => h)).cell _).trans (encPs_get hp sp).1
      have d1 := ((ht.get hqx (fun h => h)).cell _).trans (encPs_get hp sp).2
      have hno : inr fr tt p = false → Hid (∃ v i, RgRel w L fr tt v i wr) := fun _ => ⟨_, _, k, bl, rfl, hk, hs, hbl, ht⟩
      obtain ⟨sa, sc, rfl, _⟩ := hs.val
      have lr : yb < wr.heap.size := Nat.lt_of_lt_of_le ly ht.size
      cases hin : inr fr tt p with
      | false =>
        have hrel : Hid (RgRel w L fr tt (.slice sa (rng fr tt (L.take k)).length sc) (.int .i64 ((k : Int) + 1)) wr) := ⟨k + 1, bl, by simp, hlt, by rw [rng_take_no hp hin]; exact hs, hbl, ht⟩
        have hcase : (cmpB p.1 fr < 0) ∨ (¬ cmpB p.1 fr < 0 ∧ tt ≠ ⟨#[]⟩ ∧ ¬ cmpB p.1 tt < 0) := by
          simp only [inr] at hin
          by_cases h1 : cmpB p.1 fr < 0
          · exact .inl h1
          · simp [h1] at hin
            exact .inr ⟨h1, hin.1, by omega⟩
        clear hs hbl ht hp hqx hxe hno hin
        rcases hcase with h1 | ⟨h1, h2, h3⟩
        · have q1 : Op.bytesLess p.1.toList fr.toList = true := (less_cmp _ _).2 h1
          clear h1
          go_wp2_with fail
          go_roundw
          case measure => simp [intOf]; omega
          case rel => exact hrel.out
        · have q1 : Op.bytesLess p.1.toList fr.toList = false := by rw [Bool.eq_false_iff]; intro h; exact h1 ((less_cmp _ _).1 h)
          have q2 : tt.toList.isEmpty = false := by
            cases hh : tt.toList with
            | nil => exact (h2 ((empty_iff _).1 hh)).elim
            | cons => rfl
          have q2' : ¬ tt.toList = [] := fun h => h2 ((empty_iff _).1 h)
          have q3 : Op.bytesLess p.1.toList tt.toList = false := by rw [Bool.eq_false_iff]; intro h; exact h3 ((less_cmp _ _).1 h)
          clear h1 h2 h3
          go_wp2_with fail
          go_roundw
          case measure => simp [intOf]; omega
          case rel => exact hrel.out
      | true =>
        have hX := rng_take_yes hp hin
        have hxx : Blk (wr.alloc (.cells #[.string p.1, .int .i64 p.2] 35)) wr.heap.size [.string p.1, .int .i64 p.2] 35 := Blk.newLast _ _ rfl
        have hsrc : ∀ w', Blk w' wr.heap.size [.string p.1, .int .i64 p.2] 35 → Src Try.prog w' 2 (.slice (some ⟨wr.heap.size, 0, none⟩) 1 1) ([p] : List Pair).length (encPs [p]) := fun w' hb => by
          have := Src.blk (P := Try.prog) hb 2 0 1 1 (by simp)
          simpa [encPs, encP] using this
        have hlen : (rng fr tt (L.take k)).length ≤ L.length := Nat.le_trans (List.length_filter_le _ _) (by rw [List.length_take]; omega)
        obtain ⟨a4, c4, w4, bl4, hr4, hs4, hn4, ht4⟩ := app_new (X := [p]) (ht.trans (Tch.alloc (fun _ => False) wr (.cells #[.string p.1, .int .i64 p.2] 35)) (fun _ _ h => h)) (hs.alloc _) hbl (hsrc _ hxx) (hsrc _ hxx.drew) (by simp; omega)
        rw [← hX] at hr4 hs4
        have hrel : Hid (RgRel w L fr tt (.slice a4 (rng fr tt (L.take (k + 1))).length c4) (.int .i64 ((k : Int) + 1)) w4) := ⟨k + 1, bl4, by simp, hlt, hs4, hn4, ht4⟩
        have R4 := Lib.hid hr4
        have hcase : ¬ cmpB p.1 fr < 0 ∧ (tt = ⟨#[]⟩ ∨ (tt ≠ ⟨#[]⟩ ∧ cmpB p.1 tt < 0)) := by
          simp only [inr, Bool.and_eq_true, Bool.or_eq_true, Bool.not_eq_true', decide_eq_false_iff_not, decide_eq_true_eq] at hin
          refine ⟨hin.1, ?_⟩
          by_cases h2 : tt = ⟨#[]⟩
          · exact .inl h2
          · exact .inr ⟨h2, hin.2.resolve_left h2⟩
        clear hs hbl ht hp hqx hxe hno hin hX hxx hsrc hr4 hs4 hn4 ht4
        obtain ⟨h1, h2⟩ := hcase
        have q1 : Op.bytesLess p.1.toList fr.toList = false := by rw [Bool.eq_false_iff]; intro h; exact h1 ((less_cmp _ _).1 h)
        clear h1
        rcases h2 with h2 | ⟨h2, h3⟩
        · have q2 : tt.toList.isEmpty = true := by rw [(empty_iff _).2 h2]; rfl
          clear h2
          go_wp2_with (at_builtin; refine wpList_append rfl (.tmp 44) (.tmp 52) 31 31 rfl _ _ R4.out ?_)
          go_roundw
          case measure => simp [intOf]; omega
          case rel => exact hrel.out
        · have q2 : tt.toList.isEmpty = false := by
            cases hh : tt.toList with
            | nil => exact (h2 ((empty_iff _).1 hh)).elim
            | cons => rfl
          have q2' : ¬ tt.toList = [] := fun h => h2 ((empty_iff _).1 h)
          have q3 : Op.bytesLess p.1.toList tt.toList = true := (less_cmp _ _).2 h3
          clear h2 h3
          go_wp2_with (at_builtin; refine wpList_append rfl (.tmp 44) (.tmp 52) 31 31 rfl _ _ R4.out ?_)
          go_roundw
          case measure => simp [intOf]; omega
          case rel => exact hrel.out
    · obtain rfl : k = L.length := by omega
      have hd : decide (L.length < L.length) = false := by simp
      rw [List.take_length] at hs
      have hfin : Hid (∀ v, Sl wr 35 2 v bl (rng fr tt L).length (encPs (rng fr tt L)) → RangedPost (rng fr tt L) w (.returned v) wr) := fun v hv => ⟨v, bl, rfl, hv, hbl, ht⟩
      have HS := Lib.hid hs
      clear hs hbl ht
      go_wp2_with fail
      go_ret
      exact hfin.out _ HS.out
end Go.Proofs.Ytkhjhcbmefahkaa
