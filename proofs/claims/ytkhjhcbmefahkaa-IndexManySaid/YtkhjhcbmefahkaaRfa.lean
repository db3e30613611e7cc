/-
  The reference's index in memory: a row of pairs; where a key is; looked up.
-/
import Derived.Test.YtkhjhcbmefahkaaHsg
namespace Go.Proofs.Ytkhjhcbmefahkaa
open Go.RowKit Go.Mm Go.Lst

/-- the reference's index: its pairs in order, its blocks -/
def Rf (w : World) (yb : Nat) (L : List Pair) (G : List Nat) : Prop := ∃ v bl, Blk w yb [v] 41 ∧ Sl w 35 2 v bl L.length (encPs L) ∧ yb ∉ bl ∧ G = yb :: bl
theorem Rf.keep {w w' : World} {yb : Nat} {L : List Pair} {G : List Nat} {S : Nat → Prop} (h : Rf w yb L G) (ht : Tch S w w') (hs : ∀ y ∈ G, ¬ S y) : Rf w' yb L G := by
  obtain ⟨v, bl, h1, h2, h3, rfl⟩ := h
  exact ⟨v, bl, ht.get h1 (hs _ (by simp)), h2.tch ht (fun y hy => hs y (by simp [hy])), h3, rfl⟩
theorem Rf.lt {w : World} {yb : Nat} {L : List Pair} {G : List Nat} (h : Rf w yb L G) : ∀ y ∈ G, y < w.heap.size := by
  obtain ⟨v, bl, h1, h2, h3, rfl⟩ := h
  intro y hy
  rcases List.mem_cons.1 hy with rfl | hy
  · exact h1.lt
  · exact h2.lt y hy

set_option maxHeartbeats 1000000 in
theorem at_any {w : World} {yb : Nat} {v : Value} {bl : List Nat} {L : List Pair} (hb : Blk w yb [v] 41) (hp : Sl w 35 2 v bl L.length (encPs L)) (hl : L.length ≤ 1000000) (hs : Srt L) (key : ByteArray) :
    Calls Try.prog 31 #[.pointer (some ⟨yb, 0, none⟩), .string key] w (FindPost L key w) := by
  obtain ⟨va, vc, rfl, _⟩ := hp.val
  have c0 : w.cell? ⟨yb, 0, none⟩ = some (.slice va L.length vc) := hb.cell 0
  have HP := Lib.hid hp; have HS := Lib.hid hs
  clear hp hs
  go_enter Try.func31, Try.ntmps31
  go_wp2_with fail
  go_loop [6] (fun v => ∃ i : Nat, v = .int .i64 i ∧ i ≤ L.length ∧ Hid (∀ m p, m < i → L[m]? = some p → cmpB p.1 key < 0)) (fun v => L.length - (intOf v).toNat)
  case atStart => exact ⟨0, rfl, Nat.zero_le _, fun m p hm => by omega⟩
  case round =>
    obtain ⟨i, rfl, hi, hall⟩ := hrel
    by_cases hlt : i < L.length
    · have hq : (i : Int) < (L.length : Int) := by omega
      have hd : decide (i < L.length) = true := by simpa using hlt
      have hq0 : (0 : Int) ≤ (i : Int) := by omega
      obtain ⟨p, hp⟩ : ∃ p, L[i]? = some p := ⟨L[i], by simp⟩
      obtain ⟨qx, cx', sp, hxe, _, hqx, _⟩ := HP.out.pos (by omega)
      obtain ⟨rfl, rfl⟩ : va = some ⟨qx, 0, none⟩ ∧ vc = cx' := by simpa using hxe
      have d0 := (hqx.cell _).trans (encPs_get hp sp).1
      have HPI := Lib.hid hp
      clear hqx hxe hp
      by_cases hless : cmpB p.1 key < 0
      · have ql : Op.bytesLess p.1.toList key.toList = true := (less_cmp _ _).2 hless
        have hrel : Hid (∃ k : Nat, (.int .i64 ((i : Int) + 1) : Value) = .int .i64 k ∧ k ≤ L.length ∧ Hid (∀ m p, m < k → L[m]? = some p → cmpB p.1 key < 0)) := by
          refine ⟨i + 1, by simp, hlt, fun m p' hm hpm => ?_⟩
          by_cases e : m = i
          · subst e
            rw [HPI.out] at hpm
            cases hpm
            exact hless
          · exact hall.out m p' (by omega) hpm
        clear hless
        go_wp2_with fail
        go_round
        case rel => exact hrel.out
        case measure => simp [intOf]; omega
      · have ql : Op.bytesLess p.1.toList key.toList = false := by
          rw [Bool.eq_false_iff]; intro h; exact hless ((less_cmp _ _).1 h)
        have h2 : Hid (∀ m p, i ≤ m → L[m]? = some p → 0 ≤ cmpB p.1 key) := fun m p' hm hpm => srt_pos HS.out hm HPI.out hpm (by omega)
        have hbool : (p.1.toList == key.toList) = ((L[i]?).any (fun p => cmpB p.1 key == 0)) := by
          rw [HPI.out, Option.any_some, Bool.eq_iff_iff, eq_cmp, beq_iff_eq]
        have HBO := Lib.hid hbool
        clear hbool hless
        go_wp2_with fail
        go_quiet (fail)
        go_wp2_with fail
        go_ret2
        refine findPost_of HS.out hi hall h2 ?_ ?_
        · rw [← HBO.out]; rfl
        · exact Tch.below ⟨rfl, rfl, rfl, Nat.le_refl _, fun _ _ _ => rfl⟩
    · obtain rfl : i = L.length := by omega
      have hd : decide (L.length < L.length) = false := by simp
      have h2 : Hid (∀ m p, L.length ≤ m → L[m]? = some p → 0 ≤ cmpB p.1 key) := fun m p hm hp => by
        rw [List.getElem?_eq_none hm] at hp; cases hp
      go_wp2_with fail
      go_quiet (fail)
      go_wp2_with fail
      go_ret2
      refine findPost_of HS.out hi hall h2 ?_ ?_
      · rw [List.getElem?_eq_none (Nat.le_refl _)]; simp
      · exact Tch.below ⟨rfl, rfl, rfl, Nat.le_refl _, fun _ _ _ => rfl⟩
end Go.Proofs.Ytkhjhcbmefahkaa
