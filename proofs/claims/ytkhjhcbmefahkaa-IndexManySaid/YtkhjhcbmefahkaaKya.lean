/-
  key at whatever number; what a range over all keys must be.
-/
import Derived.Test.YtkhjhcbmefahkaaMny
namespace Go.Proofs.Ytkhjhcbmefahkaa
open Go.RowKit Go.Mm Go.Lst

theorem conv3 (w : World) (a b c : Int) : (convert 71 9 (.slice (some ⟨w.heap.size, 0, none⟩) 3 3)).run Try.prog (w.alloc (.cells #[.int .u8 a, .int .u8 b, .int .u8 c] 5)) = .ok (.string (strOfNums [a, b, c])) (w.alloc (.cells #[.int .u8 a, .int .u8 b, .int .u8 c] 5)) :=
  run_convert_bytes_arg (P := Try.prog) (w.alloc (.cells #[.int .u8 a, .int .u8 b, .int .u8 c] 5)) 71 5 Try.underlying71 Try.underlying5 w.heap.size 0 3 3 [a, b, c] rfl (fun i hi => by
    have hb := Blk.new w [.int .u8 a, .int .u8 b, .int .u8 c] 5
    have := hb.cell i
    rw [Nat.zero_add]
    refine this.trans ?_
    match i, hi with
    | 0, _ => rfl
    | 1, _ => rfl
    | 2, _ => rfl) 9 Try.underlying9

def KeyArb (m : Int) (w : World) (e : Ending) (w' : World) : Prop := ∃ s Lc, e = .returned (.string s) ∧ w' = w.alloc (.cells Lc 5) ∧ (m ≤ 1000 → s = keyS m.toNat)
theorem keyArb_of {m : Int} {w : World} {s : ByteArray} {Lc : Array Value} (h : ¬ m ≤ 1000) : KeyArb m w (.returned (.string s)) (w.alloc (.cells Lc 5)) := ⟨s, Lc, rfl, rfl, fun h' => (h h').elim⟩
set_option maxHeartbeats 1000000 in
theorem key_arb (m : Int) (h0 : 0 ≤ m) (w : World) : Calls Try.prog 25 #[.int .i64 m] w (KeyArb m w) := by
  by_cases h : m ≤ 1000
  · obtain ⟨n, rfl⟩ : ∃ n : Nat, m = (n : Int) := ⟨m.toNat, by omega⟩
    refine (key_any n (by omega) w).mono ?_
    rintro e w' ⟨rfl, L, rfl⟩
    exact ⟨_, _, rfl, rfl, fun _ => by simp⟩
  · have hc := conv3 w
    have hfin := Lib.hid (fun s Lc => keyArb_of (w := w) (s := s) (Lc := Lc) h)
    clear h
    go_enter Try.func25, Try.ntmps25
    go_wp2_with fail
    go_ret
    exact hfin.out _ _

/-- the last number that has come -/
def lastv (pre : List Pair) : Int := (pre.getLast?.map (·.2)).getD (-1)
theorem lastv_snoc (pre : List Pair) (x : Pair) : lastv (pre ++ [x]) = x.2 := by simp [lastv]
def GoodAt (pre : List Pair) (x : Pair) : Prop := lastv pre < x.2 ∧ x.2 ≤ 1000 ∧ x.1 = keyS x.2.toNat
def Bad (pre : List Pair) : Prop := ∃ a x, pre = a ++ [x] ∧ ¬ GoodAt a x
theorem KB.good {S : Nat → Prop} {L pre : List Pair} (h : KB S L) (hp : pre <+: L) : ¬ Bad pre := by
  rintro ⟨a, x, rfl, hb⟩
  obtain ⟨r, rfl⟩ := hp
  apply hb
  obtain ⟨m, _, hm, rfl⟩ := h.2.1 x (by simp)
  refine ⟨?_, by show (m : Int) ≤ 1000; omega, by simp⟩
  cases hl : a.getLast? with
  | none =>
    rw [lastv, hl]; simp; omega
  | some y =>
    obtain ⟨a', rfl⟩ := List.getLast?_eq_some_iff.1 hl
    rw [lastv_snoc]
    have hr := h.rise
    obtain ⟨k, _, hk, rfl⟩ := h.2.1 y (by simp)
    rw [show a' ++ [(keyS k, (k : Int))] ++ [(keyS m, (m : Int))] ++ r = a' ++ ((keyS k, (k : Int)) :: (keyS m, (m : Int)) :: r) by simp, List.map_append, List.map_cons, List.map_cons] at hr
    have h2 := (List.pairwise_cons.1 (List.pairwise_append.1 hr).2.1).1 m (by simp)
    simp only [Int.toNat_natCast] at h2
    show (k : Int) < (m : Int)
    omega
end Go.Proofs.Ytkhjhcbmefahkaa
