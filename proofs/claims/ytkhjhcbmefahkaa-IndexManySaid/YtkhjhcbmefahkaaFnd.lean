/-
  strings.Compare, slices.BinarySearchFunc over pairs, node.leaf, node.find: a contract each.
-/
import Derived.Test.YtkhjhcbmefahkaaLib
import Derived.Lib.Bytealg
namespace Go.Proofs.Ytkhjhcbmefahkaa
open Go.RowKit Go.Mm Go.Lst

set_option maxHeartbeats 400000 in
theorem f50_any (a b : ByteArray) (w : World) :
    Calls Try.prog 50 #[.string a, .string b] w fun e w' => e = .returned (.int .i64 (cmpB a b)) ∧ w = w' := by
  go_enter Try.func50, Try.ntmps50
  go_wp2
  rw [run_callFunc_extern Try.func54 (by kernel_rfl) (by kernel_rfl) (by kernel_rfl) (e := Extern.BytealgCompare.compare) (by kernel_rfl), Lib.run_compareString]
  simp only [Result.andThen]
  rw [Oper.upon_value]
  go_wp2
  go_ret
  exact ⟨rfl, rfl⟩
set_option maxHeartbeats 400000 in
theorem f42_any (a b : ByteArray) (w : World) :
    Calls Try.prog 42 #[.string a, .string b] w fun e w' => e = .returned (.int .i64 (cmpB a b)) ∧ w = w' := by
  go_enter Try.func42, Try.ntmps42
  go_wp2_with (go_at_call 50; refine (f50_any _ _ _).mono ?_; rintro e w' ⟨rfl, rfl⟩)
  go_ret
  exact ⟨rfl, rfl⟩
set_option maxHeartbeats 400000 in
theorem f41_any (k : ByteArray) (n : Int) (b : ByteArray) (w : World) :
    Calls Try.prog 41 #[.agg #[.string k, .int .i64 n], .string b] w fun e w' => e = .returned (.int .i64 (cmpB k b)) ∧ w' = w.alloc (.cells #[.string k, .int .i64 n] 67) := by
  go_enter Try.func41, Try.ntmps41
  go_wp2_with (go_at_call 42; refine (f42_any _ _ _).mono ?_; rintro e w' ⟨rfl, rfl⟩)
  go_ret
  exact ⟨rfl, rfl⟩

/-! ### Pairs as cells -/
def encP (p : Pair) : List Value := [.string p.1, .int .i64 p.2]
def encPs (ps : List Pair) : List Value := ps.flatMap encP
theorem encPs_nil : encPs [] = [] := rfl
theorem encPs_cons (p : Pair) (ps : List Pair) : encPs (p :: ps) = .string p.1 :: .int .i64 p.2 :: encPs ps := rfl
theorem encPs_append (a b : List Pair) : encPs (a ++ b) = encPs a ++ encPs b := by simp [encPs]
theorem encPs_length (ps : List Pair) : (encPs ps).length = ps.length * 2 := by
  induction ps with
  | nil => rfl
  | cons p ps ih => simp [encPs_cons, ih]; omega
theorem encPs_get {ps : List Pair} {i : Nat} {p : Pair} (h : ps[i]? = some p) (sp : List Value) : (encPs ps ++ sp)[i * 2]? = some (.string p.1) ∧ (encPs ps ++ sp)[i * 2 + 1]? = some (.int .i64 p.2) := by
  induction ps generalizing i with
  | nil => cases h
  | cons q ps ih =>
    cases i with
    | zero => simp at h; subst h; simp [encPs_cons]
    | succ i =>
      have := ih (i := i) (by simpa using h)
      rw [encPs_cons, show (i + 1) * 2 = i * 2 + 1 + 1 from by omega]
      simpa using this
theorem encPs_one (ps : List Pair) : ∀ u ∈ encPs ps, u.oneCell' = true := by
  intro u hu
  simp only [encPs, List.mem_flatMap, encP] at hu
  obtain ⟨p, _, hu⟩ := hu
  simp at hu
  rcases hu with rfl | rfl <;> rfl
theorem encPs_take (ps : List Pair) (i : Nat) : (encPs ps).take (i * 2) = encPs (ps.take i) := by
  induction ps generalizing i with
  | nil => simp [encPs]
  | cons p ps ih =>
    cases i with
    | zero => simp [encPs]
    | succ i => rw [encPs_cons, show (i + 1) * 2 = i * 2 + 1 + 1 from by omega, List.take_succ_cons, List.take_succ_cons, ih, List.take_succ_cons, encPs_cons]
theorem encPs_drop (ps : List Pair) (i : Nat) : (encPs ps).drop (i * 2) = encPs (ps.drop i) := by
  induction ps generalizing i with
  | nil => simp [encPs]
  | cons p ps ih =>
    cases i with
    | zero => simp
    | succ i => rw [encPs_cons, show (i + 1) * 2 = i * 2 + 1 + 1 from by omega, List.drop_succ_cons, List.drop_succ_cons, ih, List.drop_succ_cons]

/-- where a key stands among rising keys -/
theorem split_at {ps : List Pair} {key : ByteArray} {k : Nat} (hk : k ≤ ps.length) (h1 : ∀ m p, m < k → ps[m]? = some p → cmpB p.1 key < 0)
    (hs : Srt ps) (h2 : ∀ m p, k ≤ m → ps[m]? = some p → 0 ≤ cmpB p.1 key) :
    ∃ A C, Blw A key ∧ Abv C key ∧ A.length = k ∧
      ((∃ m, ps = A ++ (key, m) :: C ∧ ((ps[k]?).any (fun p => cmpB p.1 key == 0)) = true) ∨ (ps = A ++ C ∧ ((ps[k]?).any (fun p => cmpB p.1 key == 0)) = false)) := by
  have hA : Blw (ps.take k) key := by
    intro p hp
    obtain ⟨m, hm, rfl⟩ := List.getElem_of_mem hp
    simp at hm
    exact h1 m _ (by omega) (by simp [List.getElem_take])
  have hlen : (ps.take k).length = k := by simp; omega
  have hsd : Srt (ps.drop k) := List.Pairwise.drop hs
  cases hd : ps.drop k with
  | nil =>
    have hk' : ps.length ≤ k := by simpa using hd
    refine ⟨ps.take k, [], hA, (fun p hp => by cases hp), hlen, .inr ⟨?_, ?_⟩⟩
    · rw [List.append_nil, List.take_of_length_le hk']
    · rw [List.getElem?_eq_none hk']; rfl
  | cons q r =>
    have hq : ps[k]? = some q := by
      have := congrArg (·[0]?) hd
      simpa using this
    have e : ps = ps.take k ++ q :: r := by rw [← hd, List.take_append_drop]
    have h0 := h2 k q (Nat.le_refl _) hq
    have hr := List.pairwise_cons.1 (hd ▸ hsd)
    by_cases hz : cmpB q.1 key = 0
    · obtain rfl : q.1 = key := cmp_eq.1 hz
      refine ⟨ps.take k, r, hA, fun p hp => hr.1 p hp, hlen, .inl ⟨q.2, e, ?_⟩⟩
      rw [hq]; simp [hz]
    · refine ⟨ps.take k, q :: r, hA, ?_, hlen, .inr ⟨e, ?_⟩⟩
      · have hq' : cmpB key q.1 < 0 := by rw [cmp_neg]; omega
        intro p hp
        rcases List.mem_cons.1 hp with e | hp
        · rw [e]; exact hq'
        · exact cmp_trans hq' (hr.1 p hp)
      · rw [hq]; simp [hz]

def FindPost (ps : List Pair) (key : ByteArray) (w : World) (e : Ending) (w' : World) : Prop :=
  (∃ A C, Blw A key ∧ Abv C key ∧
    ((∃ m, ps = A ++ (key, m) :: C ∧ e = .returned (.tuple #[.int .i64 A.length, .bool true])) ∨ (ps = A ++ C ∧ e = .returned (.tuple #[.int .i64 A.length, .bool false])))) ∧ Tch (fun _ => False) w w'

theorem findPost_of {ps : List Pair} {key : ByteArray} {w w' : World} {e : Ending} {k : Nat} (hs : Srt ps) (hk : k ≤ ps.length) (h1 : Hid (∀ m p, m < k → ps[m]? = some p → cmpB p.1 key < 0))
    (h2 : Hid (∀ m p, k ≤ m → ps[m]? = some p → 0 ≤ cmpB p.1 key)) (he : e = .returned (.tuple #[.int .i64 k, .bool ((ps[k]?).any (fun p => cmpB p.1 key == 0))])) (hb : Below w.heap.size w w') :
    FindPost ps key w e w' := by
  obtain ⟨A, C, hA, hC, hl, h⟩ := split_at hk h1.out hs h2.out
  refine ⟨⟨A, C, hA, hC, ?_⟩, Tch.of_below hb (Nat.le_refl _)⟩
  subst he
  rcases h with ⟨m, h, hb⟩ | ⟨h, hb⟩
  · exact .inl ⟨m, h, by rw [hb, hl]⟩
  · exact .inr ⟨h, by rw [hb, hl]⟩

theorem srt_neg {ps : List Pair} {key : ByteArray} (hs : Srt ps) {a b : Nat} {p q : Pair} (hab : a ≤ b) (hp : ps[a]? = some p) (hq : ps[b]? = some q) (h : cmpB q.1 key < 0) : cmpB p.1 key < 0 := by
  by_cases e : a = b
  · subst e; rw [hp] at hq; cases hq; exact h
  · have := List.pairwise_iff_getElem.1 hs a b (List.getElem?_eq_some_iff.1 hp).1 (List.getElem?_eq_some_iff.1 hq).1 (by omega)
    rw [(List.getElem?_eq_some_iff.1 hp).2, (List.getElem?_eq_some_iff.1 hq).2] at this
    exact cmp_trans this h
theorem srt_pos {ps : List Pair} {key : ByteArray} (hs : Srt ps) {a b : Nat} {p q : Pair} (hab : a ≤ b) (hp : ps[a]? = some p) (hq : ps[b]? = some q) (h : 0 ≤ cmpB p.1 key) : 0 ≤ cmpB q.1 key := by
  by_cases h' : cmpB q.1 key < 0
  · have := srt_neg hs hab hp hq h'; omega
  · omega

set_option maxHeartbeats 1000000 in
theorem f40_any {v : Value} {bl : List Nat} {ps : List Pair} {w : World} (hp : Sl w 67 2 v bl ps.length (encPs ps)) (hlen : ps.length ≤ 1000000) (key : ByteArray) (hs : Srt ps) :
    Calls Try.prog 40 #[v, .string key, .func (.func 41) #[] #[]] w (FindPost ps key w) := by
  have HR := Lib.hid hs; clear hs
  have HP := Lib.hid hp
  obtain ⟨a0, cap, rfl, _⟩ := hp.val
  clear hp
  go_enter Try.func40, Try.ntmps40
  go_wp2
  go_loopw [9, 10] (fun i j wr => ∃ a b : Nat, i = .int .i64 a ∧ j = .int .i64 b ∧ a ≤ b ∧ b ≤ ps.length ∧ Hid (∀ m p, m < a → ps[m]? = some p → cmpB p.1 key < 0) ∧ Hid (∀ m p, b ≤ m → ps[m]? = some p → 0 ≤ cmpB p.1 key) ∧ Below w.heap.size w wr) (fun i j _ => (intOf j - intOf i).toNat)
  case atStart => exact ⟨0, ps.length, rfl, rfl, by omega, by omega, fun m p h => by omega, fun m p h hp => by have := (List.getElem?_eq_some_iff.1 hp).1; omega, Below.refl _ _⟩
  case round =>
    obtain ⟨a, b, rfl, rfl, hab, hb, H1, H2, hB⟩ := hrel
    by_cases hlt : a < b
    · obtain ⟨p, hp⟩ : ∃ p, ps[(a+b)/2]? = some p := ⟨ps[(a+b)/2]'(by omega), by simp⟩
      obtain ⟨pb, cap', sp, hv, _, hbk, _⟩ := HP.out.pos (by omega)
      obtain ⟨rfl, rfl⟩ : a0 = some ⟨pb, 0, none⟩ ∧ cap = cap' := by simpa using hv
      obtain ⟨c0, c1⟩ := encPs_get hp sp
      have hlt' : pb < w.heap.size := hbk.lt
      have d0 := (hB.cell (p := ⟨pb, _, none⟩) hlt').trans ((hbk.cell _).trans c0)
      have d1 := (hB.cell (p := ⟨pb, _, none⟩) hlt').trans ((hbk.cell _).trans c1)
      clear c0 c1 hv hbk
      have Hp := Lib.hid hp; clear hp
      by_cases hc : cmpB p.1 key < 0
      · go_wp2_with (go_at_call 41; refine (f41_any _ _ _ _).mono ?_; rintro e w' ⟨rfl, rfl⟩)
        go_round
        case rel => exact ⟨(a + b) / 2 + 1, b, by go_num, rfl, by omega, hb, fun m q hm hq => srt_neg HR.out (by omega) hq Hp.out hc, H2, hB.alloc hB.size _⟩
        case measure => simp [intOf]; omega
      · go_wp2_with (go_at_call 41; refine (f41_any _ _ _ _).mono ?_; rintro e w' ⟨rfl, rfl⟩)
        go_round
        case rel => exact ⟨a, (a + b) / 2, rfl, by go_num, by omega, by omega, H1, fun m q hm hq => srt_pos HR.out hm Hp.out hq (by omega), hB.alloc hB.size _⟩
        case measure => simp [intOf]; omega
    · obtain rfl : a = b := by omega
      by_cases hl : a < ps.length
      · obtain ⟨p, hp⟩ : ∃ p, ps[a]? = some p := ⟨ps[a]'(by omega), by simp [hl]⟩
        obtain ⟨pb, cap', sp, hv, _, hbk, _⟩ := HP.out.pos (by omega)
        obtain ⟨rfl, rfl⟩ : a0 = some ⟨pb, 0, none⟩ ∧ cap = cap' := by simpa using hv
        obtain ⟨c0, c1⟩ := encPs_get hp sp
        have hlt' : pb < w.heap.size := hbk.lt
        have d0 := (hB.cell (p := ⟨pb, _, none⟩) hlt').trans ((hbk.cell _).trans c0)
        have d1 := (hB.cell (p := ⟨pb, _, none⟩) hlt').trans ((hbk.cell _).trans c1)
        clear c0 c1 hv hbk
        have Hp := Lib.hid hp; clear hp
        go_wp2_with (go_at_call 41; refine (f41_any _ _ _ _).mono ?_; rintro e w' ⟨rfl, rfl⟩)
        go_ret2
        exact findPost_of HR.out hb H1 H2 (by simp [Hp.out]) (hB.alloc hB.size _)
      · go_wp2
        go_ret2
        exact findPost_of HR.out hb H1 H2 (by simp [show ps[a]? = none from List.getElem?_eq_none (by omega)]) hB

/-! ### A node -/
theorem leaf_any (b : Nat) (pv : Value) (ka : Option Addr) (kn kc : Nat) (w : World) (hb : Blk w b [pv, .slice ka kn kc] 62) :
    Calls Try.prog 30 #[.pointer (some ⟨b,0,none⟩)] w fun e w' => e = .returned (.bool ((kn : Int) == 0)) ∧ w = w' := by
  have h1 : w.cell? ⟨b,1,none⟩ = some (.slice ka kn kc) := by rw [hb.cell]; rfl
  clear hb
  go_enter Try.func30, Try.ntmps30
  go_wp2
  go_ret
  exact ⟨rfl, rfl⟩

set_option maxHeartbeats 400000 in
theorem find_any {b : Nat} {pv kv : Value} {bl : List Nat} {ps : List Pair} {w : World} (hb : Blk w b [pv, kv] 62) (hp : Sl w 67 2 pv bl ps.length (encPs ps)) (hlen : ps.length ≤ 1000000) (key : ByteArray) (hs : Srt ps) :
    Calls Try.prog 29 #[.pointer (some ⟨b,0,none⟩), .string key] w (FindPost ps key w) := by
  have H := Lib.hid (f40_any hp hlen key hs)
  obtain ⟨a0, cap, rfl, _⟩ := hp.val
  have h1 : w.cell? ⟨b,0,none⟩ = some (.slice a0 ps.length cap) := by rw [hb.cell]; rfl
  clear hb hp hs
  go_enter Try.func29, Try.ntmps29
  go_wp2_with fail
  refine H.out.mono ?_
  rintro e w' ⟨⟨A, C, hA, hC, ⟨m, h, rfl⟩ | ⟨h, rfl⟩⟩, ht⟩
  · have Hh := Lib.hid h; clear h
    have Hf : Hid (FindPost ps key w (.returned (.tuple #[.int .i64 A.length, .bool true])) w') := ⟨⟨A, C, hA, hC, .inl ⟨m, Hh.out, rfl⟩⟩, ht⟩
    clear hA hC ht
    go_wp2_with fail
    go_ret2
    exact Hf.out
  · have Hh := Lib.hid h; clear h
    have Hf : Hid (FindPost ps key w (.returned (.tuple #[.int .i64 A.length, .bool false])) w') := ⟨⟨A, C, hA, hC, .inr ⟨Hh.out, rfl⟩⟩, ht⟩
    clear hA hC ht
    go_wp2_with fail
    go_ret2
    exact Hf.out
end Go.Proofs.Ytkhjhcbmefahkaa
