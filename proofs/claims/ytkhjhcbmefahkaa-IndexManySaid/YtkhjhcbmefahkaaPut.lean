/-
  (*Index).put: what it does to a tree, by the number of its storeys.
-/
import Derived.Test.YtkhjhcbmefahkaaRep
import Derived.Deep.RegionWith
import Derived.BigQuiet
import Derived.Deep.QuietTactic
namespace Go.Proofs.Ytkhjhcbmefahkaa
open Go.RowKit Go.Mm Go.Lst

def retv : Option Int → Value
  | some m => .tuple #[.int .i64 m, .bool true]
  | none => .tuple #[.int .i64 0, .bool false]

/-- what put leaves of a node: its pairs are now ps', its kids as they were -/
def PutLeafPost (w : World) (b : Nat) (pb : List Nat) (kb : List Nat) (ps' : List Pair) (r : Value) (e : Ending) (w' : World) : Prop :=
  ∃ pb', e = .returned r ∧ NdAt w' b pb' ps' kb [] ∧ Tch (fun y => y = b ∨ y ∈ pb) w w' ∧ (∀ y ∈ pb', y ∈ pb ∨ w.heap.size ≤ y)

theorem enc_ins {A C : List Pair} (key : ByteArray) (n : Int) : (encPs (A ++ C)).take (A.length * 2) ++ [.string key, .int .i64 n] ++ (encPs (A ++ C)).drop (A.length * 2) = encPs (A ++ (key, n) :: C) := by
  rw [encPs_take, encPs_drop, List.take_left, List.drop_left, encPs_append, encPs_cons]
  simp

theorem put_leaf_fin {w w1 w4 : World} {b : Nat} {pb kb bl4 : List Nat} {ps A C L' : List Pair} {key : ByteArray} {n : Int} {R : Value} {pa ka a4 : Option Addr} {pc kc n4 : Nat}
    (Hb : Blk w b [.slice pa ps.length pc, .slice ka 0 kc] 62) (Hp : Sl w 67 2 (.slice pa ps.length pc) pb ps.length (encPs ps)) (Hk : Sl w 58 1 (.slice ka 0 kc) kb 0 (encKs []))
    (Ht : Tch (fun _ => False) (w.alloc (.cells #[.string key, .int .i64 n] 67)) w1) (HT4 : Tch (fun x => x ∈ pb) (w1.drew.alloc (.cells #[.string key, .int .i64 n] 67)) w4)
    (HS4 : Sl w4 67 2 (.slice a4 (ps.length + 1) n4) bl4 (ps.length + 1) ((encPs ps).take (A.length * 2) ++ [.string key, .int .i64 n] ++ (encPs ps).drop (A.length * 2)))
    (HN4 : ∀ y, y ∈ bl4 → y ∈ pb ∨ (w1.drew.alloc (.cells #[.string key, .int .i64 n] 67)).heap.size ≤ y) (HB4 : Blk w4 b [.slice pa ps.length pc, .slice ka 0 kc] 62)
    (Hbp : b ∉ pb) (Hbk : b ∉ kb) (Hpk : ∀ y ∈ pb, y ∉ kb) (HA : Blw A key) (HC : Abv C key) (Hh : ps = A ++ C) (HL : lput key n ps = L') (HR : retv (lget key ps) = R) :
    PutLeafPost w b pb kb L' R (.returned (.tuple #[.int .i64 0, .bool false])) (w4.setCell ⟨b, 0, none⟩ (.slice a4 (ps.length + 1) n4)) := by
  have s1 := Ht.size
  simp only [World.size_alloc] at s1
  have hbl := Hb.lt
  have hpl := Hp.lt
  have hkl := Hk.lt
  have tS := Tch.setCell (S := fun y => y = b) w4 (a := ⟨b, 0, none⟩) rfl (.slice a4 (ps.length + 1) n4)
  have t01 : Tch (fun _ => False) w (w1.drew.alloc (.cells #[.string key, .int .i64 n] 67)) := ((Tch.alloc _ w _).trans Ht (fun _ _ h => h)).trans ((Tch.drew _ w1).trans (Tch.alloc _ _ _) (fun _ _ h => h)) (fun _ _ h => h)
  have t04 : Tch (fun x => x ∈ pb) w w4 := (t01.mono (fun _ _ h => h.elim)).trans HT4 (fun _ _ h => h)
  simp only [World.size_alloc, World.size_drew] at HN4
  have hlen : (A ++ (key, n) :: C).length = ps.length + 1 := by rw [Hh]; simp; omega
  refine ⟨bl4, ?_, ⟨_, _, HB4.setC 0 _, ?_, ?_⟩, (t04.mono (fun _ _ h => .inr h)).trans tS (fun _ _ h => .inl h), fun y hy => ?_⟩
  · rw [← HR, Hh, lget_append_left HA.ne, show C = C ++ [] from (List.append_nil C).symm, lget_none.2 (by rw [List.append_nil]; exact HC.ne)]
    rfl
  · rw [← HL, Hh, lput_new HA HC, hlen]
    have := HS4.tch tS (fun y hy e => by
      subst e
      rcases HN4 _ hy with h | h
      · exact Hbp h
      · omega)
    rw [← enc_ins, ← Hh]
    exact this
  · exact (Hk.tch t04 (fun y hy h => Hpk y h hy)).tch tS (fun y hy e => Hbk (e ▸ hy))
  · rcases HN4 y hy with h | h
    · exact .inl h
    · exact .inr (by omega)

theorem split_exists {ps : List Pair} (key : ByteArray) (hs : Srt ps) : (∃ A m C, ps = A ++ (key, m) :: C ∧ Blw A key ∧ Abv C key) ∨ (∃ A C, ps = A ++ C ∧ Blw A key ∧ Abv C key) := by
  induction ps with
  | nil => exact .inr ⟨[], [], rfl, (fun p hp => by cases hp), (fun p hp => by cases hp)⟩
  | cons p ps ih =>
    have hp := List.pairwise_cons.1 hs
    by_cases h : cmpB p.1 key < 0
    · have hcons : ∀ A : List Pair, Blw A key → Blw (p :: A) key := fun A hA q hq => by
        rcases List.mem_cons.1 hq with e | hq
        · rw [e]; exact h
        · exact hA q hq
      rcases ih hp.2 with ⟨A, m, C, rfl, hA, hC⟩ | ⟨A, C, rfl, hA, hC⟩
      · exact .inl ⟨p :: A, m, C, rfl, hcons A hA, hC⟩
      · exact .inr ⟨p :: A, C, rfl, hcons A hA, hC⟩
    · by_cases hz : cmpB p.1 key = 0
      · obtain rfl : p.1 = key := cmp_eq.1 hz
        exact .inl ⟨[], p.2, ps, rfl, (fun q hq => by cases hq), fun q hq => hp.1 q hq⟩
      · have hk : cmpB key p.1 < 0 := by rw [cmp_neg]; omega
        refine .inr ⟨[], p :: ps, rfl, (fun q hq => by cases hq), fun q hq => ?_⟩
        rcases List.mem_cons.1 hq with e | hq
        · rw [e]; exact hk
        · exact cmp_trans hk (hp.1 q hq)

theorem not_both {A C A' C' : List Pair} {key : ByteArray} {m : Int} (h : A ++ (key, m) :: C = A' ++ C') (hA' : Blw A' key) (hC' : Abv C' key) : False := by
  have : (key, m) ∈ A' ++ C' := by rw [← h]; simp
  rcases List.mem_append.1 this with h | h
  · have := hA' _ h; simp [cmp_self] at this
  · have := hC' _ h; simp [cmp_self] at this
theorem same_split {A C A' C' : List Pair} {key : ByteArray} {m m' : Int} (h : A ++ (key, m) :: C = A' ++ (key, m') :: C') (hA : Blw A key) (hA' : Blw A' key) : A = A' ∧ m = m' ∧ C = C' := by
  induction A generalizing A' with
  | nil =>
    cases A' with
    | nil => simp at h; exact ⟨rfl, h.1, h.2⟩
    | cons a A' =>
      simp only [List.nil_append, List.cons_append, List.cons.injEq] at h
      have := hA' a (by simp)
      rw [← h.1] at this; simp [cmp_self] at this
  | cons a A ih =>
    cases A' with
    | nil =>
      simp only [List.nil_append, List.cons_append, List.cons.injEq] at h
      have := hA a (by simp)
      rw [h.1] at this; simp [cmp_self] at this
    | cons a' A' =>
      simp only [List.cons_append, List.cons.injEq] at h
      obtain ⟨h1, h2, h3⟩ := ih h.2 (fun p hp => hA p (by simp [hp])) (fun p hp => hA' p (by simp [hp]))
      exact ⟨by rw [h.1, h1], h2, h3⟩
theorem same_split' {A C A' C' : List Pair} {key : ByteArray} (h : A ++ C = A' ++ C') (hA : Blw A key) (hC : Abv C key) (hA' : Blw A' key) (hC' : Abv C' key) : A = A' ∧ C = C' := by
  induction A generalizing A' with
  | nil =>
    cases A' with
    | nil => exact ⟨rfl, h⟩
    | cons a A' =>
      simp only [List.nil_append, List.cons_append] at h
      have h1 := hA' a (by simp)
      have h2 := hC a (by rw [h]; simp)
      rw [cmp_neg] at h2; omega
  | cons a A ih =>
    cases A' with
    | nil =>
      simp only [List.nil_append, List.cons_append] at h
      have h1 := hA a (by simp)
      have h2 := hC' a (by rw [← h]; simp)
      rw [cmp_neg] at h2; omega
    | cons a' A' =>
      simp only [List.cons_append, List.cons.injEq] at h
      obtain ⟨h1, h2⟩ := ih h.2 (fun p hp => hA p (by simp [hp])) (fun p hp => hA' p (by simp [hp]))
      exact ⟨by rw [h.1, h1], h2⟩

def PutHerePost (w : World) (b : Nat) (pb : List Nat) (ps' : List Pair) (kb ptrs : List Nat) (r : Value) (e : Ending) (w' : World) : Prop :=
  e = .returned r ∧ NdAt w' b pb ps' kb ptrs ∧ Tch (· ∈ pb) w w'

theorem enc_set {A C : List Pair} (key : ByteArray) (m n : Int) (sp : List Value) : (encPs (A ++ (key, m) :: C) ++ sp).set (A.length * 2 + 1) (.int .i64 n) = encPs (A ++ (key, n) :: C) ++ sp := by
  rw [encPs_append, encPs_append, encPs_cons, encPs_cons, List.append_assoc, List.append_assoc, ← encPs_length, List.set_append_right _ _ (by omega)]
  simp

theorem put_here_fin {w w1 : World} {b q cap i : Nat} {kb ptrs : List Nat} {ps ps' : List Pair} {sp : List Value} {kv : Value} {n m : Int} {o : Obj}
    (Hk : Sl w 58 1 kv kb ptrs.length (encKs ptrs)) (Hqc : (encPs ps ++ sp).length = cap * 2) (hqn : ps.length ≤ cap)
    (Ht : Tch (fun _ => False) (w.alloc o) w1) (HB1 : Blk w1 b [.slice (some ⟨q, 0, none⟩) ps.length cap, kv] 62) (HQ1 : Blk w1 q (encPs ps ++ sp) 67) (Hpk : ∀ y ∈ [q], y ∉ kb) (hbq : ¬ b = q)
    (HE : ∀ sp, (encPs ps ++ sp).set i (.int .i64 n) = encPs ps' ++ sp) (HNL : ps'.length = ps.length) :
    PutHerePost w b [q] ps' kb ptrs (.tuple #[.int .i64 m, .bool true]) (.returned (.tuple #[.int .i64 m, .bool true])) (w1.drew.setCell ⟨q, i, none⟩ (.int .i64 n)) := by
  have t01 : Tch (fun _ => False) w w1.drew := ((Tch.alloc _ w o).trans Ht (fun _ _ h => h)).trans (Tch.drew _ w1) (fun _ _ h => h)
  have tS := Tch.setCell (S := (· ∈ [q])) w1.drew (a := ⟨q, i, none⟩) (by simp) (.int .i64 n)
  have hset := HQ1.drew.setC i (.int .i64 n)
  rw [HE] at hset
  refine ⟨rfl, ⟨_, _, HB1.drew.setC' hbq _ _, ?_, (Hk.tch t01 (fun _ _ h => h)).tch tS (fun y hy h => Hpk y h hy)⟩, (t01.mono (fun _ _ h => h.elim)).trans tS (fun _ _ h => h)⟩
  rw [← HNL]
  exact Sl.mk hset (encPs_length _) (by rw [← Hqc, List.length_append, List.length_append, encPs_length, encPs_length, HNL]) (by omega)

set_option maxRecDepth 100000 in
set_option maxHeartbeats 1000000 in
theorem put_here {w : World} {b : Nat} {pb : List Nat} {kb ptrs : List Nat} (x : Value) (key : ByteArray) (n m : Int) (A C : List Pair) (h : NdAt w b pb (A ++ (key, m) :: C) kb ptrs) (hn : (A ++ (key, m) :: C).length ≤ 1000) (hbp : b ∉ pb) (hpk : ∀ y ∈ pb, y ∉ kb)
    (hs : Srt (A ++ (key, m) :: C)) (hA : Blw A key) :
    Calls Try.prog 27 #[x, .pointer (some ⟨b, 0, none⟩), .agg #[.string key, .int .i64 n]] w (PutHerePost w b pb (A ++ (key, n) :: C) kb ptrs (.tuple #[.int .i64 m, .bool true])) := by
  have hget : (A ++ (key, m) :: C)[A.length]? = some (key, m) := by simp
  have hAl : A.length < (A ++ (key, m) :: C).length := by simp
  have henc := enc_set (A := A) (C := C) key m n
  have henl : (A ++ (key, n) :: C).length = (A ++ (key, m) :: C).length := by simp
  obtain ⟨pv, kv, hb, hp, hk⟩ := h
  have hfind := fun w' (ht : Tch (fun _ => False) w w') => find_any (ht.get hb (fun h => h)) (hp.tch ht (fun _ _ h => h)) (by omega) key hs
  obtain ⟨q, cap, sp, rfl, rfl, hq, hql, hqc, hqn⟩ := hp.pos (by omega)
  have HA := Lib.hid hA; have HE := Lib.hid henc; have HNL := Lib.hid henl
  generalize hps : A ++ (key, m) :: C = ps at *
  generalize hpn : A ++ (key, n) :: C = ps' at *
  obtain ⟨e0, e1⟩ := encPs_get hget sp
  have d1 := (hq.cell _).trans e1
  have hbq : ¬ b = q := by simpa using hbp
  have l1 := hb.lt
  have l2 := hq.lt
  have Hb := Lib.hid hb; have Hp := Lib.hid hp; have Hk := Lib.hid hk; have HF := Lib.hid hfind; have Hpk := Lib.hid hpk; have Hq := Lib.hid hq; have Hql := Lib.hid hql; have Hqc := Lib.hid hqc; have Hps := Lib.hid hps
  clear hb hp hk hs hfind hbp hpk hq hql hqc hget e0 e1 hA hps henc henl hpn
  go_enter Try.func27, Try.ntmps27
  go_wp2_with fail
  refine (HF.out _ (Tch.alloc _ _ _)).mono ?_
  rintro e w1 ⟨⟨A', C', hA', hC', ⟨m', h, rfl⟩ | ⟨h, rfl⟩⟩, ht⟩
  · obtain ⟨rfl, rfl, rfl⟩ := same_split (Hps.out.trans h) HA.out hA'
    have hb1 := ht.get (Hb.out.alloc _) (fun h => h)
    have hq1 := ht.get (Hq.out.alloc _) (fun h => h)
    have hP1 : Blk w1 w.heap.size _ 67 := ht.get (Blk.new w [.string key, .int .i64 n] 67) (fun h => h)
    have c0 : w1.cell? ⟨b, 0, none⟩ = some (.slice (some ⟨q, 0, none⟩) ps.length cap) := hb1.cell 0
    have p1 : w1.cell? ⟨w.heap.size, 1, none⟩ = some (.int .i64 n) := hP1.cell 1
    have d1' : w1.cell? ⟨q, A.length * 2 + 1, none⟩ = some (.int .i64 m) := ((hq1.cell _).trans (Hq.out.cell _).symm).trans d1
    have d2' : w1.frozen? ⟨q, A.length * 2 + 1, none⟩ = false := hq1.frozen _
    have hAi : (A.length : Int) < (ps.length : Int) := by omega
    have hA0 : (0 : Int) ≤ (A.length : Int) := by omega
    have lt1 : w.heap.size + 1 ≤ w1.heap.size := by have := ht.size; simpa using this
    have Ht := Lib.hid ht; have HB1 := Lib.hid hb1; have HQ1 := Lib.hid hq1
    clear ht hb1 hP1 hq1 h hA' hC' d1
    go_wp2_with fail
    go_region
    all_goals go_wp2_with fail
    all_goals go_ret2
    all_goals exact put_here_fin Hk.out Hqc.out hqn Ht.out HB1.out HQ1.out Hpk.out hbq HE.out HNL.out
  · exact (not_both (Hps.out.trans h) hA' hC').elim

set_option maxRecDepth 100000 in
set_option maxHeartbeats 1000000 in
theorem put_leaf {w : World} {b : Nat} {pb : List Nat} {ps : List Pair} {kb : List Nat} (h : NdAt w b pb ps kb []) (hn : ps.length ≤ 1000) (hbp : b ∉ pb) (hbk : b ∉ kb) (hpk : ∀ y ∈ pb, y ∉ kb)
    (hs : Srt ps) (x : Value) (key : ByteArray) (n : Int) (A0 C0 : List Pair) (h0 : ps = A0 ++ C0) (hA0 : Blw A0 key) (hC0 : Abv C0 key) :
    Calls Try.prog 27 #[x, .pointer (some ⟨b, 0, none⟩), .agg #[.string key, .int .i64 n]] w (PutLeafPost w b pb kb (lput key n ps) (retv (lget key ps))) := by
  obtain ⟨pv, kv, hb, hp, hk⟩ := h
  have hfind := fun w' (ht : Tch (fun _ => False) w w') => find_any (ht.get hb (fun h => h)) (hp.tch ht (fun _ _ h => h)) (by omega) key hs
  obtain ⟨ka, kc, rfl, _⟩ := hk.val
  obtain ⟨pa, pc, rfl, _⟩ := hp.val
  have l1 := hb.lt
  have Hb := Lib.hid hb; have Hp := Lib.hid hp; have Hk := Lib.hid hk; have Hs := Lib.hid hs; have HF := Lib.hid hfind
  have Hbp := Lib.hid hbp; have Hbk := Lib.hid hbk; have Hpk := Lib.hid hpk
  clear hb hp hk hs hfind hbp hbk hpk
  have H0 := Lib.hid h0; have HA0 := Lib.hid hA0; have HC0 := Lib.hid hC0
  clear h0 hA0 hC0
  generalize hL : lput key n ps = L'
  generalize hR : retv (lget key ps) = R
  have HL := Lib.hid hL; have HR := Lib.hid hR; clear hL hR
  go_enter Try.func27, Try.ntmps27
  go_wp2_with fail
  refine (HF.out _ (Tch.alloc _ _ _)).mono ?_
  rintro e w1 ⟨⟨A, C, hA, hC, ⟨m, h, rfl⟩ | ⟨h, rfl⟩⟩, ht⟩
  · exact (not_both (h.symm.trans H0.out) HA0.out HC0.out).elim
  · have hAl : A.length ≤ ps.length := by rw [h, List.length_append]; omega
    have Hh := Lib.hid h; have HA := Lib.hid hA; have HC := Lib.hid hC
    clear h hA hC
    have lt1 : w.heap.size + 1 ≤ w1.heap.size := by have := ht.size; simpa using this
    have hb1 := ht.get (Hb.out.alloc _) (fun h => h)
    have hP1 : Blk w1 w.heap.size _ 67 := ht.get (Blk.new w [.string key, .int .i64 n] 67) (fun h => h)
    have c0 : w1.cell? ⟨b, 0, none⟩ = some (.slice pa ps.length pc) := hb1.cell 0
    have c1 : w1.frozen? ⟨b, 0, none⟩ = false := hb1.frozen 0
    have p0 : w1.cell? ⟨w.heap.size, 0, none⟩ = some (.string key) := hP1.cell 0
    have p1 : w1.cell? ⟨w.heap.size, 1, none⟩ = some (.int .i64 n) := hP1.cell 1
    have Ht := Lib.hid ht; have HB1 := Lib.hid hb1; have HP1 := Lib.hid hP1
    have l11 : b < w1.heap.size := by omega
    have l12 : w.heap.size < w1.heap.size := by omega
    clear ht hb1 hP1
    go_wp2_with (go_at_call 30; refine (leaf_any _ _ _ _ _ _ HB1.out).mono ?_; rintro e w3 ⟨rfl, rfl⟩)
    have hsl := ((Hp.out.alloc (.cells #[.string key, .int .i64 n] 67)).tch Ht.out (fun _ _ h => h)).drew.alloc (.cells #[.string key, .int .i64 n] 67)
    have hxx : Blk (w1.drew.alloc (.cells #[.string key, .int .i64 n] 67)) w1.heap.size [.string key, .int .i64 n] 67 := Blk.newLast _ _ rfl
    have hxn : w1.heap.size ∉ pb := fun hy => by have := Hp.out.lt _ hy; omega
    have HC36 := Lib.hid (insP_any hsl (by omega) A.length hAl w1.heap.size 1 [.string key, .int .i64 n] hxx rfl (by simp; exact ⟨rfl, rfl⟩) (encPs_one ps) hxn)
    clear hsl hxx hxn
    go_region_with (go_at_call 36; refine HC36.out.mono ?_; rintro e w4 ⟨v4, bl4, rfl, hs4, ht4, hn4⟩; obtain ⟨a4, n4, rfl, _⟩ := hs4.val; have hb4 := ht4.get (HB1.out.drew.alloc _) Hbp.out; have g0 := hb4.cell 0; have g1 := hb4.frozen 0; have HT4 := Lib.hid ht4; have HS4 := Lib.hid hs4; have HN4 := Lib.hid hn4; have HB4 := Lib.hid hb4; clear ht4 hs4 hn4 hb4)
    all_goals go_wp2_with fail
    all_goals go_ret2
    all_goals exact put_leaf_fin Hb.out Hp.out Hk.out Ht.out HT4.out HS4.out HN4.out HB4.out Hbp.out Hbk.out Hpk.out HA.out HC.out Hh.out HL.out HR.out
end Go.Proofs.Ytkhjhcbmefahkaa
