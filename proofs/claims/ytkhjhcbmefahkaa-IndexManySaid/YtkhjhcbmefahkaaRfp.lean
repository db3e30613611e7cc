/-
  The reference's Get, Put, Drop.
-/
import Derived.Test.YtkhjhcbmefahkaaRfa
namespace Go.Proofs.Ytkhjhcbmefahkaa
open Go.RowKit Go.Mm Go.Lst

def RGetPost (g : Option Int) (w : World) (e : Ending) (w' : World) : Prop := e = .returned (retv g) ∧ Tch (fun _ => False) w w'
set_option maxHeartbeats 1000000 in
theorem rget_any {w : World} {yb : Nat} {L : List Pair} {G : List Nat} (h : Rf w yb L G) (hl : L.length ≤ 1000000) (hs : Srt L) (key : ByteArray) :
    Calls Try.prog 18 #[.pointer (some ⟨yb, 0, none⟩), .string key] w (RGetPost (lget key L) w) := by
  obtain ⟨v, bl, hb, hp, hyb, rfl⟩ := h
  have HAT := Lib.hid (at_any hb hp hl hs key)
  have HB := Lib.hid hb; have HP := Lib.hid hp
  clear hb hp hyb hs
  go_enter Try.func18, Try.ntmps18
  go_wp2_with fail
  (with_reducible refine HAT.out.mono ?_)
  rintro e w1 ⟨⟨A, C, hA, hC, ⟨m, h', rfl⟩ | ⟨h', rfl⟩⟩, ht⟩
  · have hget : L[A.length]? = some (key, m) := by rw [h']; simp
    have hAl : A.length < L.length := by rw [h']; simp
    obtain ⟨q, cap, sp, rfl, _, hq, _⟩ := HP.out.pos (by omega)
    have c0 : w1.cell? ⟨yb, 0, none⟩ = some (.slice (some ⟨q, 0, none⟩) L.length cap) := (ht.get HB.out (fun h => h)).cell 0
    have d1 := ((ht.get hq (fun h => h)).cell _).trans (encPs_get hget sp).2
    have q0 : (0 : Int) ≤ (A.length : Int) := by omega
    have hfin : Hid (RGetPost (lget key L) w (.returned (.tuple #[.int .i64 m, .bool true])) w1) := ⟨by rw [h', lget_here hA]; rfl, ht⟩
    clear hget hA hC h' ht hq
    go_wp2_with fail
    go_ret2
    exact hfin.out
  · have hfin : Hid (RGetPost (lget key L) w (.returned (.tuple #[.int .i64 0, .bool false])) w1) := ⟨by rw [h', lget_append_left hA.ne, lget_none.2 hC.ne]; rfl, ht⟩
    clear hA hC h' ht
    go_wp2_with fail
    go_ret2
    exact hfin.out

def RPutPost (yb : Nat) (key : ByteArray) (n : Int) (L : List Pair) (G : List Nat) (w : World) (e : Ending) (w' : World) : Prop :=
  e = .returned (retv (lget key L)) ∧ ∃ G', Rf w' yb (lput key n L) G' ∧ (∀ y ∈ G', y ∈ G ∨ w.heap.size ≤ y) ∧ Tch (· ∈ G) w w'

theorem rput_here {w w1 : World} {yb q cap : Nat} {bl : List Nat} {L A C : List Pair} {key : ByteArray} {m n : Int} {G : List Nat} (HB : Blk w yb [.slice (some ⟨q, 0, none⟩) L.length cap] 41) (HP : Sl w 35 2 (.slice (some ⟨q, 0, none⟩) L.length cap) bl L.length (encPs L)) (hyb : yb ∉ bl) (hG : G = yb :: bl) (ht : Tch (fun _ => False) w w1)
    (hA : Blw A key) (h' : L = A ++ (key, m) :: C) : RPutPost yb key n L G w (.returned (.tuple #[.int .i64 m, .bool true])) (w1.setCell ⟨q, A.length * 2 + 1, none⟩ (.int .i64 n)) := by
  obtain ⟨q', cap', sp, he, rfl, hq, hql, hqc, hqn⟩ := HP.pos (by rw [h', List.length_append, List.length_cons]; omega)
  simp only [Value.slice.injEq, Option.some.injEq, Addr.mk.injEq] at he
  obtain ⟨⟨rfl, _⟩, _, rfl⟩ := he
  have hq1 := (ht.get hq (fun h => h)).setC (A.length * 2 + 1) (.int .i64 n)
  have hne : yb ≠ q := by simpa using hyb
  have hlen : (A ++ (key, n) :: C).length = L.length := by rw [h']; simp
  have henc : (encPs L ++ sp).set (A.length * 2 + 1) (.int .i64 n) = encPs (A ++ (key, n) :: C) ++ sp := by rw [h']; exact enc_set key m n sp
  rw [henc] at hq1
  have tS := Tch.setCell (S := fun y => y = q) w1 (a := ⟨q, A.length * 2 + 1, none⟩) rfl (.int .i64 n)
  refine ⟨by rw [h', lget_here hA]; rfl, yb :: [q], ⟨_, [q], tS.get (ht.get HB (fun h => h)) hne, ?_, hyb, rfl⟩, fun y hy => .inl (by rw [hG]; exact hy), (ht.mono (fun _ _ h => h.elim)).trans tS (fun y _ h => by rw [hG, h]; simp)⟩
  rw [h', lput_here hA]
  refine .inr ⟨q, cap, sp, by rw [← h', hlen], rfl, hq1, by rw [encPs_length], ?_, by rw [hlen]; exact hqn⟩
  rw [List.length_append, encPs_length, hlen, ← encPs_length, ← List.length_append]; exact hqc

/-- append at a row that has come since w1 -/
theorem app_new {w1 w : World} {v x : Value} {bl : List Nat} {A X : List Pair} (h1 : Tch (fun _ => False) w1 w) (h : Sl w 35 2 v bl A.length (encPs A)) (hb : ∀ y ∈ bl, w1.heap.size ≤ y) (hx : Src Try.prog w 2 x X.length (encPs X)) (hx' : Src Try.prog w.drew 2 x X.length (encPs X)) (hl : A.length + X.length ≤ 2000002) :
    ∃ a c w' bl', (Builtin.append_ #[31, 31] 31 #[v, x]).run Try.prog w = .ok (.slice a (A ++ X).length c) w' ∧ Sl w' 35 2 (.slice a (A ++ X).length c) bl' (A ++ X).length (encPs (A ++ X)) ∧ (∀ y ∈ bl', w1.heap.size ≤ y) ∧ Tch (fun _ => False) w1 w' := by
  obtain ⟨v', w', bl', hr, hs, ht, hn⟩ := Sl.append (P := Try.prog) (t := 31) (t' := 31) (ty := 31) Try.underlying31 Try.underlying31 infoP35 (by decide) rfl h hx hx' (encPs_one X) (by omega)
  obtain ⟨a, c, rfl, _⟩ := hs.val
  rw [List.length_append, encPs_append]
  exact ⟨a, c, w', bl', hr, hs, fun y hy => (hn y hy).elim (hb y) (fun h => Nat.le_trans h1.size h), h1.trans ht (fun y hy h => by have := hb y h; omega)⟩

theorem slice0 (w1 : World) : Sl (w1.alloc (.cells #[] 35)) 35 2 (.slice (some ⟨w1.heap.size, 0, none⟩) 0 0) [w1.heap.size] ([] : List Pair).length (encPs []) :=
  .inr ⟨w1.heap.size, 0, [], rfl, rfl, Blk.newLast (w := w1) [] 35 rfl, rfl, rfl, Nat.le_refl _⟩

/-- the three appends of Put -/
theorem put_rows {w1 : World} {vP vS : Value} {A C : List Pair} (key : ByteArray) (n : Int) (hl : A.length + C.length ≤ 1000000)
    (hP : ∀ w', Tch (fun _ => False) w1 w' → Src Try.prog w' 2 vP A.length (encPs A)) (hS : ∀ w', Tch (fun _ => False) w1 w' → Src Try.prog w' 2 vS C.length (encPs C)) :
    ∃ a2 c2 w2 a4 c4 w4 a5 c5 w5 bl5, (Builtin.append_ #[31, 31] 31 #[.slice (some ⟨w1.heap.size, 0, none⟩) 0 0, vP]).run Try.prog (w1.alloc (.cells #[] 35)) = .ok (.slice a2 A.length c2) w2 ∧
      (Builtin.append_ #[31, 31] 31 #[.slice a2 A.length c2, .slice (some ⟨w2.heap.size, 0, none⟩) 1 1]).run Try.prog (w2.alloc (.cells #[.string key, .int .i64 n] 35)) = .ok (.slice a4 (A.length + 1) c4) w4 ∧
      (Builtin.append_ #[31, 31] 31 #[.slice a4 (A.length + 1) c4, vS]).run Try.prog w4 = .ok (.slice a5 (A.length + 1 + C.length) c5) w5 ∧ Tch (fun _ => False) w1 w2 ∧ Tch (fun _ => False) w1 w4 ∧ Tch (fun _ => False) w1 w5 ∧
      Sl w5 35 2 (.slice a5 (A.length + 1 + C.length) c5) bl5 (A ++ (key, n) :: C).length (encPs (A ++ (key, n) :: C)) ∧ ∀ y ∈ bl5, w1.heap.size ≤ y := by
  have t1 : Tch (fun _ => False) w1 (w1.alloc (.cells #[] 35)) := Tch.alloc _ _ _
  obtain ⟨a2, c2, w2, bl2, hr2, hs2, hn2, ht2⟩ := app_new (A := []) (X := A) t1 (slice0 w1) (by simp) (hP _ t1) (hP _ (t1.trans (Tch.drew _ _) (fun _ _ h => h))) (by simp; omega)
  rw [List.nil_append] at hr2 hs2
  have t3 := ht2.trans (Tch.alloc (fun _ => False) w2 (.cells #[.string key, .int .i64 n] 35)) (fun _ _ h => h)
  have hx : Blk (w2.alloc (.cells #[.string key, .int .i64 n] 35)) w2.heap.size [.string key, .int .i64 n] 35 := Blk.newLast _ _ rfl
  have hsrc : ∀ w', Blk w' w2.heap.size [.string key, .int .i64 n] 35 → Src Try.prog w' 2 (.slice (some ⟨w2.heap.size, 0, none⟩) 1 1) ([(key, n)] : List Pair).length (encPs [(key, n)]) := fun w' hb => by
    have := Src.blk (P := Try.prog) hb 2 0 1 1 (by simp)
    simpa [encPs, encP] using this
  obtain ⟨a4, c4, w4, bl4, hr4, hs4, hn4, ht4⟩ := app_new (A := A) (X := [(key, n)]) t3 (hs2.alloc _) hn2 (hsrc _ hx) (hsrc _ hx.drew) (by simp; omega)
  obtain ⟨a5, c5, w5, bl5, hr5, hs5, hn5, ht5⟩ := app_new (A := A ++ [(key, n)]) (X := C) ht4 hs4 hn4 (hS _ ht4) (hS _ (ht4.trans (Tch.drew _ _) (fun _ _ h => h))) (by simp; omega)
  have e1 : (A ++ [(key, n)]).length = A.length + 1 := by simp
  have e2 : (A ++ [(key, n)] ++ C).length = A.length + 1 + C.length := by simp; omega
  have e3 : A ++ [(key, n)] ++ C = A ++ (key, n) :: C := by simp
  have e4 : (A ++ (key, n) :: C).length = A.length + 1 + C.length := by simp; omega
  rw [e1] at hr4 hr5
  rw [e2] at hr5
  rw [e3, e4] at hs5
  rw [e4]
  exact ⟨a2, c2, w2, a4, c4, w4, a5, c5, w5, bl5, hr2, hr4, hr5, ht2, ht4, ht5, hs5, hn5⟩

theorem rput_new {w w1 w5 : World} {yb : Nat} {v v5 : Value} {bl bl5 : List Nat} {L A C : List Pair} {key : ByteArray} {n : Int} {G : List Nat} (HB : Blk w yb [v] 41) (hG : G = yb :: bl) (ht : Tch (fun _ => False) w w1)
    (hA : Blw A key) (hC : Abv C key) (h' : L = A ++ C) (t5 : Tch (fun _ => False) w1 w5) (hs : Sl w5 35 2 v5 bl5 (A ++ (key, n) :: C).length (encPs (A ++ (key, n) :: C))) (hn : ∀ y ∈ bl5, w1.heap.size ≤ y) :
    RPutPost yb key n L G w (.returned (.tuple #[.int .i64 0, .bool false])) (w5.setCell ⟨yb, 0, none⟩ v5) := by
  have hyl := HB.lt
  have hs1 := ht.size
  have hne : ∀ y ∈ bl5, y ≠ yb := fun y hy e => by have := hn y hy; omega
  have tS := Tch.setCell (S := fun y => y = yb) w5 (a := ⟨yb, 0, none⟩) rfl v5
  have t15 := ht.trans t5 (fun _ _ h => h)
  refine ⟨by rw [h', lget_append_left hA.ne, lget_none.2 hC.ne]; rfl, yb :: bl5, ⟨v5, bl5, (t15.get HB (fun h => h)).setC 0 v5, ?_, fun h => hne _ h rfl, rfl⟩, fun y hy => ?_, (t15.mono (fun _ _ h => h.elim)).trans tS (fun y _ h => by rw [hG, h]; simp)⟩
  · rw [h', lput_new hA hC]
    exact hs.tch tS (fun y hy e => hne y hy e)
  · rcases List.mem_cons.1 hy with h | h
    · exact .inl (by rw [hG, h]; simp)
    · exact .inr (Nat.le_trans hs1 (hn y h))

set_option maxRecDepth 100000 in
set_option maxHeartbeats 2000000 in
theorem rput_any {w : World} {yb : Nat} {L : List Pair} {G : List Nat} (h : Rf w yb L G) (hl : L.length ≤ 1000000) (hs : Srt L) (key : ByteArray) (n : Int) :
    Calls Try.prog 15 #[.pointer (some ⟨yb, 0, none⟩), .string key, .int .i64 n] w (RPutPost yb key n L G w) := by
  obtain ⟨v, bl, hb, hp, hyb, hG⟩ := h
  have HAT := Lib.hid (at_any hb hp hl hs key)
  have HB := Lib.hid hb; have HP := Lib.hid hp; have HGE := Lib.hid hG
  clear hb hp hs hG
  go_enter Try.func15, Try.ntmps15
  go_wp2_with fail
  (with_reducible refine HAT.out.mono ?_)
  rintro e w1 ⟨⟨A, C, hA, hC, ⟨m, h', rfl⟩ | ⟨h', rfl⟩⟩, ht⟩
  · have hget : L[A.length]? = some (key, m) := by rw [h']; simp
    have hAl : A.length < L.length := by rw [h']; simp
    obtain ⟨q, cap, sp, rfl, _, hq, _⟩ := HP.out.pos (by omega)
    have hq1 := ht.get hq (fun h => h)
    have c0 : w1.cell? ⟨yb, 0, none⟩ = some (.slice (some ⟨q, 0, none⟩) L.length cap) := (ht.get HB.out (fun h => h)).cell 0
    have d1 := (hq1.cell _).trans (encPs_get hget sp).2
    have d2 := hq1.frozen (A.length * 2 + 1)
    have q0 : (0 : Int) ≤ (A.length : Int) := by omega
    have hfin := Lib.hid (rput_here (n := n) HB.out HP.out hyb HGE.out ht hA h')
    clear hget hA hC h' ht hq hq1
    go_wp2_with fail
    go_ret2
    exact hfin.out
  · have hAl : A.length ≤ L.length := by rw [h', List.length_append]; omega
    have HT := Lib.hid ht; have HH := Lib.hid h'; have HA := Lib.hid hA; have HC := Lib.hid hC
    have q0 : (0 : Int) ≤ (A.length : Int) := by omega
    clear hA hC h' ht
    rcases HP.out with ⟨rfl, rfl, hl0, _⟩ | ⟨q, cap, sp, rfl, rfl, hq, hql, hqc, hqn⟩
    · obtain ⟨rfl, rfl⟩ : A = [] ∧ C = [] := by
        have := HH.out
        have hl0' : L = [] := List.eq_nil_of_length_eq_zero hl0
        rw [hl0'] at this
        have h2 := this.symm
        rw [List.append_eq_nil_iff] at h2
        exact h2
      obtain ⟨a2, c2, w2, a4, c4, w4, a5, c5, w5, bl5, r2, r4, r5, t2, t4, t5, hs5, hn5⟩ := put_rows (w1 := w1) (A := []) (C := []) (vP := .slice none 0 0) (vS := .slice none 0 0) key n (by simp) (fun w' _ => Src.nil w' 2 0) (fun w' _ => Src.nil w' 2 0)
      simp only [List.length_nil, Nat.zero_add, Nat.add_zero] at r2 r4 r5 hs5
      have ly : yb < w1.heap.size := (HT.out.get HB.out (fun h => h)).lt
      have c0 : w1.cell? ⟨yb, 0, none⟩ = some (.slice none 0 0) := by have := (HT.out.get HB.out (fun h => h)).cell 0; exact this
      have b4 := t4.get (HT.out.get HB.out (fun h => h)) (fun h => h)
      have b5 := t5.get (HT.out.get HB.out (fun h => h)) (fun h => h)
      have c4' : w4.cell? ⟨yb, 0, none⟩ = some (.slice none 0 0) := b4.cell 0
      have c5' : w5.cell? ⟨yb, 0, none⟩ = some (.slice none 0 0) := b5.cell 0
      have f5' : w5.frozen? ⟨yb, 0, none⟩ = false := b5.frozen 0
      have hfin := Lib.hid (rput_new (n := n) HB.out HGE.out HT.out HA.out HC.out HH.out t5 hs5 hn5)
      have R2 := Lib.hid r2; have R4 := Lib.hid r4; have R5 := Lib.hid r5
      clear r2 r4 r5 t2 t4 t5 hs5 hn5 b4 b5 hl0
      go_wp2_with (at_builtin; first | (refine wpList_append rfl (.tmp 36) (.tmp 42) 31 31 rfl _ _ R2.out ?_) | (refine wpList_append rfl (.tmp 44) (.tmp 48) 31 31 rfl _ _ R4.out ?_) | (refine wpList_append rfl (.tmp 51) (.tmp 57) 31 31 rfl _ _ R5.out ?_))
      go_ret2
      exact hfin.out
    · have hLn : L.length = A.length + C.length := by rw [HH.out, List.length_append]
      have hpre : ∀ w', Tch (fun _ => False) w1 w' → Src Try.prog w' 2 (.slice (some ⟨q, 0, none⟩) A.length cap) A.length (encPs A) := fun w' h => by
        have := pre_src (P := Try.prog) ((HT.out.trans h (fun _ _ h => h)).get hq (fun h => h)) hql hqc hqn A.length hAl cap
        rw [encPs_take] at this
        rw [show L.take A.length = A by rw [HH.out, List.take_left' rfl]] at this
        exact this
      have ly : yb < w1.heap.size := (HT.out.get HB.out (fun h => h)).lt
      have c0 : w1.cell? ⟨yb, 0, none⟩ = some (.slice (some ⟨q, 0, none⟩) L.length cap) := (HT.out.get HB.out (fun h => h)).cell 0
      have qA : (A.length : Int) ≤ (L.length : Int) := by omega
      have qAc : A.length ≤ cap := by omega
      by_cases hc : cap = A.length
      · subst hc
        have hC0 : C = [] := List.eq_nil_of_length_eq_zero (by omega)
        obtain ⟨a2, c2, w2, a4, c4, w4, a5, c5, w5, bl5, r2, r4, r5, t2, t4, t5, hs5, hn5⟩ := put_rows (w1 := w1) (A := A) (C := C) (vP := .slice (some ⟨q, 0, none⟩) A.length A.length) (vS := .slice (some ⟨q, 0, none⟩) 0 0) key n (by omega) hpre (fun w' _ => by rw [hC0]; exact Src.empty w' 2 _ 0)
        have b4 := t4.get (HT.out.get HB.out (fun h => h)) (fun h => h)
        have b5 := t5.get (HT.out.get HB.out (fun h => h)) (fun h => h)
        have c4' : w4.cell? ⟨yb, 0, none⟩ = some (.slice (some ⟨q, 0, none⟩) L.length A.length) := b4.cell 0
        have c5' : w5.cell? ⟨yb, 0, none⟩ = some (.slice (some ⟨q, 0, none⟩) L.length A.length) := b5.cell 0
        have f5' : w5.frozen? ⟨yb, 0, none⟩ = false := b5.frozen 0
        have hfin := Lib.hid (rput_new (n := n) HB.out HGE.out HT.out HA.out HC.out HH.out t5 hs5 hn5)
        have R2 := Lib.hid r2; have R4 := Lib.hid r4; have R5 := Lib.hid r5
        clear r2 r4 r5 t2 t4 t5 hs5 hn5 b4 b5 hpre hq hql hqc hLn hC0
        go_wp2_with (at_builtin; first | (refine wpList_append rfl (.tmp 36) (.tmp 42) 31 31 rfl _ _ R2.out ?_) | (refine wpList_append rfl (.tmp 44) (.tmp 48) 31 31 rfl _ _ R4.out ?_) | (refine wpList_append rfl (.tmp 51) (.tmp 57) 31 31 rfl _ _ R5.out ?_))
        go_ret2
        exact hfin.out
      · have hsuf : ∀ w', Tch (fun _ => False) w1 w' → Src Try.prog w' 2 (.slice (some ⟨q, A.length * 2, none⟩) (L.length - A.length) (cap - A.length)) C.length (encPs C) := fun w' h => by
          have := suf_src (P := Try.prog) ((HT.out.trans h (fun _ _ h => h)).get hq (fun h => h)) hql hqc hqn A.length hAl (cap - A.length)
          rw [encPs_drop] at this
          rw [show L.drop A.length = C by rw [HH.out, List.drop_left' rfl], show L.length - A.length = C.length by omega] at this
          rw [show L.length - A.length = C.length by omega]
          exact this
        obtain ⟨a2, c2, w2, a4, c4, w4, a5, c5, w5, bl5, r2, r4, r5, t2, t4, t5, hs5, hn5⟩ := put_rows (w1 := w1) (A := A) (C := C) (vP := .slice (some ⟨q, 0, none⟩) A.length cap) (vS := .slice (some ⟨q, A.length * 2, none⟩) (L.length - A.length) (cap - A.length)) key n (by omega) hpre hsuf
        have b4 := t4.get (HT.out.get HB.out (fun h => h)) (fun h => h)
        have b5 := t5.get (HT.out.get HB.out (fun h => h)) (fun h => h)
        have c4' : w4.cell? ⟨yb, 0, none⟩ = some (.slice (some ⟨q, 0, none⟩) L.length cap) := b4.cell 0
        have c5' : w5.cell? ⟨yb, 0, none⟩ = some (.slice (some ⟨q, 0, none⟩) L.length cap) := b5.cell 0
        have f5' : w5.frozen? ⟨yb, 0, none⟩ = false := b5.frozen 0
        have hfin := Lib.hid (rput_new (n := n) HB.out HGE.out HT.out HA.out HC.out HH.out t5 hs5 hn5)
        have R2 := Lib.hid r2; have R4 := Lib.hid r4; have R5 := Lib.hid r5
        clear r2 r4 r5 t2 t4 t5 hs5 hn5 b4 b5 hpre hsuf hq hql hqc hLn
        go_wp2_with (at_builtin; first | (refine wpList_append rfl (.tmp 36) (.tmp 42) 31 31 rfl _ _ R2.out ?_) | (refine wpList_append rfl (.tmp 44) (.tmp 48) 31 31 rfl _ _ R4.out ?_) | (refine wpList_append rfl (.tmp 51) (.tmp 57) 31 31 rfl _ _ R5.out ?_))
        go_ret2
        exact hfin.out

def RDropPost (yb : Nat) (key : ByteArray) (L : List Pair) (G : List Nat) (w : World) (e : Ending) (w' : World) : Prop :=
  e = .returned (retv (lget key L)) ∧ ∃ G', Rf w' yb (ldrop key L) G' ∧ (∀ y ∈ G', y ∈ G ∨ w.heap.size ≤ y) ∧ Tch (· ∈ G) w w'

/-- the two appends of Drop -/
theorem drop_rows {w1 : World} {vP vS : Value} {A C : List Pair} (hl : A.length + C.length ≤ 1000000)
    (hP : ∀ w', Tch (fun _ => False) w1 w' → Src Try.prog w' 2 vP A.length (encPs A)) (hS : ∀ w', Tch (fun _ => False) w1 w' → Src Try.prog w' 2 vS C.length (encPs C)) :
    ∃ a2 c2 w2 a5 c5 w5 bl5, (Builtin.append_ #[31, 31] 31 #[.slice (some ⟨w1.heap.size, 0, none⟩) 0 0, vP]).run Try.prog (w1.alloc (.cells #[] 35)) = .ok (.slice a2 A.length c2) w2 ∧
      (Builtin.append_ #[31, 31] 31 #[.slice a2 A.length c2, vS]).run Try.prog w2 = .ok (.slice a5 (A.length + C.length) c5) w5 ∧ Tch (fun _ => False) w1 w2 ∧ Tch (fun _ => False) w1 w5 ∧
      Sl w5 35 2 (.slice a5 (A.length + C.length) c5) bl5 (A ++ C).length (encPs (A ++ C)) ∧ ∀ y ∈ bl5, w1.heap.size ≤ y := by
  have t1 : Tch (fun _ => False) w1 (w1.alloc (.cells #[] 35)) := Tch.alloc _ _ _
  obtain ⟨a2, c2, w2, bl2, hr2, hs2, hn2, ht2⟩ := app_new (A := []) (X := A) t1 (slice0 w1) (by simp) (hP _ t1) (hP _ (t1.trans (Tch.drew _ _) (fun _ _ h => h))) (by simp; omega)
  rw [List.nil_append] at hr2 hs2
  obtain ⟨a5, c5, w5, bl5, hr5, hs5, hn5, ht5⟩ := app_new (A := A) (X := C) ht2 hs2 hn2 (hS _ ht2) (hS _ (ht2.trans (Tch.drew _ _) (fun _ _ h => h))) (by omega)
  have e2 : (A ++ C).length = A.length + C.length := List.length_append
  rw [e2] at hr5 hs5
  rw [e2]
  exact ⟨a2, c2, w2, a5, c5, w5, bl5, hr2, hr5, ht2, ht5, hs5, hn5⟩

theorem rdrop_new {w w1 w5 : World} {yb : Nat} {v v5 : Value} {bl bl5 : List Nat} {L A C : List Pair} {key : ByteArray} {m : Int} {G : List Nat} (HB : Blk w yb [v] 41) (hG : G = yb :: bl) (ht : Tch (fun _ => False) w w1)
    (hA : Blw A key) (hC : Abv C key) (h' : L = A ++ (key, m) :: C) (t5 : Tch (fun _ => False) w1 w5) (hs : Sl w5 35 2 v5 bl5 (A ++ C).length (encPs (A ++ C))) (hn : ∀ y ∈ bl5, w1.heap.size ≤ y) :
    RDropPost yb key L G w (.returned (.tuple #[.int .i64 m, .bool true])) (w5.setCell ⟨yb, 0, none⟩ v5) := by
  have hyl := HB.lt
  have hs1 := ht.size
  have hne : ∀ y ∈ bl5, y ≠ yb := fun y hy e => by have := hn y hy; omega
  have tS := Tch.setCell (S := fun y => y = yb) w5 (a := ⟨yb, 0, none⟩) rfl v5
  have t15 := ht.trans t5 (fun _ _ h => h)
  refine ⟨by rw [h', lget_here hA]; rfl, yb :: bl5, ⟨v5, bl5, (t15.get HB (fun h => h)).setC 0 v5, ?_, fun h => hne _ h rfl, rfl⟩, fun y hy => ?_, (t15.mono (fun _ _ h => h.elim)).trans tS (fun y _ h => by rw [hG, h]; simp)⟩
  · rw [h', ldrop_here hA hC]
    exact hs.tch tS (fun y hy e => hne y hy e)
  · rcases List.mem_cons.1 hy with h | h
    · exact .inl (by rw [hG, h]; simp)
    · exact .inr (Nat.le_trans hs1 (hn y h))

set_option maxRecDepth 100000 in
set_option maxHeartbeats 2000000 in
theorem rdrop_any {w : World} {yb : Nat} {L : List Pair} {G : List Nat} (h : Rf w yb L G) (hl : L.length ≤ 1000000) (hs : Srt L) (key : ByteArray) :
    Calls Try.prog 17 #[.pointer (some ⟨yb, 0, none⟩), .string key] w (RDropPost yb key L G w) := by
  have h0 := h
  obtain ⟨v, bl, hb, hp, hyb, hG⟩ := h
  have HAT := Lib.hid (at_any hb hp hl hs key)
  have HB := Lib.hid hb; have HP := Lib.hid hp; have HGE := Lib.hid hG; have HR := Lib.hid h0
  clear hb hp hs hG h0 hyb
  go_enter Try.func17, Try.ntmps17
  go_wp2_with fail
  (with_reducible refine HAT.out.mono ?_)
  rintro e w1 ⟨⟨A, C, hA, hC, ⟨m, h', rfl⟩ | ⟨h', rfl⟩⟩, ht⟩
  · have hget : L[A.length]? = some (key, m) := by rw [h']; simp
    have hAl : A.length < L.length := by rw [h', List.length_append, List.length_cons]; omega
    have hLn : L.length = A.length + 1 + C.length := by rw [h', List.length_append, List.length_cons]; omega
    obtain ⟨q, cap, sp, rfl, _, hq, hql, hqc, hqn⟩ := HP.out.pos (by omega)
    have hq1 := ht.get hq (fun h => h)
    have c0 : w1.cell? ⟨yb, 0, none⟩ = some (.slice (some ⟨q, 0, none⟩) L.length cap) := (ht.get HB.out (fun h => h)).cell 0
    have d1 := (hq1.cell _).trans (encPs_get hget sp).2
    have q0 : (0 : Int) ≤ (A.length : Int) := by omega
    have hpre : ∀ w', Tch (fun _ => False) w1 w' → Src Try.prog w' 2 (.slice (some ⟨q, 0, none⟩) A.length cap) A.length (encPs A) := fun w' h => by
      have := pre_src (P := Try.prog) ((ht.trans h (fun _ _ h => h)).get hq (fun h => h)) hql hqc hqn A.length (by omega) cap
      rw [encPs_take] at this
      rw [show L.take A.length = A by rw [h', List.take_left' rfl]] at this
      exact this
    have ly : yb < w1.heap.size := (ht.get HB.out (fun h => h)).lt
    have HT := Lib.hid ht; have HH := Lib.hid h'; have HA := Lib.hid hA; have HC := Lib.hid hC
    have qA : (A.length : Int) + 1 ≤ (L.length : Int) := by omega
    have qAc : A.length ≤ cap := by omega
    by_cases hc : cap = A.length + 1
    · subst hc
      have hC0 : C = [] := List.eq_nil_of_length_eq_zero (by omega)
      obtain ⟨a2, c2, w2, a5, c5, w5, bl5, r2, r5, t2, t5, hs5, hn5⟩ := drop_rows (w1 := w1) (A := A) (C := C) (vP := .slice (some ⟨q, 0, none⟩) A.length (A.length + 1)) (vS := .slice (some ⟨q, 0, none⟩) 0 0) (by omega) hpre (fun w' _ => by rw [hC0]; exact Src.empty w' 2 _ 0)
      have b2 := t2.get (ht.get HB.out (fun h => h)) (fun h => h)
      have b5 := t5.get (ht.get HB.out (fun h => h)) (fun h => h)
      have c2' : w2.cell? ⟨yb, 0, none⟩ = some (.slice (some ⟨q, 0, none⟩) L.length (A.length + 1)) := b2.cell 0
      have c5' : w5.cell? ⟨yb, 0, none⟩ = some (.slice (some ⟨q, 0, none⟩) L.length (A.length + 1)) := b5.cell 0
      have f5' : w5.frozen? ⟨yb, 0, none⟩ = false := b5.frozen 0
      have hfin := Lib.hid (rdrop_new HB.out HGE.out HT.out HA.out HC.out HH.out t5 hs5 hn5)
      have R2 := Lib.hid r2; have R5 := Lib.hid r5
      clear r2 r5 t2 t5 hs5 hn5 b2 b5 hpre hq hq1 hql hqc hLn hC0 hget h' ht hA hC
      go_wp2_with (at_builtin; first | (refine wpList_append rfl (.tmp 26) (.tmp 32) 31 31 rfl _ _ R2.out ?_) | (refine wpList_append rfl (.tmp 35) (.tmp 42) 31 31 rfl _ _ R5.out ?_))
      go_ret2
      exact hfin.out
    · have hsuf : ∀ w', Tch (fun _ => False) w1 w' → Src Try.prog w' 2 (.slice (some ⟨q, (A.length + 1) * 2, none⟩) (L.length - (A.length + 1)) (cap - (A.length + 1))) C.length (encPs C) := fun w' h => by
        have := suf_src (P := Try.prog) ((ht.trans h (fun _ _ h => h)).get hq (fun h => h)) hql hqc hqn (A.length + 1) (by omega) (cap - (A.length + 1))
        rw [encPs_drop] at this
        rw [show L.drop (A.length + 1) = C by rw [h', List.drop_append]; simp, show L.length - (A.length + 1) = C.length by omega] at this
        rw [show L.length - (A.length + 1) = C.length by omega]
        exact this
      obtain ⟨a2, c2, w2, a5, c5, w5, bl5, r2, r5, t2, t5, hs5, hn5⟩ := drop_rows (w1 := w1) (A := A) (C := C) (vP := .slice (some ⟨q, 0, none⟩) A.length cap) (vS := .slice (some ⟨q, (A.length + 1) * 2, none⟩) (L.length - (A.length + 1)) (cap - (A.length + 1))) (by omega) hpre hsuf
      have b2 := t2.get (ht.get HB.out (fun h => h)) (fun h => h)
      have b5 := t5.get (ht.get HB.out (fun h => h)) (fun h => h)
      have c2' : w2.cell? ⟨yb, 0, none⟩ = some (.slice (some ⟨q, 0, none⟩) L.length cap) := b2.cell 0
      have c5' : w5.cell? ⟨yb, 0, none⟩ = some (.slice (some ⟨q, 0, none⟩) L.length cap) := b5.cell 0
      have f5' : w5.frozen? ⟨yb, 0, none⟩ = false := b5.frozen 0
      have hfin := Lib.hid (rdrop_new HB.out HGE.out HT.out HA.out HC.out HH.out t5 hs5 hn5)
      have R2 := Lib.hid r2; have R5 := Lib.hid r5
      clear r2 r5 t2 t5 hs5 hn5 b2 b5 hpre hsuf hq hq1 hql hqc hLn hget h' ht hA hC
      go_wp2_with (at_builtin; first | (refine wpList_append rfl (.tmp 26) (.tmp 32) 31 31 rfl _ _ R2.out ?_) | (refine wpList_append rfl (.tmp 35) (.tmp 42) 31 31 rfl _ _ R5.out ?_))
      go_ret2
      exact hfin.out
  · have hfin : Hid (RDropPost yb key L G w (.returned (.tuple #[.int .i64 0, .bool false])) w1) := by
      refine ⟨by rw [h', lget_append_left hA.ne, lget_none.2 hC.ne]; rfl, G, ?_, fun y hy => .inl hy, ht.mono (fun _ _ h => h.elim)⟩
      have e : ldrop key L = L := by
        rw [h', ldrop_append, ldrop_id hA.ne, ldrop_id hC.ne]
      rw [e]
      exact HR.out.keep ht (fun _ _ h => h)
    clear hA hC h' ht
    go_wp2_with fail
    go_ret2
    exact hfin.out
end Go.Proofs.Ytkhjhcbmefahkaa
