import Derived.Test.YtkhjhcbmefahkaaPuts
import Derived.Deep.LoopGhost
namespace Go.Proofs.Ytkhjhcbmefahkaa
open Go.RowKit Go.Mm Go.Lst

/-- an index in memory: its order, its pairs in order, its blocks -/
def Ix (w : World) (xb order : Nat) (L : List Pair) (F : List Nat) : Prop :=
  ∃ (h : Nat) (t : MT h), F = xb :: foot h t ∧ flat h t = L ∧ Blk w xb [.int .i64 order, .int .i64 (order / 2 : Nat), .pointer (some ⟨t.b, 0, none⟩), .int .i64 L.length] 64 ∧ TAt w h t ∧ (foot h t).Nodup ∧ xb ∉ foot h t ∧
    Shp (order / 2) order h t ∧ t.ps.length ≤ order ∧ (h ≠ 0 → 1 ≤ t.ps.length) ∧ Srt L ∧ 2 ≤ order ∧ order ≤ 64

def GetRel (least most : Nat) (key : ByteArray) (g : Option Int) (w : World) (k : Nat) (p : Value) (wr : World) : Prop :=
  ∃ t : MT k, p = .pointer (some ⟨t.b, 0, none⟩) ∧ TAt w k t ∧ (foot k t).Nodup ∧ Srt (flat k t) ∧ Shp least most k t ∧ t.ps.length ≤ most ∧ lget key (flat k t) = g ∧ Tch (fun _ => False) w wr

theorem lget_mem {l : List Pair} (hs : Srt l) {k : ByteArray} {m : Int} (h : (k, m) ∈ l) : lget k l = some m := by
  obtain ⟨A, C, rfl⟩ := List.append_of_mem h
  have h2 := (Srt.append.1 hs).2.2
  exact lget_here (fun p hp => h2 p hp (k, m) (by simp))
theorem mem_flat_ps {h : Nat} {t : MT h} {p : Pair} (hp : p ∈ t.ps) : p ∈ flat h t := by
  cases h with
  | zero => exact hp
  | succ h => exact mem_weave_ps hp

def GetPost (g : Option Int) (w : World) (e : Ending) (w' : World) : Prop := e = .returned (retv g) ∧ Tch (fun _ => False) w w'

set_option maxHeartbeats 1000000 in
theorem get_any {w : World} {xb order : Nat} {L : List Pair} {F : List Nat} (hI : Ix w xb order L F) (key : ByteArray) :
    Calls Try.prog 12 #[.pointer (some ⟨xb, 0, none⟩), .string key] w (GetPost (lget key L) w) := by
  obtain ⟨h, t, rfl, hL, hx, ha, hnd, hxn, hsh, hlen, h1, hs, h2, h64⟩ := hI
  have r0 : w.cell? ⟨xb, 2, none⟩ = some (.pointer (some ⟨t.b, 0, none⟩)) := hx.cell 2
  have hrel0 : GetRel (order / 2) order key (lget key L) w h (.pointer (some ⟨t.b, 0, none⟩)) w := ⟨t, rfl, ha, hnd, hL ▸ hs, hsh, hlen, by rw [hL], Tch.refl _ _⟩
  generalize lget key L = g at hrel0 ⊢
  have HREL := Lib.hid hrel0
  clear hL hx ha hnd hxn hsh hlen h1 hs hrel0
  go_enter Try.func12, Try.ntmps12
  go_wp2
  go_loopg [6] h (fun k p wr => GetRel (order / 2) order key g w k p wr)
  case atStart => exact HREL.out
  case round =>
    obtain ⟨t', rfl, ha, hfn, hs, hsh, hlen, hg, ht⟩ := hrel
    cases gk with
    | zero =>
      obtain ⟨pv, kv, hb, hp, hk⟩ := NdAt.tch ha ht (fun h => h) (fun _ _ h => h) (fun _ _ h => h)
      have hfind := find_any hb hp (by omega) key (srt_node hs)
      obtain ⟨ka, kc, rfl, _⟩ := hk.val
      have HF := Lib.hid hfind; have Hb := Lib.hid hb; have Hp := Lib.hid hp; have Hk := Lib.hid hk; have HA := Lib.hid ha; have HS := Lib.hid hs; have HSH := Lib.hid hsh; have HG := Lib.hid hg; have HT := Lib.hid ht
      clear hfind hb hp hk ha hs hsh hg ht
      go_wp2_with fail
      refine HF.out.mono ?_
      rintro e w1 ⟨⟨A, C, hA, hC, ⟨m, h', rfl⟩ | ⟨h', rfl⟩⟩, ht⟩
      · have hgm : g = some m := HG.out.symm.trans (lget_mem HS.out (mem_flat_ps (by rw [h']; simp)))
        subst hgm
        have hpl : A.length < t'.ps.length := by rw [h']; simp
        have hget : t'.ps[A.length]? = some (key, m) := by rw [h']; simp
        obtain ⟨q, cap, sp, rfl, hqb, hq, hql, hqc, hqn⟩ := Hp.out.pos (by omega)
        have d1 := ((ht.get hq (fun h => h)).cell _).trans (encPs_get hget sp).2
        have c0 : w1.cell? ⟨t'.b, 0, none⟩ = some (.slice (some ⟨q, 0, none⟩) t'.ps.length cap) := (ht.get Hb.out (fun h => h)).cell 0
        have hfin : Hid (GetPost (some m) w (.returned (.tuple #[.int .i64 m, .bool true])) w1) := ⟨rfl, HT.out.trans ht (fun _ _ h => h)⟩
        clear hA hC h' hget ht hq hql hqc hqb
        go_wp2_with fail
        go_ret2
        exact hfin.out
      · have hgn : g = none := by rw [← HG.out]; show lget key t'.ps = none; rw [h', lget_append_left hA.ne, lget_none.2 hC.ne]
        subst hgn
        have hfin : Hid (GetPost none w (.returned (.tuple #[.int .i64 0, .bool false])) w1) := ⟨rfl, HT.out.trans ht (fun _ _ h => h)⟩
        have hb1 := Lib.hid (ht.get Hb.out (fun h => h))
        clear hA hC h' ht
        go_wp2_with (go_at_call 30; refine (leaf_any _ _ _ _ _ _ hb1.out).mono ?_; rintro e w3 ⟨rfl, rfl⟩)
        go_ret2
        exact hfin.out
    | succ k =>
      have hall := ha
      obtain ⟨pv, kv, hb, hp, hk⟩ := NdAt.tch ha.1 ht (fun h => h) (fun _ _ h => h) (fun _ _ h => h)
      have hfind := find_any hb hp (by omega) key (srt_node hs)
      obtain ⟨r, kc, ksp, rfl, hkb, hr, hrl, hrc, hrn⟩ := hk.pos (by rw [List.length_map, hsh.1]; omega)
      have hpz : ((((kids t').map (·.b)).length : Int) == 0) = false := by rw [List.length_map, hsh.1]; simp; omega
      have hpl : ((kids t').map (·.b)).length = t'.ps.length + 1 := by rw [List.length_map, hsh.1]
      generalize hPL : ((kids t').map (·.b)).length = pl at *
      have HF := Lib.hid hfind; have Hb := Lib.hid hb; have Hp := Lib.hid hp; have Hk := Lib.hid hk; have HA := Lib.hid hall; have HS := Lib.hid hs; have HSH := Lib.hid hsh; have HG := Lib.hid hg; have HT := Lib.hid ht; have Hr := Lib.hid hr; have HPL := Lib.hid hpl
      clear hfind hb hp hk ha hall hs hsh hg ht hr hrl hrc hpl hkb hPL
      go_wp2_with fail
      refine HF.out.mono ?_
      rintro e w1 ⟨⟨A, C, hA, hC, ⟨m, h', rfl⟩ | ⟨h', rfl⟩⟩, ht⟩
      · have hgm : g = some m := HG.out.symm.trans (lget_mem HS.out (mem_flat_ps (by rw [h']; simp)))
        subst hgm
        have hpl : A.length < t'.ps.length := by rw [h']; simp
        have hget : t'.ps[A.length]? = some (key, m) := by rw [h']; simp
        obtain ⟨q, cap, sp, rfl, hqb, hq, hql, hqc, hqn⟩ := Hp.out.pos (by omega)
        have d1 := ((ht.get hq (fun h => h)).cell _).trans (encPs_get hget sp).2
        have c0 : w1.cell? ⟨t'.b, 0, none⟩ = some (.slice (some ⟨q, 0, none⟩) t'.ps.length cap) := (ht.get Hb.out (fun h => h)).cell 0
        have hfin : Hid (GetPost (some m) w (.returned (.tuple #[.int .i64 m, .bool true])) w1) := ⟨rfl, HT.out.trans ht (fun _ _ h => h)⟩
        clear hA hC h' hget ht hq hql hqc hqb
        go_wp2_with fail
        go_ret2
        exact hfin.out
      · obtain ⟨K1, kid, K2, I⟩ := InF.mk' (A := A) h' HA.out hfn HSH.out HS.out
        have hkg : lget key (flat k kid) = g := by rw [← HG.out, I.flat, lget_mid (I.blw hA) (I.abv hC)]
        have hrel : Hid (GetRel (order / 2) order key g w k (.pointer (some ⟨kid.b, 0, none⟩)) w1) :=
          ⟨kid, rfl, I.here.2 kid I.mem, I.kid_nd, I.srt_kid, (HSH.out.2 kid I.mem).2.2, (HSH.out.2 kid I.mem).2.1, hkg, HT.out.trans ht (fun _ _ h => h)⟩
        have hAl : (A.length : Int) < (pl : Int) := by rw [HPL.out, h', List.length_append]; omega
        have hA0 : (0 : Int) ≤ (A.length : Int) := by omega
        have hkc : w1.cell? ⟨r, A.length, none⟩ = some (.pointer (some ⟨kid.b, 0, none⟩)) := by
          rw [(ht.get Hr.out (fun h => h)).cell]
          exact encKs_get (by rw [I.kk, List.map_append, List.map_cons, List.getElem?_append_right (by rw [List.length_map, I.len]; omega), List.length_map, I.len]; simp) ksp
        have hb1 := Lib.hid (ht.get Hb.out (fun h => h))
        have c1 : w1.cell? ⟨t'.b, 1, none⟩ = some (.slice (some ⟨r, 0, none⟩) pl kc) := hb1.out.cell 1
        clear hA hC h' ht hkg I
        go_wp2_with (go_at_call 30; refine (leaf_any _ _ _ _ _ _ hb1.out).mono ?_; rintro e w3 ⟨rfl, rfl⟩)
        go_roundg k
        case measure => omega
        case rel => exact hrel.out

set_option maxHeartbeats 400000 in
theorem new_bad (order : Int) (h : order < 2 ∨ 64 < order) (w : World) : Calls Try.prog 9 #[.int .i64 order] w fun e w' => e = .returned (.tuple #[.pointer none, .int .i64 80]) ∧ w = w' := by
  by_cases h2 : order < 2
  · have hd : decide (order < 2) = true := by simpa using h2
    go_enter Try.func9, Try.ntmps9
    go_wp2
    go_ret2
    exact ⟨rfl, rfl⟩
  · have hd : decide (order < 2) = false := by simpa using h2
    have hd2 : decide (64 < order) = true := by simp; omega
    go_enter Try.func9, Try.ntmps9
    go_wp2
    go_ret2
    exact ⟨rfl, rfl⟩

def NewPost (order : Nat) (w : World) (e : Ending) (w' : World) : Prop :=
  ∃ xb F, e = .returned (.tuple #[.pointer (some ⟨xb, 0, none⟩), .int .i64 0]) ∧ Ix w' xb order [] F ∧ Tch (fun _ => False) w w' ∧ (∀ y ∈ F, w.heap.size ≤ y)

set_option maxHeartbeats 400000 in
theorem new_good (order : Nat) (h2 : 2 ≤ order) (h64 : order ≤ 64) (w : World) : Calls Try.prog 9 #[.int .i64 order] w (NewPost order w) := by
  have hd : decide ((order : Int) < 2) = false := by simp; omega
  have hd2 : decide (64 < (order : Int)) = false := by simp; omega
  have hdiv : (order : Int) / 2 = ((order / 2 : Nat) : Int) := by omega
  have hfin : NewPost order w (.returned (.tuple #[.pointer (some ⟨w.heap.size + 1, 0, none⟩), .int .i64 0])) ((w.alloc (.cells #[.slice none 0 0, .slice none 0 0] 62)).alloc (.cells #[.int .i64 order, .int .i64 (order / 2 : Nat), .pointer (some ⟨w.heap.size, 0, none⟩), .int .i64 0] 64)) := by
    refine ⟨w.heap.size + 1, [w.heap.size + 1, w.heap.size], rfl, ⟨0, mk0 w.heap.size [] [] [], rfl, rfl, ?_, ?_, by simp [foot, mk0], by simp [foot, mk0], trivial, by simp [mk0], by simp, List.Pairwise.nil, h2, h64⟩, (Tch.alloc _ _ _).trans (Tch.alloc _ _ _) (fun _ _ h => h), by simp⟩
    · exact Blk.newLast [.int .i64 order, .int .i64 (order / 2 : Nat), .pointer (some ⟨w.heap.size, 0, none⟩), .int .i64 0] 64 (by simp)
    · exact ⟨_, _, (Blk.new w [.slice none 0 0, .slice none 0 0] 62).alloc _, Sl.nil _ _ _, Sl.nil _ _ _⟩
  generalize hk : order / 2 = k at *
  have HF := Lib.hid hfin
  clear hfin hk
  go_enter Try.func9, Try.ntmps9
  go_wp2
  go_ret2
  exact HF.out

theorem len_any {w : World} {xb order : Nat} {L : List Pair} {F : List Nat} (hI : Ix w xb order L F) :
    Calls Try.prog 22 #[.pointer (some ⟨xb, 0, none⟩)] w fun e w' => e = .returned (.int .i64 L.length) ∧ w = w' := by
  obtain ⟨h, t, rfl, hL, hx, _⟩ := hI
  have r0 : w.cell? ⟨xb, 3, none⟩ = some (.int .i64 L.length) := hx.cell 3
  clear hL hx
  go_enter Try.func22, Try.ntmps22
  go_wp2
  go_ret
  exact ⟨rfl, rfl⟩

theorem retv_isSome {o : Option Int} {old : Int} {was : Bool} (h : retv o = .tuple #[.int .i64 old, .bool was]) : o.isSome = was := by
  cases o <;> simp [retv] at h <;> simp [h.2]

def IPutPost (order : Nat) (key : ByteArray) (n : Int) (xb : Nat) (L : List Pair) (F : List Nat) (w : World) (e : Ending) (w' : World) : Prop :=
  e = .returned (retv (lget key L)) ∧ ∃ F', Ix w' xb order (lput key n L) F' ∧ (∀ y ∈ F', y ∈ F ∨ w.heap.size ≤ y) ∧ Tch (· ∈ F) w w'

theorem root_fin {w w1 w3 wF : World} {xb order h : Nat} {t t' L R : MT h} {m : Pair} {LL : List Pair} (hw1 : w.heap.size ≤ w1.heap.size) (hxw : xb < w.heap.size)
    (HXN : xb ∉ foot h t') (G4 : ∀ y ∈ foot h t', y ∈ foot h t ∨ w.heap.size ≤ y) (G5 : Tch (· ∈ foot h t) w w1) (G6 : flat h t' = LL) (hs : Srt LL)
    (k1 : TAt w3 h L) (k2 : TAt w3 h R) (k3 : L.b = t.b) (k4 : flat h t' = flat h L ++ m :: flat h R) (k5 : order / 2 ≤ L.ps.length ∧ L.ps.length ≤ order) (k6 : order / 2 ≤ R.ps.length ∧ R.ps.length ≤ order) (k7 : Shp (order / 2) order h L) (k8 : Shp (order / 2) order h R)
    (k9 : (foot h L ++ foot h R).Nodup) (k10 : ∀ y ∈ foot h L ++ foot h R, y ∈ foot h t' ∨ w1.heap.size ≤ y) (T13 : Tch (· = t.b) w1 w3) (h2 : 2 ≤ order) (h64 : order ≤ 64)
    (tF : Tch (· = xb) ((((w3.alloc (.cells #[.string m.1, .int .i64 m.2] 67)).alloc (.cells #[.string m.1, .int .i64 m.2] 67)).alloc (.cells #[.pointer (some ⟨t.b, 0, none⟩), .pointer (some ⟨R.b, 0, none⟩)] 58)).alloc
      (.cells #[.slice (some ⟨w3.heap.size + 1, 0, none⟩) 1 1, .slice (some ⟨w3.heap.size + 1 + 1, 0, none⟩) 2 2] 62)) wF)
    (hxF : Blk wF xb [.int .i64 order, .int .i64 (order / 2 : Nat), .pointer (some ⟨w3.heap.size + 1 + 1 + 1, 0, none⟩), .int .i64 LL.length] 64) :
    ∃ F', Ix wF xb order LL F' ∧ (∀ y ∈ F', y ∈ xb :: foot h t ∨ w.heap.size ≤ y) ∧ Tch (· ∈ xb :: foot h t) w wF := by
  have s3 := T13.size
  have t34 : Tch (fun _ => False) w3 _ := (((Tch.alloc (fun _ => False) w3 (.cells #[.string m.1, .int .i64 m.2] 67)).trans (Tch.alloc _ _ (.cells #[.string m.1, .int .i64 m.2] 67)) (fun _ _ h => h)).trans (Tch.alloc _ _ (.cells #[.pointer (some ⟨t.b, 0, none⟩), .pointer (some ⟨R.b, 0, none⟩)] 58)) (fun _ _ h => h)).trans
    (Tch.alloc _ _ (.cells #[.slice (some ⟨w3.heap.size + 1, 0, none⟩) 1 1, .slice (some ⟨w3.heap.size + 1 + 1, 0, none⟩) 2 2] 62)) (fun _ _ h => h)
  have b1 := tF.get (((Blk.newLast (w := w3.alloc (.cells #[.string m.1, .int .i64 m.2] 67)) (n := w3.heap.size + 1) [.string m.1, .int .i64 m.2] 67 (by simp)).alloc (.cells #[.pointer (some ⟨t.b, 0, none⟩), .pointer (some ⟨R.b, 0, none⟩)] 58)).alloc
    (.cells #[.slice (some ⟨w3.heap.size + 1, 0, none⟩) 1 1, .slice (some ⟨w3.heap.size + 1 + 1, 0, none⟩) 2 2] 62)) (by omega)
  have b2 := tF.get ((Blk.newLast (w := (w3.alloc (.cells #[.string m.1, .int .i64 m.2] 67)).alloc (.cells #[.string m.1, .int .i64 m.2] 67)) (n := w3.heap.size + 1 + 1) [.pointer (some ⟨t.b, 0, none⟩), .pointer (some ⟨R.b, 0, none⟩)] 58 (by simp)).alloc
    (.cells #[.slice (some ⟨w3.heap.size + 1, 0, none⟩) 1 1, .slice (some ⟨w3.heap.size + 1 + 1, 0, none⟩) 2 2] 62)) (by omega)
  have b3 := tF.get (Blk.newLast (w := ((w3.alloc (.cells #[.string m.1, .int .i64 m.2] 67)).alloc (.cells #[.string m.1, .int .i64 m.2] 67)).alloc (.cells #[.pointer (some ⟨t.b, 0, none⟩), .pointer (some ⟨R.b, 0, none⟩)] 58)) (n := w3.heap.size + 1 + 1 + 1)
    [.slice (some ⟨w3.heap.size + 1, 0, none⟩) 1 1, .slice (some ⟨w3.heap.size + 1 + 1, 0, none⟩) 2 2] 62 (by simp)) (by omega)
  have hlL := TAt.lt h L k1
  have hlR := TAt.lt h R k2
  have hxk : ∀ y ∈ foot h L ++ foot h R, y ≠ xb := fun y hy e => by
    subst e
    rcases k10 y hy with h | h
    · exact HXN h
    · omega
  have hll : ∀ y ∈ foot h L ++ foot h R, y < w3.heap.size := fun y hy => by
    rcases List.mem_append.1 hy with h | h
    · exact hlL y h
    · exact hlR y h
  have hnd : NdAt wF (w3.heap.size + 1 + 1 + 1) [w3.heap.size + 1] [m] [w3.heap.size + 1 + 1] [L.b, R.b] := by
    refine ⟨_, _, b3, Sl.mk (sp := []) (L := encPs [m]) b1 rfl rfl (Nat.le_refl _), Sl.mk (sp := []) (L := encKs [L.b, R.b]) ?_ rfl rfl (Nat.le_refl _)⟩
    rw [k3]; exact b2
  have aL := TAt.tch tF h L (TAt.tch t34 h L k1 (fun _ _ h => h)) (fun y hy e => hxk y (List.mem_append_left _ hy) e)
  have aR := TAt.tch tF h R (TAt.tch t34 h R k2 (fun _ _ h => h)) (fun y hy e => hxk y (List.mem_append_right _ hy) e)
  have hfe : foot (h + 1) (mkT (w3.heap.size + 1 + 1 + 1) [w3.heap.size + 1] [m] [w3.heap.size + 1 + 1] [L, R]) = (w3.heap.size + 1 + 1 + 1) :: ([w3.heap.size + 1] ++ [w3.heap.size + 1 + 1] ++ (foot h L ++ foot h R)) := by
    simp [foot, mkT, kids]
  refine ⟨xb :: foot (h + 1) (mkT (w3.heap.size + 1 + 1 + 1) [w3.heap.size + 1] [m] [w3.heap.size + 1 + 1] [L, R]), ⟨h + 1, _, rfl, ?_, hxF, ⟨hnd, ?_⟩, ?_, ?_, ⟨rfl, ?_⟩, ?_, fun _ => Nat.le_refl _, hs, h2, h64⟩, ?_, ?_⟩
  · rw [← G6, k4]
    simp [flat, mkT, kids, weave]
  · intro k hk
    simp only [kids, mkT, List.mem_cons, List.not_mem_nil, or_false] at hk
    rcases hk with rfl | rfl
    · exact aL
    · exact aR
  · rw [hfe]
    simp only [List.nodup_cons, List.mem_append, List.mem_cons, List.cons_append, List.nil_append, not_or] at hll ⊢
    refine ⟨⟨by omega, by omega, fun h => ?_, fun h => ?_⟩, ⟨by omega, fun h => ?_, fun h => ?_⟩, ⟨fun h => ?_, fun h => ?_⟩, k9⟩
    · have := hlL _ h; omega
    · have := hlR _ h; omega
    · have := hlL _ h; omega
    · have := hlR _ h; omega
    · have := hlL _ h; omega
    · have := hlR _ h; omega
  · rw [hfe]
    simp only [List.mem_append, List.mem_cons, List.not_mem_nil, or_false, not_or]
    exact ⟨by omega, ⟨by omega, by omega⟩, fun h => hxk _ (List.mem_append_left _ h) rfl, fun h => hxk _ (List.mem_append_right _ h) rfl⟩
  · intro k hk
    simp only [kids, mkT, List.mem_cons, List.not_mem_nil, or_false] at hk
    rcases hk with rfl | rfl
    · exact ⟨k5.1, k5.2, k7⟩
    · exact ⟨k6.1, k6.2, k8⟩
  · show 1 ≤ order; omega
  · rw [hfe]
    intro y hy
    simp only [List.mem_append, List.mem_cons, List.not_mem_nil, or_false] at hy k10 ⊢
    rcases hy with h | h | (h | h) | h
    · exact .inl (.inl h)
    · exact .inr (by omega)
    · exact .inr (by omega)
    · exact .inr (by omega)
    · rcases k10 y h with h | h
      · exact (G4 y h).imp .inr id
      · exact .inr (by omega)
  · refine (((G5.mono (fun y _ h => List.mem_cons_of_mem _ h)).trans T13 (fun y _ h => ?_)).trans t34 (fun _ _ h => h.elim)).trans tF (fun y _ h => ?_)
    · rw [h]; exact List.mem_cons_of_mem _ (foot_b _ _)
    · rw [h]; exact List.mem_cons_self

set_option maxRecDepth 100000 in
set_option maxHeartbeats 1000000 in
theorem iput_any {w : World} {xb order : Nat} {L : List Pair} {F : List Nat} (hI : Ix w xb order L F) (hlen : L.length ≤ 1000000) (key : ByteArray) (n : Int) :
    Calls Try.prog 10 #[.pointer (some ⟨xb, 0, none⟩), .string key, .int .i64 n] w (IPutPost order key n xb L F w) := by
  obtain ⟨h, t, rfl, rfl, hx, ha, hnd, hxn, hsh, hps, h1, hs, h2, h64⟩ := hI
  have r2 : w.cell? ⟨xb, 2, none⟩ = some (.pointer (some ⟨t.b, 0, none⟩)) := hx.cell 2
  have hput := put_ok h2 (by omega : 2 * (order / 2) ≤ order) h64 h t w xb _ _ key n ha hnd hx hxn hsh hps hs
  have l1 := hx.lt
  have hll : (lput key n (flat h t)).length = if (lget key (flat h t)).isSome then (flat h t).length else (flat h t).length + 1 := lput_length hs
  have HP := Lib.hid hput; have Hx := Lib.hid hx; have Hxn := Lib.hid hxn; have Hs := Lib.hid hs; have Hll := Lib.hid hll
  clear hput hx ha hnd hxn hsh hs hll
  go_enter Try.func10, Try.ntmps10
  go_wp2_with fail
  refine HP.out.mono ?_
  rintro e w1 ⟨t', rfl, g1, g2, g3, g4, g5, g6, g7, g8, g9⟩
  have hx1 := g5.get Hx.out Hxn.out
  obtain ⟨ptrs, hn1⟩ := TAt.nd g1
  rw [g2] at hn1
  obtain ⟨pv, kv, hb1, hp1, hk1⟩ := hn1
  obtain ⟨pa, pc, rfl, _⟩ := hp1.val
  have c0 : w1.cell? ⟨t.b, 0, none⟩ = some (.slice pa t'.ps.length pc) := hb1.cell 0
  have x0 : w1.cell? ⟨xb, 0, none⟩ = some (.int .i64 order) := hx1.cell 0
  have x2 : w1.cell? ⟨xb, 2, none⟩ = some (.pointer (some ⟨t.b, 0, none⟩)) := hx1.cell 2
  have x3 : w1.cell? ⟨xb, 3, none⟩ = some (.int .i64 (flat h t).length) := hx1.cell 3
  have f3 : w1.frozen? ⟨xb, 3, none⟩ = false := hx1.frozen 3
  have f2 : w1.frozen? ⟨xb, 2, none⟩ = false := hx1.frozen 2
  have hxn' : xb ∉ foot h t' := fun e => by
    rcases g4 xb e with h | h
    · exact Hxn.out h
    · omega
  obtain ⟨old, was, hret⟩ := retv_tuple (lget key (flat h t))
  rw [hret]
  have G1 := Lib.hid g1; have G2 := Lib.hid g2; have G3 := Lib.hid g3; have G4 := Lib.hid g4; have G5 := Lib.hid g5; have G6 := Lib.hid g6; have G7 := Lib.hid g7; have HX1 := Lib.hid hx1; have HXN := Lib.hid hxn'; have HRET := Lib.hid hret
  clear g1 g2 g3 g4 g5 g6 g7 hx1 hxn' hret hb1 hp1 hk1
  by_cases hbig : order < t'.ps.length
  · have hbig' : decide ((order : Int) < (t'.ps.length : Int)) = true := by simp; omega
    go_wp2_with fail
    go_quiet (fail)
    go_wp2_with fail
    have tq : Tch (fun _ => False) w1 (w1.drewN nq) := ⟨rfl, rfl, rfl, Nat.le_refl _, fun _ _ _ => rfl⟩
    have hcut := cut_any (order / 2) order (TAt.tch tq h t' G1.out (fun _ _ h => h)) G3.out (by omega) (by omega) G7.out
    rw [G2.out] at hcut
    refine hcut.mono ?_
    rintro e w3 ⟨L, R, m, rfl, k1, k2, k3, k4, k5, k6, k7, k8, k9, k10, k11⟩
    rw [G2.out] at k3 k11
    have t13 : Tch (· = t.b) w1 w3 := (tq.mono (fun _ _ h => h.elim)).trans k11 (fun _ _ h => h)
    have hxb : ¬ xb = t.b := fun e => Hxn.out (by rw [e]; exact foot_b h t)
    have hx3 := t13.get HX1.out hxb
    have y2 : w3.cell? ⟨xb, 2, none⟩ = some (.pointer (some ⟨t.b, 0, none⟩)) := hx3.cell 2
    have y3 : w3.cell? ⟨xb, 3, none⟩ = some (.int .i64 (flat h t).length) := hx3.cell 3
    have e3 : w3.frozen? ⟨xb, 3, none⟩ = false := hx3.frozen 3
    have e2 : w3.frozen? ⟨xb, 2, none⟩ = false := hx3.frozen 2
    have l3 : xb < w3.heap.size := hx3.lt
    have K1 := Lib.hid k1; have K2 := Lib.hid k2; have K3 := Lib.hid k3; have K4 := Lib.hid k4; have K5 := Lib.hid k5; have K6 := Lib.hid k6; have K7 := Lib.hid k7; have K8 := Lib.hid k8; have K9 := Lib.hid k9; have K10 := Lib.hid k10
    have T13 := Lib.hid t13; have HX3 := Lib.hid hx3
    have hx4 := ((((hx3.alloc (.cells #[.string m.1, .int .i64 m.2] 67)).alloc (.cells #[.string m.1, .int .i64 m.2] 67)).alloc (.cells #[.pointer (some ⟨t.b, 0, none⟩), .pointer (some ⟨R.b, 0, none⟩)] 58)).alloc
      (.cells #[.slice (some ⟨w3.heap.size + 1, 0, none⟩) 1 1, .slice (some ⟨w3.heap.size + 1 + 1, 0, none⟩) 2 2] 62))
    have z2 := hx4.frozen 2
    have z3 := hx4.frozen 3
    have z4 := hx4.cell 2
    have z5 := hx4.cell 3
    have HX4 := Lib.hid hx4
    clear k1 k2 k3 k4 k5 k6 k7 k8 k9 k10 k11 t13 hx3 hx4 hcut tq c0 x0 x2 x3 f3 f2 r2
    have s01 := G5.out.size
    cases was with
    | true =>
      go_wp2_with fail
      go_ret2
      have hi := retv_isSome HRET.out
      have hl := Hll.out
      rw [hi, if_pos rfl] at hl
      have tF := Tch.setCell (S := fun y => y = xb) ((((w3.alloc (.cells #[.string m.1, .int .i64 m.2] 67)).alloc (.cells #[.string m.1, .int .i64 m.2] 67)).alloc (.cells #[.pointer (some ⟨t.b, 0, none⟩), .pointer (some ⟨R.b, 0, none⟩)] 58)).alloc
        (.cells #[.slice (some ⟨w3.heap.size + 1, 0, none⟩) 1 1, .slice (some ⟨w3.heap.size + 1 + 1, 0, none⟩) 2 2] 62)) (a := ⟨xb, 2, none⟩) rfl (.pointer (some ⟨w3.heap.size + 1 + 1 + 1, 0, none⟩))
      have hxF := HX4.out.setC 2 (.pointer (some ⟨w3.heap.size + 1 + 1 + 1, 0, none⟩))
      exact ⟨by rw [HRET.out]; rfl, root_fin s01 l1 HXN.out G4.out G5.out G6.out Hs.out.lput K1.out K2.out K3.out K4.out (by have := K5.out; omega) (by have := K6.out; omega) K7.out K8.out K9.out K10.out T13.out h2 h64 tF (by rw [hl]; exact hxF)⟩
    | false =>
      go_wp2_with fail
      go_ret2
      have hi := retv_isSome HRET.out
      have hl := Hll.out
      rw [hi, if_neg (by simp)] at hl
      have tF := (Tch.setCell (S := fun y => y = xb) ((((w3.alloc (.cells #[.string m.1, .int .i64 m.2] 67)).alloc (.cells #[.string m.1, .int .i64 m.2] 67)).alloc (.cells #[.pointer (some ⟨t.b, 0, none⟩), .pointer (some ⟨R.b, 0, none⟩)] 58)).alloc
        (.cells #[.slice (some ⟨w3.heap.size + 1, 0, none⟩) 1 1, .slice (some ⟨w3.heap.size + 1 + 1, 0, none⟩) 2 2] 62)) (a := ⟨xb, 2, none⟩) rfl (.pointer (some ⟨w3.heap.size + 1 + 1 + 1, 0, none⟩))).trans
        (Tch.setCell (S := fun y => y = xb) _ (a := ⟨xb, 3, none⟩) rfl (.int .i64 ((flat h t).length + 1))) (fun _ _ h => h)
      have hxF := (HX4.out.setC 2 (.pointer (some ⟨w3.heap.size + 1 + 1 + 1, 0, none⟩))).setC 3 (.int .i64 ((flat h t).length + 1))
      exact ⟨by rw [HRET.out]; rfl, root_fin s01 l1 HXN.out G4.out G5.out G6.out Hs.out.lput K1.out K2.out K3.out K4.out (by have := K5.out; omega) (by have := K6.out; omega) K7.out K8.out K9.out K10.out T13.out h2 h64 tF (by rw [hl]; exact hxF)⟩
  · have hbig' : decide ((order : Int) < (t'.ps.length : Int)) = false := by simp; omega
    cases was with
    | true =>
      go_wp2_with fail
      go_quiet (fail)
      go_wp2_with fail
      go_ret2
      have tq : Tch (fun _ => False) w1 (w1.drewN nq) := ⟨rfl, rfl, rfl, Nat.le_refl _, fun _ _ _ => rfl⟩
      have hi := retv_isSome HRET.out
      have hl := Hll.out
      rw [hi, if_pos rfl] at hl
      refine ⟨by rw [HRET.out]; rfl, xb :: foot h t', ⟨h, t', rfl, G6.out, by rw [G2.out, hl]; exact HX1.out, TAt.tch tq h t' G1.out (fun _ _ h => h), G3.out, HXN.out, G7.out, by omega, fun hh => by have := h1 hh; omega, Hs.out.lput, h2, h64⟩, ?_, ?_⟩
      · intro y hy
        rcases List.mem_cons.1 hy with e | hy
        · exact .inl (by simp [e])
        · exact (G4.out y hy).imp (fun h => by simp [h]) id
      · exact (G5.out.mono (fun _ _ h => by simp [h])).trans tq (fun _ _ h => h.elim)
    | false =>
      go_wp2_with fail
      go_quiet (fail)
      go_wp2_with fail
      go_ret2
      have tq : Tch (fun _ => False) w1 (w1.drewN nq) := ⟨rfl, rfl, rfl, Nat.le_refl _, fun _ _ _ => rfl⟩
      have hi := retv_isSome HRET.out
      have hl := Hll.out
      rw [hi, if_neg (by simp)] at hl
      have tS := Tch.setCell (S := fun y => y = xb) (w1.drewN nq) (a := ⟨xb, 3, none⟩) rfl (.int .i64 ((flat h t).length + 1))
      have hxF := (tq.get HX1.out (fun h => h)).setC 3 (.int .i64 ((flat h t).length + 1))
      refine ⟨by rw [HRET.out]; rfl, xb :: foot h t', ⟨h, t', rfl, G6.out, by rw [G2.out, hl]; exact hxF, TAt.tch tS h t' (TAt.tch tq h t' G1.out (fun _ _ h => h)) (fun y hy e => HXN.out (e ▸ hy)), G3.out, HXN.out, G7.out, by omega, fun hh => by have := h1 hh; omega, Hs.out.lput, h2, h64⟩, ?_, ?_⟩
      · intro y hy
        rcases List.mem_cons.1 hy with e | hy
        · exact .inl (by simp [e])
        · exact (G4.out y hy).imp (fun h => by simp [h]) id
      · exact ((G5.out.mono (fun _ _ h => by simp [h])).trans tq (fun _ _ h => h.elim)).trans tS (fun _ _ h => by simp [h])
end Go.Proofs.Ytkhjhcbmefahkaa
