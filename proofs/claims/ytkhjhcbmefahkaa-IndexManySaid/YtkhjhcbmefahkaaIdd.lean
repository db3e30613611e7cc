/-
  Drop: a key is taken out of an index.
-/
import Derived.Test.YtkhjhcbmefahkaaDro
import Derived.Test.YtkhjhcbmefahkaaIdx
namespace Go.Proofs.Ytkhjhcbmefahkaa
open Go.RowKit Go.Mm Go.Lst

def IDropPost (order : Nat) (key : ByteArray) (xb : Nat) (L : List Pair) (F : List Nat) (w : World) (e : Ending) (w' : World) : Prop :=
  e = .returned (retv (lget key L)) ∧ ∃ F', Ix w' xb order (ldrop key L) F' ∧ (∀ y ∈ F', y ∈ F ∨ w.heap.size ≤ y) ∧ Tch (· ∈ F) w w'

theorem drop_fin {w w1 wF : World} {xb order h h' : Nat} {t t1 : MT h} {t' : MT h'} {LL : List Pair} (hs : Srt LL) (h2 : 2 ≤ order) (h64 : order ≤ 64) (hxw : xb < w.heap.size) (hxn : xb ∉ foot h t)
    (g1 : TAt w1 h' t') (g3 : (foot h' t').Nodup) (g4 : ∀ y ∈ foot h t1, y ∈ foot h t ∨ w.heap.size ≤ y) (g4' : ∀ y ∈ foot h' t', y ∈ foot h t1) (g5 : Tch (· ∈ foot h t) w w1) (g6 : flat h' t' = LL) (g7 : Shp (order / 2) order h' t') (g8 : t'.ps.length ≤ order) (g9 : h' ≠ 0 → 1 ≤ t'.ps.length)
    (tF : Tch (fun y => y = xb) w1 wF) (hxF : Blk wF xb [.int .i64 order, .int .i64 (order / 2 : Nat), .pointer (some ⟨t'.b, 0, none⟩), .int .i64 LL.length] 64) :
    ∃ F', Ix wF xb order LL F' ∧ (∀ y ∈ F', y ∈ xb :: foot h t ∨ w.heap.size ≤ y) ∧ Tch (· ∈ xb :: foot h t) w wF := by
  have hxn' : xb ∉ foot h' t' := fun e => by
    rcases g4 _ (g4' _ e) with h | h
    · exact hxn h
    · omega
  refine ⟨xb :: foot h' t', ⟨h', t', rfl, g6, hxF, TAt.tch tF _ _ g1 (fun y hy e => hxn' (e ▸ hy)), g3, hxn', g7, g8, g9, hs, h2, h64⟩, fun y hy => ?_, ?_⟩
  · rcases List.mem_cons.1 hy with h | h
    · exact .inl (by simp [h])
    · exact (g4 y (g4' y h)).imp (fun h => by simp [h]) id
  · exact (g5.mono (fun y _ h => by simp [h])).trans tF (fun y _ h => by simp [h])

set_option maxRecDepth 100000 in
set_option maxHeartbeats 1000000 in
theorem idrop_any {w : World} {xb order : Nat} {L : List Pair} {F : List Nat} (hI : Ix w xb order L F) (hlen : L.length ≤ 1000000) (key : ByteArray) :
    Calls Try.prog 16 #[.pointer (some ⟨xb, 0, none⟩), .string key] w (IDropPost order key xb L F w) := by
  obtain ⟨h, t, rfl, rfl, hx, ha, hnd, hxn, hsh, hps, h1, hs, h2, h64⟩ := hI
  have r2 : w.cell? ⟨xb, 2, none⟩ = some (.pointer (some ⟨t.b, 0, none⟩)) := hx.cell 2
  have hdrop := drop_ok (by omega : 1 ≤ order / 2) (by omega : 2 * (order / 2) ≤ order) h64 h t w xb _ _ key ha hnd hx hxn hsh h1 hps hs
  have l1 := hx.lt
  have hll : (ldrop key (flat h t)).length = if (lget key (flat h t)).isSome then (flat h t).length - 1 else (flat h t).length := ldrop_length hs
  have hpos : (lget key (flat h t)).isSome → 1 ≤ (flat h t).length := fun hi => by
    cases hfl : flat h t with
    | nil => rw [hfl] at hi; cases hi
    | cons p l => simp
  have HP := Lib.hid hdrop; have Hx := Lib.hid hx; have Hxn := Lib.hid hxn; have Hs := Lib.hid (Srt.ldrop (k := key) hs); have Hll := Lib.hid hll; have HPOS := Lib.hid hpos
  clear hdrop hx ha hnd hxn hsh hs hll hpos
  go_enter Try.func16, Try.ntmps16
  go_wp2_with fail
  refine HP.out.mono ?_
  rintro e w1 ⟨t', rfl, g1, g2, g3, g4, g5, g6, g7, g8, g9⟩
  have hx1 := g5.get Hx.out Hxn.out
  have hn1 := ((TAt_eq w1 h t').1 g1).1
  rw [g2] at hn1
  have hkc := ks_cases g7
  obtain ⟨ptrs, hpt⟩ : ∃ ptrs, ptrs = t'.ks.map (kptr h) := ⟨_, rfl⟩
  rw [← hpt] at hn1
  obtain ⟨pv, kv, hb1, hp1, hk1⟩ := hn1
  obtain ⟨pa, pc, rfl, _⟩ := hp1.val
  obtain ⟨ka, kc, rfl, _⟩ := hk1.val
  have c0 : w1.cell? ⟨t.b, 0, none⟩ = some (.slice pa t'.ps.length pc) := hb1.cell 0
  have c1 : w1.cell? ⟨t.b, 1, none⟩ = some (.slice ka ptrs.length kc) := hb1.cell 1
  have x2 : w1.cell? ⟨xb, 2, none⟩ = some (.pointer (some ⟨t.b, 0, none⟩)) := hx1.cell 2
  have x3 : w1.cell? ⟨xb, 3, none⟩ = some (.int .i64 (flat h t).length) := hx1.cell 3
  have f3 : w1.frozen? ⟨xb, 3, none⟩ = false := hx1.frozen 3
  have f2 : w1.frozen? ⟨xb, 2, none⟩ = false := hx1.frozen 2
  obtain ⟨old, was, hret⟩ := retv_tuple (lget key (flat h t))
  rw [hret]
  have hi := retv_isSome hret
  have hlw : Hid ((ldrop key (flat h t)).length = if was = true then (flat h t).length - 1 else (flat h t).length) := by
    have := Hll.out; rw [hi] at this; exact this
  have hpw : was = true → 1 ≤ (flat h t).length := fun e => HPOS.out (hi.trans e)
  have G1 := Lib.hid g1; have G2 := Lib.hid g2; have G3 := Lib.hid g3; have G4 := Lib.hid g4; have G5 := Lib.hid g5; have G6 := Lib.hid g6; have G7 := Lib.hid g7; have HX1 := Lib.hid hx1; have HRET := Lib.hid hret; have HB1 := Lib.hid hb1; have HK1 := Lib.hid hk1
  clear g1 g2 g3 g4 g5 g6 g7 hx1 hret hb1 hp1 hk1 r2 hi
  have HPT := Lib.hid hpt; have HKC := Lib.hid hkc
  clear hpt hkc
  by_cases hz : t'.ps.length = 0
  · by_cases hh : h = 0
    · have hk0 : ((ptrs.length : Int) == 0) = true := by
        rw [HPT.out]
        rcases HKC.out with ⟨_, h⟩ | ⟨h, _⟩
        · rw [h]; rfl
        · exact (h hh).elim
      have hz1 : ((t'.ps.length : Int) == 0) = true := by rw [hz]; rfl
      have HZ := Lib.hid hz
      have HH := Lib.hid hh
      clear hz hh
      cases was with
      | true =>
        have hp1 := hpw rfl
        have hlt := hlw.out
        rw [if_pos rfl] at hlt
        have q1 : (flat h t).length - 1 = (ldrop key (flat h t)).length := hlt.symm
        have hF : Hid (IDropPost order key xb (flat h t) (xb :: foot h t) w (.returned (.tuple #[.int .i64 old, .bool true])) (w1.setCell ⟨xb, 3, none⟩ (.int .i64 ((flat h t).length - 1 : Int)))) := by
          refine ⟨by rw [HRET.out], drop_fin Hs.out h2 h64 l1 Hxn.out G1.out G3.out G4.out (fun _ h => h) G5.out G6.out G7.out (by omega) (fun h0 => (h0 HH.out).elim) (Tch.setCell (S := fun y => y = xb) _ (a := ⟨xb, 3, none⟩) rfl _) ?_⟩
          have := HX1.out.setC 3 (.int .i64 ((flat h t).length - 1 : Int))
          rw [G2.out, ← q1, show (((flat h t).length - 1 : Nat) : Int) = ((flat h t).length : Int) - 1 by omega]
          exact this
        clear hlt q1
        go_wp2_with (go_at_call 30; refine (leaf_any _ _ _ _ _ _ HB1.out).mono ?_; rintro e w3 ⟨rfl, rfl⟩)
        go_ret2
        exact hF.out
      | false =>
        have hlt := hlw.out
        rw [if_neg (by simp)] at hlt
        have hF : Hid (IDropPost order key xb (flat h t) (xb :: foot h t) w (.returned (.tuple #[.int .i64 old, .bool false])) w1) := by
          refine ⟨by rw [HRET.out], drop_fin Hs.out h2 h64 l1 Hxn.out G1.out G3.out G4.out (fun _ h => h) G5.out G6.out G7.out (by omega) (fun h0 => (h0 HH.out).elim) (Tch.refl _ _) ?_⟩
          rw [G2.out, hlt]
          exact HX1.out
        clear hlt
        go_wp2_with (go_at_call 30; refine (leaf_any _ _ _ _ _ _ HB1.out).mono ?_; rintro e w3 ⟨rfl, rfl⟩)
        go_ret2
        exact hF.out
    · obtain ⟨k, rfl⟩ : ∃ k, h = k + 1 := ⟨h - 1, by omega⟩
      have hkl : (kids t').length = t'.ps.length + 1 := G7.out.1
      rw [hz] at hkl
      obtain ⟨k0, hk0⟩ : ∃ k0, kids t' = [k0] := by
        match hk : kids t' with
        | [a] => exact ⟨a, rfl⟩
        | [] => rw [hk] at hkl; simp at hkl
        | a :: b :: l => rw [hk] at hkl; simp at hkl
      have hpt1 : ptrs = [k0.b] := by
        rw [HPT.out]
        show (kids t').map (·.b) = _
        rw [hk0]; rfl
      obtain ⟨r, kc', ksp, hke, _, hr, _, _, _⟩ := HK1.out.pos (by rw [hpt1]; simp)
      simp only [Value.slice.injEq] at hke
      obtain ⟨rfl, _, rfl⟩ := hke
      have hpl : ptrs.length = 1 := by rw [hpt1]; rfl
      have c2 : w1.cell? ⟨r, 0, none⟩ = some (.pointer (some ⟨k0.b, 0, none⟩)) := (hr.cell 0).trans (encKs_get (by rw [hpt1]; rfl) ksp)
      have hkz : ((ptrs.length : Int) == 0) = false := by rw [hpl]; rfl
      have hz1 : ((t'.ps.length : Int) == 0) = true := by rw [hz]; rfl
      have q0 : 0 < ptrs.length := by omega
      have hk0s := G7.out.2 k0 (by rw [hk0]; simp)
      have hfl : flat (k + 1) t' = flat k k0 := by
        show weave t'.ps ((kids t').map (flat k)) = _
        rw [List.eq_nil_of_length_eq_zero hz, hk0]; rfl
      have hft : ∀ y ∈ foot k k0, y ∈ foot (k + 1) t' := fun y hy => (foot_kid (K1 := []) (K2 := []) hk0).mem_iff.2 (List.mem_append_left _ hy)
      have hnk : (foot k k0).Nodup := (List.nodup_append.1 ((foot_kid (K1 := []) (K2 := []) hk0).nodup_iff.1 G3.out)).1
      have hak := G1.out.2 k0 (by rw [hk0]; simp)
      have HFL := Lib.hid hfl; have HFT := Lib.hid hft; have HNK := Lib.hid hnk; have HAK := Lib.hid hak; have HSK := Lib.hid hk0s
      clear hkl hk0 hpt1 hpl hr hz hk0s hfl hft hnk hak hh
      cases was with
      | true =>
        have hp1 := hpw rfl
        have hlt := hlw.out
        rw [if_pos rfl] at hlt
        have q1 : (flat (k + 1) t).length - 1 = (ldrop key (flat (k + 1) t)).length := hlt.symm
        have hF : Hid (IDropPost order key xb (flat (k + 1) t) (xb :: foot (k + 1) t) w (.returned (.tuple #[.int .i64 old, .bool true])) ((w1.setCell ⟨xb, 2, none⟩ (.pointer (some ⟨k0.b, 0, none⟩))).setCell ⟨xb, 3, none⟩ (.int .i64 ((flat (k + 1) t).length - 1 : Int)))) := by
          refine ⟨by rw [HRET.out], drop_fin Hs.out h2 h64 l1 Hxn.out HAK.out HNK.out G4.out HFT.out G5.out (HFL.out.symm.trans G6.out) HSK.out.2.2 (by have := HSK.out.2.1; omega) (fun _ => by have := HSK.out.1; omega)
            ((Tch.setCell (S := fun y => y = xb) _ (a := ⟨xb, 2, none⟩) rfl _).trans (Tch.setCell (S := fun y => y = xb) _ (a := ⟨xb, 3, none⟩) rfl _) (fun _ _ h => h)) ?_⟩
          have := (HX1.out.setC 2 (.pointer (some ⟨k0.b, 0, none⟩))).setC 3 (.int .i64 ((flat (k + 1) t).length - 1 : Int))
          rw [← q1, show (((flat (k + 1) t).length - 1 : Nat) : Int) = ((flat (k + 1) t).length : Int) - 1 by omega]
          exact this
        clear hlt q1
        go_wp2_with (go_at_call 30; refine (leaf_any _ _ _ _ _ _ HB1.out).mono ?_; rintro e w3 ⟨rfl, rfl⟩)
        go_ret2
        exact hF.out
      | false =>
        have hlt := hlw.out
        rw [if_neg (by simp)] at hlt
        have hF : Hid (IDropPost order key xb (flat (k + 1) t) (xb :: foot (k + 1) t) w (.returned (.tuple #[.int .i64 old, .bool false])) (w1.setCell ⟨xb, 2, none⟩ (.pointer (some ⟨k0.b, 0, none⟩)))) := by
          refine ⟨by rw [HRET.out], drop_fin Hs.out h2 h64 l1 Hxn.out HAK.out HNK.out G4.out HFT.out G5.out (HFL.out.symm.trans G6.out) HSK.out.2.2 (by have := HSK.out.2.1; omega) (fun _ => by have := HSK.out.1; omega)
            (Tch.setCell (S := fun y => y = xb) _ (a := ⟨xb, 2, none⟩) rfl _) ?_⟩
          have := HX1.out.setC 2 (.pointer (some ⟨k0.b, 0, none⟩))
          rw [hlt]
          exact this
        clear hlt
        go_wp2_with (go_at_call 30; refine (leaf_any _ _ _ _ _ _ HB1.out).mono ?_; rintro e w3 ⟨rfl, rfl⟩)
        go_ret2
        exact hF.out
  · have hz1 : ((t'.ps.length : Int) == 0) = false := by rw [beq_eq_false_iff_ne]; omega
    have hz2 : 1 ≤ t'.ps.length := by omega
    clear hz
    cases was with
    | true =>
      have hp1 := hpw rfl
      have hlt := hlw.out
      rw [if_pos rfl] at hlt
      have q1 : (flat h t).length - 1 = (ldrop key (flat h t)).length := hlt.symm
      have hF : Hid (IDropPost order key xb (flat h t) (xb :: foot h t) w (.returned (.tuple #[.int .i64 old, .bool true])) (w1.setCell ⟨xb, 3, none⟩ (.int .i64 ((flat h t).length - 1 : Int)))) := by
        refine ⟨by rw [HRET.out], drop_fin Hs.out h2 h64 l1 Hxn.out G1.out G3.out G4.out (fun _ h => h) G5.out G6.out G7.out (by omega) (fun _ => hz2) (Tch.setCell (S := fun y => y = xb) _ (a := ⟨xb, 3, none⟩) rfl _) ?_⟩
        have := HX1.out.setC 3 (.int .i64 ((flat h t).length - 1 : Int))
        rw [G2.out, ← q1, show (((flat h t).length - 1 : Nat) : Int) = ((flat h t).length : Int) - 1 by omega]
        exact this
      clear hlt q1
      go_wp2_with fail
      go_ret2
      exact hF.out
    | false =>
      have hlt := hlw.out
      rw [if_neg (by simp)] at hlt
      have hF : Hid (IDropPost order key xb (flat h t) (xb :: foot h t) w (.returned (.tuple #[.int .i64 old, .bool false])) w1) := by
        refine ⟨by rw [HRET.out], drop_fin Hs.out h2 h64 l1 Hxn.out G1.out G3.out G4.out (fun _ h => h) G5.out G6.out G7.out (by omega) (fun _ => hz2) (Tch.refl _ _) ?_⟩
        rw [G2.out, hlt]
        exact HX1.out
      clear hlt
      go_wp2_with fail
      go_ret2
      exact hF.out
end Go.Proofs.Ytkhjhcbmefahkaa
