/-
  fill: a child is made one with its neighbour.
-/
import Derived.Test.YtkhjhcbmefahkaaFil
import Derived.Deep.CutBlock
namespace Go.Proofs.Ytkhjhcbmefahkaa
open Go.RowKit Go.Mm Go.Lst

/-- the right one's pairs and kids go to the left one, behind the pair between -/
def FillMerge (w : World) (d l r : NR) (A C : List Pair) (P1 P2 : List Nat) (m : Pair) (e : Ending) (w' : World) : Prop :=
  (∃ v, e = .returned v) ∧ ∃ d' l', From w [d, l, r] w' [d', l', r] ∧ d'.b = d.b ∧ l'.b = l.b ∧ d'.ps = A ++ C ∧ d'.ptrs = P1 ++ l.b :: P2 ∧ l'.ps = l.ps ++ m :: r.ps ∧ l'.ptrs = l.ptrs ++ r.ptrs

theorem encPs_del (A C : List Pair) (m : Pair) {j : Nat} (hj : A.length = j) : (encPs (A ++ m :: C)).take (j * 2) ++ (encPs (A ++ m :: C)).drop (j * 2 + 2) = encPs (A ++ C) := by
  rw [show j * 2 + 2 = (j + 1) * 2 by omega, encPs_take, encPs_drop, ← encPs_append]
  subst hj
  congr 1
  rw [List.take_left' rfl, List.drop_append]
  simp

set_option maxRecDepth 100000 in
set_option maxHeartbeats 4000000 in
theorem fill_merge {w : World} {xb least : Nat} {o1 o2 o3 : Value} (hx : Blk w xb [o1, .int .i64 least, o2, o3] 64) {d l r : NR} (hN : Nds w [d, l, r]) {k j : Nat} {A C : List Pair} {P1 P2 : List Nat} {m : Pair}
    (hP : d.ptrs = P1 ++ l.b :: r.b :: P2) (hP1 : P1.length = j) (hA : A.length = j) (hd : d.ps = A ++ m :: C)
    {kb : Nat} {ka : Option Addr} {kn kc : Nat} (hkb : d.ptrs[k]? = some kb) (hkc : w.cell? ⟨kb, 0, none⟩ = some (.slice ka kn kc)) (hkn : kn < least)
    (hz : k = 0 ∨ ∃ zb za zn zc, 0 < k ∧ d.ptrs[k - 1]? = some zb ∧ w.cell? ⟨zb, 0, none⟩ = some (.slice za zn zc) ∧ zn ≤ least)
    (hy : (k = d.ps.length ∧ k = j + 1) ∨ (k < d.ps.length ∧ k = j ∧ ∃ yb ya yn yc, d.ptrs[k + 1]? = some yb ∧ w.cell? ⟨yb, 0, none⟩ = some (.slice ya yn yc) ∧ yn ≤ least))
    (hs0 : d.ptrs.length ≤ 1000) (hs1 : d.ps.length ≤ 1000) (hs2 : l.ps.length ≤ 1000) (hs3 : r.ps.length ≤ 1000) (hs4 : l.ptrs.length ≤ 1000) (hs5 : r.ptrs.length ≤ 1000) :
    Calls Try.prog 45 #[.pointer (some ⟨xb, 0, none⟩), .pointer (some ⟨d.b, 0, none⟩), .int .i64 (k : Int)] w (FillMerge w d l r A C P1 P2 m) := by
  have aD := hN.1 d (by simp)
  have hki := (List.getElem?_eq_some_iff.1 hkb).1
  obtain ⟨q, qc, sp, hqe, _, hqb, _, _, _⟩ := aD.2.2.pos (by omega)
  have hdl : d.ps.length = j + 1 + C.length := by rw [hd, List.length_append, List.length_cons]; omega
  have hpl : d.ptrs.length = j + 2 + P2.length := by rw [hP, List.length_append, List.length_cons, List.length_cons]; omega
  obtain ⟨pa, pc, psp, hpe, _, hpb, _, _, _⟩ := aD.2.1.pos (by omega)
  have c0 : w.cell? ⟨d.b, 1, none⟩ = some (.slice (some ⟨q, 0, none⟩) d.ptrs.length qc) := by rw [← hqe]; exact aD.1.cell 1
  have c0' : w.cell? ⟨d.b, 0, none⟩ = some (.slice (some ⟨pa, 0, none⟩) d.ps.length pc) := by rw [← hpe]; exact aD.1.cell 0
  have c1 : w.cell? ⟨q, k, none⟩ = some (.pointer (some ⟨kb, 0, none⟩)) := (hqb.cell k).trans (encKs_get hkb sp)
  have c3 : w.cell? ⟨xb, 1, none⟩ = some (.int .i64 least) := hx.cell 1
  have q0 : (0 : Int) ≤ (k : Int) := by omega
  have q1 : (k : Int) < (d.ptrs.length : Int) := by omega
  have q6 : k ≤ 1000 := by omega
  have HCZ : Hid (k = 0 ∨ ∃ zb za zn zc, 0 < k ∧ w.cell? ⟨q, k - 1, none⟩ = some (.pointer (some ⟨zb, 0, none⟩)) ∧ w.cell? ⟨zb, 0, none⟩ = some (.slice za zn zc) ∧ zn ≤ least) := by
    rcases hz with h | ⟨zb, za, zn, zc, h1, h2, h3, h4⟩
    · exact .inl h
    · exact .inr ⟨zb, za, zn, zc, h1, (hqb.cell (k - 1)).trans (encKs_get h2 sp), h3, h4⟩
  have HCY : Hid ((k = d.ps.length ∧ k = j + 1) ∨ (k < d.ps.length ∧ k = j ∧ k + 1 < d.ptrs.length ∧ ∃ yb ya yn yc, w.cell? ⟨q, k + 1, none⟩ = some (.pointer (some ⟨yb, 0, none⟩)) ∧ w.cell? ⟨yb, 0, none⟩ = some (.slice ya yn yc) ∧ yn ≤ least)) := by
    rcases hy with h | ⟨h1, h2, yb, ya, yn, yc, h3, h4, h5⟩
    · exact .inl h
    · exact .inr ⟨h1, h2, (List.getElem?_eq_some_iff.1 h3).1, yb, ya, yn, yc, (hqb.cell (k + 1)).trans (encKs_get h3 sp), h4, h5⟩
  have HN := Lib.hid hN; have HP := Lib.hid hP; have HP1 := Lib.hid hP1; have HD := Lib.hid hd; have HA := Lib.hid hA; have HPE := Lib.hid hpe; have HQE := Lib.hid hqe; have HDL := Lib.hid hdl; have HPL := Lib.hid hpl
  clear hN hP hP1 hd hA hpe hqe hqb hpb aD hz hy hkb hki hx hdl hpl
  go_enter Try.func45, Try.ntmps45
  go_wp2_with fail
  go_quiet (fail)
  go_wp2_with fail
  go_upto_if 49 with fail
  go_cut [49] from 12 to 49 (fun v wr => v = .bool false ∧ Tch (fun _ => False) w wr)
  case first =>
    rcases HCZ.out with hz | ⟨zb, za, zn, zc, hz, z1, z2, z3⟩
    · have q3 : decide ((0 : Int) < (k : Int)) = false := by simp; omega
      go_quiet (fail)
      go_wp2_with fail
      go_meet
      exact ⟨rfl, rfl, rfl, rfl, Nat.le_refl _, fun _ _ _ => rfl⟩
    · have q3 : decide ((0 : Int) < (k : Int)) = true := by simp; omega
      have q4 : (1 : Int) ≤ (k : Int) := by omega
      have q8 : (k : Int) - 1 < (d.ptrs.length : Int) := by omega
      have q9 : (0 : Int) ≤ (k : Int) - 1 := by omega
      have q10 : ((k : Int) - 1).toNat = k - 1 := by omega
      have q11 : decide ((least : Int) < (zn : Int)) = false := by simp; omega
      have w2 : IntKind.i64.wrap ((k : Int) - 1) = (k : Int) - 1 := IntWalk.i64_in _ (by omega)
      go_quiet (fail)
      go_wp2_with fail
      go_meet
      exact ⟨by rw [show decide (least < zn) = false by simp; omega], rfl, rfl, rfl, Nat.le_refl _, fun _ _ _ => rfl⟩
  case rest =>
  obtain ⟨rfl, hcut⟩ := hcut
  replace c0 := tcell hcut c0; replace c0' := tcell hcut c0'; replace c1 := tcell hcut c1; replace hkc := tcell hcut hkc; replace c3 := tcell hcut c3
  have HT1 := Lib.hid hcut
  clear hcut
  go_wp2_with fail
  go_upto_if 159 with fail
  go_cut [159] from 134 to 159 (fun v wr => v = .bool false ∧ Tch (fun _ => False) w wr)
  case first =>
    rcases HCY.out with ⟨hy, hyj⟩ | ⟨hy, hyj, hy1, yb, ya, yn, yc, y1, y2, y3⟩
    · have q3 : decide (k < d.ps.length) = false := by simp; omega
      clear hy hyj
      go_quiet (fail)
      go_wp2_with fail
      go_meet
      exact ⟨rfl, HT1.out.trans (S' := fun _ => False) ⟨rfl, rfl, rfl, Nat.le_refl _, fun _ _ _ => rfl⟩ (fun _ _ h => h)⟩
    · have q3 : decide ((k : Int) < (d.ps.length : Int)) = true := by simp; omega
      have q8 : (k : Int) + 1 < (d.ptrs.length : Int) := by omega
      have q9 : (0 : Int) ≤ (k : Int) + 1 := by omega
      have q10 : ((k : Int) + 1).toNat = k + 1 := by omega
      have q11 : decide ((least : Int) < (yn : Int)) = false := by simp; omega
      have w2 : IntKind.i64.wrap ((k : Int) + 1) = (k : Int) + 1 := IntWalk.i64_in _ (by omega)
      clear hyj
      replace y1 := tcell HT1.out y1; replace y2 := tcell HT1.out y2
      go_quiet (fail)
      go_wp2_with fail
      go_meet
      exact ⟨by rw [show decide (least < yn) = false by simp; omega], HT1.out.trans (S' := fun _ => False) ⟨rfl, rfl, rfl, Nat.le_refl _, fun _ _ _ => rfl⟩ (fun _ _ h => h)⟩
  case rest =>
  obtain ⟨rfl, hcut⟩ := hcut
  replace c0' : wc.cell? ⟨d.b, 0, none⟩ = some (.slice (some ⟨pa, 0, none⟩) d.ps.length pc) := by rw [← HPE.out]; exact ((HN.out.tch hcut).1 d (by simp)).1.cell 0
  have HT2 := Lib.hid hcut
  clear hcut c0 c1 hkc c3 HT1
  go_upto_if 236 with fail
  go_cut [2] from 230 to 238 (fun v wr => v = .int .i64 (j : Int) ∧ Tch (fun _ => False) w wr)
  case first =>
    rcases HCY.out with ⟨hy, hyj⟩ | ⟨hy, hyj, _⟩
    · have q3 : ((k : Int) == (d.ps.length : Int)) = true := by simp; omega
      have q4 : (1 : Int) ≤ (k : Int) := by omega
      have q5 : (k : Int) - 1 = (j : Int) := by omega
      have Q5 := Lib.hid q5
      clear hy hyj q5
      go_wp2_with fail
      go_meet
      exact ⟨by rw [Q5.out], HT2.out⟩
    · have q3 : ((k : Int) == (d.ps.length : Int)) = false := by simp; omega
      have Q5 := Lib.hid hyj
      clear hy hyj
      go_wp2_with fail
      go_meet
      exact ⟨by rw [Q5.out], HT2.out⟩
  case rest =>
  obtain ⟨rfl, hcut⟩ := hcut
  have hN1 := HN.out.tch hcut
  have aD := hN1.1 d (by simp)
  have aL := hN1.1 l (by simp)
  have aR := hN1.1 r (by simp)
  obtain ⟨q', qc', sp', hqe', _, hqb, _, _, _⟩ := aD.2.2.pos (by omega)
  have e1 := HQE.out.symm.trans hqe'
  simp only [Value.slice.injEq, Option.some.injEq, Addr.mk.injEq] at e1
  obtain ⟨⟨rfl, _⟩, _, rfl⟩ := e1
  have hdl := HDL.out
  have hpl := HPL.out
  have hjl : d.ptrs[j]? = some l.b := by rw [HP.out, List.getElem?_append_right (by rw [HP1.out]; omega), HP1.out]; simp
  have hjr : d.ptrs[j + 1]? = some r.b := by rw [HP.out, List.getElem?_append_right (by rw [HP1.out]; omega), HP1.out]; simp
  have c0 : wc.cell? ⟨d.b, 1, none⟩ = some (.slice (some ⟨q, 0, none⟩) d.ptrs.length qc) := by rw [← hqe']; exact aD.1.cell 1
  have c1 : wc.cell? ⟨q, j, none⟩ = some (.pointer (some ⟨l.b, 0, none⟩)) := (hqb.cell j).trans (encKs_get hjl sp')
  have c2 : wc.cell? ⟨q, j + 1, none⟩ = some (.pointer (some ⟨r.b, 0, none⟩)) := (hqb.cell (j + 1)).trans (encKs_get hjr sp')
  have q20 : (0 : Int) ≤ (j : Int) := by omega
  have q21 : j < d.ptrs.length := by omega
  have q22 : (j : Int) + 1 < (d.ptrs.length : Int) := by omega
  have q23 : ((j : Int) + 1).toNat = j + 1 := by omega
  have q24 : (0 : Int) ≤ (j : Int) + 1 := by omega
  have q25 : j < d.ps.length := by omega
  have w20 : IntKind.i64.wrap ((j : Int) + 1) = (j : Int) + 1 := IntWalk.i64_in _ (by omega)
  have HF0 := Lib.hid (From.quiet (From.refl HN.out) hcut)
  clear hcut hN1 aD aL aR hqe' hqb hdl hpl hjl hjr c0' HT2 HCY
  go_wp2_with fail
  go_quiet (fail)
  have ht5 : Tch (fun _ => False) wc (wc.drewN nq) := ⟨rfl, rfl, rfl, Nat.le_refl _, fun _ _ _ => rfl⟩
  have HF := Lib.hid (HF0.out.quiet ht5)
  clear c0 c1 c2 HF0 ht5 w20 q23
  generalize World.drewN wc nq = w5 at *
  go_wp2_with fail
  have aD := HF.out.1.1 d (by simp)
  have aL := HF.out.1.1 l (by simp)
  have aR := HF.out.1.1 r (by simp)
  have hlp := Nds.parts (A := [d]) (n := l) (C := [r]) HF.out.1
  obtain ⟨la, lc, hle, _⟩ := aL.2.1.val
  obtain ⟨ra, rc, hre, _⟩ := aR.2.1.val
  obtain ⟨pq, pcc, psp', hpe', _, hpb, _, _, _⟩ := aD.2.1.pos (by omega)
  have e2 := HPE.out.symm.trans hpe'
  simp only [Value.slice.injEq, Option.some.injEq, Addr.mk.injEq] at e2
  obtain ⟨⟨rfl, _⟩, _, rfl⟩ := e2
  have hdm : d.ps[j]? = some m := by rw [HD.out, List.getElem?_append_right (by have := HA.out; omega), HA.out]; simp
  have g0 : w5.cell? ⟨d.b, 0, none⟩ = some (.slice (some ⟨pa, 0, none⟩) d.ps.length pc) := by rw [← hpe']; exact aD.1.cell 0
  have g1 : w5.cell? ⟨l.b, 0, none⟩ = some (.slice la l.ps.length lc) := by rw [← hle]; exact aL.1.cell 0
  have g2 : w5.cell? ⟨r.b, 0, none⟩ = some (.slice ra r.ps.length rc) := by rw [← hre]; exact aR.1.cell 0
  have g3 := (hpb.cell _).trans (encPs_get hdm psp').1
  have g4 := (hpb.cell _).trans (encPs_get hdm psp').2
  have ll5 : l.b < w5.heap.size := aL.1.lt
  have lr5 : r.b < w5.heap.size := aR.1.lt
  have ld5 : d.b < w5.heap.size := aD.1.lt
  have lp5 : pa < w5.heap.size := hpb.lt
  have hsl : Sl (w5.drew.alloc (.cells #[.string m.1, .int .i64 m.2] 67)) 67 2 l.pv l.pb l.ps.length (encPs l.ps) := aL.2.1.drew.alloc _
  have hxx : Blk (w5.drew.alloc (.cells #[.string m.1, .int .i64 m.2] 67)) w5.heap.size [.string m.1, .int .i64 m.2] 67 := Blk.newLast _ _ rfl
  have hsx : Src Try.prog (w5.drew.alloc (.cells #[.string m.1, .int .i64 m.2] 67)) 2 (.slice (some ⟨w5.heap.size, 0, none⟩) 1 1) 1 [.string m.1, .int .i64 m.2] := srcP hxx rfl
  obtain ⟨v6, w6, bl6, hr6, hs6, ht6, hn6⟩ := Sl.append (P := Try.prog) (t := 59) (t' := 59) (ty := 59) Try.underlying59 Try.underlying59 info67 (by decide) rfl hsl hsx (srcP hxx.drew rfl) (by simp; exact ⟨rfl, rfl⟩) (by omega)
  obtain ⟨a6, n6, rfl, _⟩ := hs6.val
  have t5a : Tch (fun _ => False) w5 (w5.drew.alloc (.cells #[.string m.1, .int .i64 m.2] 67)) := (Tch.drew _ w5).trans (Tch.alloc _ _ _) (fun _ _ h => h)
  have t56 : Tch (· ∈ l.pb) w5 w6 := (t5a.mono (fun _ _ h => h.elim)).trans ht6 (fun _ _ h => h)
  have hrl : ∀ y ∈ r.bs, y ∉ l.pb := fun y hy h => hlp.2.2.2 r (by simp) y hy (by simp [NR.bs, h])
  have aR6 := aR.tch t56 hrl
  have g5 : w6.cell? ⟨r.b, 0, none⟩ = some (.slice ra r.ps.length rc) := by rw [← hre]; exact aR6.1.cell 0
  have hsr : Src Try.prog w6 2 (.slice ra r.ps.length rc) r.ps.length (encPs r.ps) := hre ▸ aR6.2.1.src
  have hsr' : Src Try.prog w6.drew 2 (.slice ra r.ps.length rc) r.ps.length (encPs r.ps) := hre ▸ aR6.2.1.drew.src
  obtain ⟨v7, w7, bl7, hr7, hs7, ht7, hn7⟩ := Sl.append (P := Try.prog) (t := 59) (t' := 59) (ty := 59) Try.underlying59 Try.underlying59 info67 (by decide) rfl hs6 hsr hsr' (encPs_one r.ps) (by omega)
  obtain ⟨a7, n7, rfl, _⟩ := hs7.val
  have hn6' : ∀ y ∈ bl6, y ∈ l.pb ∨ w5.heap.size ≤ y := fun y hy => (hn6 y hy).imp id (fun h => by simp at h; omega)
  have s56 := t56.size
  have t57 : Tch (· ∈ l.pb) w5 w7 := t56.trans ht7 (fun y hy h => (hn6' y h).resolve_right (by omega))
  have hn7' : ∀ y ∈ bl7, y ∈ l.pb ∨ w5.heap.size ≤ y := fun y hy => by
    rcases hn7 y hy with h | h
    · exact hn6' y h
    · exact .inr (by omega)
  have hb7 := t57.get aL.1 hlp.1
  have g7 := hb7.cell 0
  have g8 := hb7.frozen 0
  rw [hle] at hr6
  have HS7 : Hid (Sl w7 67 2 (.slice a7 (l.ps.length + 1 + r.ps.length) n7) bl7 (l.ps ++ m :: r.ps).length (encPs (l.ps ++ m :: r.ps))) := by
    rw [show l.ps ++ m :: r.ps = l.ps ++ [m] ++ r.ps by simp, encPs_append, encPs_append, List.length_append, List.length_append]
    exact hs7
  have R6 := Lib.hid hr6; have R7 := Lib.hid hr7; have HT7 := Lib.hid t57; have HN7 := Lib.hid hn7'
  clear hr6 hr7 hs6 hs7 ht6 ht7 hn6 hn7 hn6' hn7' t56 t57 t5a hb7 hsl hxx hsx hsr hsr' hrl aR6 hlp aD aL aR hdm hpb hpe' hle hre
  go_cut [] from 239 to 274 (fun wr => ∃ v bl, From w [d, l, r] wr [d, { l with pv := v, pb := bl, ps := l.ps ++ m :: r.ps }, r])
  case first =>
    go_region_law (first | (refine step_appendV rfl (.tmp 258) (.tmp 266) 59 59 59 rfl rfl (.slice la l.ps.length lc) (.slice (some ⟨w5.heap.size, 0, none⟩) 1 1) (by go_simp) (by go_simp) _ _ R6.out ?_) | (refine step_appendV rfl (.tmp 267) (.tmp 271) 59 59 59 rfl rfl (.slice a6 (l.ps.length + 1) n6) (.slice ra r.ps.length rc) (by go_simp) (by go_simp) _ _ R7.out ?_))
    all_goals (
      go_wp2_with fail
      go_meet
      exact ⟨_, _, From.pairs (A := [d]) (n := l) (C := [r]) HF.out HS7.out HT7.out HN7.out⟩)
  case rest =>
  obtain ⟨v1, bl1, hf⟩ := hcut
  have aL := hf.1.1 { l with pv := v1, pb := bl1, ps := l.ps ++ m :: r.ps } (by simp)
  have aR := hf.1.1 r (by simp)
  have hlp := Nds.parts (A := [d]) (n := { l with pv := v1, pb := bl1, ps := l.ps ++ m :: r.ps }) (C := [r]) hf.1
  obtain ⟨ka1, kc1, hle, _⟩ := aL.2.2.val
  obtain ⟨ra1, rc1, hre, _⟩ := aR.2.2.val
  have g1 : wc.cell? ⟨l.b, 1, none⟩ = some (.slice ka1 l.ptrs.length kc1) := by rw [← hle]; exact aL.1.cell 1
  have g2 : wc.cell? ⟨r.b, 1, none⟩ = some (.slice ra1 r.ptrs.length rc1) := by rw [← hre]; exact aR.1.cell 1
  have hsr : Src Try.prog wc 1 (.slice ra1 r.ptrs.length rc1) r.ptrs.length (encKs r.ptrs) := hre ▸ aR.2.2.src
  have hsr' : Src Try.prog wc.drew 1 (.slice ra1 r.ptrs.length rc1) r.ptrs.length (encKs r.ptrs) := hre ▸ aR.2.2.drew.src
  have hsrd : Src Try.prog wc.drew.drew 1 (.slice ra1 r.ptrs.length rc1) r.ptrs.length (encKs r.ptrs) := hre ▸ aR.2.2.drew.drew.src
  obtain ⟨v7, w7, bl7, hr7, hs7, ht7, hn7⟩ := Sl.append (P := Try.prog) (w := wc.drew) (t := 60) (t' := 60) (ty := 60) Try.underlying60 Try.underlying60 info58 (by decide) rfl (show Sl wc.drew 58 1 l.kv l.kb l.ptrs.length (encKs l.ptrs) from aL.2.2.drew) hsr' hsrd (encKs_one r.ptrs) (by omega)
  obtain ⟨a7, n7, rfl, _⟩ := hs7.val
  have hb7 := ht7.get (show Blk wc.drew l.b [v1, l.kv] 62 from aL.1) hlp.2.1
  have g7 := hb7.cell 1
  have g8 := hb7.frozen 1
  rw [hle] at hr7
  have HS7 : Hid (Sl w7 58 1 (.slice a7 (l.ptrs.length + r.ptrs.length) n7) bl7 (l.ptrs ++ r.ptrs).length (encKs (l.ptrs ++ r.ptrs))) := by
    rw [encKs, List.map_append, List.length_append]
    exact hs7
  have R7 := Lib.hid hr7; have HT7 := Lib.hid ((Tch.drew (· ∈ l.kb) wc).trans ht7 (fun _ _ h => h)); have HN7 := Lib.hid hn7; have HF1 := Lib.hid hf
  clear hr7 hs7 ht7 hn7 hb7 hsr hsr' hsrd hlp aL aR hle hre hf g0 g3 g4 g5 R6 HF ll5 lr5 ld5 lp5
  go_wp2_with fail
  go_cut [] from 275 to 286 (fun wr => ∃ v bl, From w [d, l, r] wr [d, { l with pv := v1, pb := bl1, ps := l.ps ++ m :: r.ps, kv := v, kb := bl, ptrs := l.ptrs ++ r.ptrs }, r])
  case first =>
    go_region_law (refine step_appendV rfl (.tmp 279) (.tmp 283) 60 60 60 rfl rfl (.slice ka1 l.ptrs.length kc1) (.slice ra1 r.ptrs.length rc1) (by go_simp) (by go_simp) _ _ R7.out ?_)
    all_goals (
      go_wp2_with fail
      go_meet
      exact ⟨_, _, From.kids (A := [d]) (n := { l with pv := v1, pb := bl1, ps := l.ps ++ m :: r.ps }) (C := [r]) HF1.out HS7.out HT7.out HN7.out⟩)
  case rest =>
  obtain ⟨v2, bl2, hf⟩ := hcut
  have aD := hf.1.1 d (by simp)
  have hdp := Nds.parts (A := []) (n := d) (C := [{ l with pv := v1, pb := bl1, ps := l.ps ++ m :: r.ps, kv := v2, kb := bl2, ptrs := l.ptrs ++ r.ptrs }, r]) hf.1
  have hdel := delP_any aD.2.1 (by omega) j (by omega) (encPs_one d.ps)
  rw [HPE.out] at hdel
  have g0 : wc.cell? ⟨d.b, 0, none⟩ = some (.slice (some ⟨pa, 0, none⟩) d.ps.length pc) := by rw [← HPE.out]; exact aD.1.cell 0
  have HDL1 := Lib.hid hdel; have HF2 := Lib.hid hf; have HBD := Lib.hid aD.1; have HNP := Lib.hid hdp.1
  clear hdel hf aD hdp g1 g2 g7 g8 R7 HS7 HT7 HN7 HF1
  go_wp2_with fail
  refine HDL1.out.mono ?_
  rintro e w8 ⟨v8, bl8, rfl, hs8, ht8, hn8⟩
  obtain ⟨a8, n8, rfl, _⟩ := hs8.val
  have hb8 := ht8.get HBD.out HNP.out
  have f0 : w8.cell? ⟨d.b, 0, none⟩ = some d.pv := hb8.cell 0
  have f1 : w8.frozen? ⟨d.b, 0, none⟩ = false := hb8.frozen 0
  have f2 : w8.cell? ⟨d.b, 1, none⟩ = some (.slice (some ⟨q, 0, none⟩) d.ptrs.length qc) := by rw [← HQE.out]; exact hb8.cell 1
  have HFD := Lib.hid (From.pairs (A := []) (C := [{ l with pv := v1, pb := bl1, ps := l.ps ++ m :: r.ps, kv := v2, kb := bl2, ptrs := l.ptrs ++ r.ptrs }, r]) (n := d) HF2.out (w1 := w8) (ps := A ++ C) (v := .slice a8 (d.ps.length - 1) n8) (by
    rw [HD.out, encPs_del A C m HA.out] at hs8
    rw [HD.out, show (A ++ C).length = (A ++ m :: C).length - 1 by simp]
    exact hs8) ht8 hn8)
  clear hs8 ht8 hn8 hb8 g0 HDL1 HF2 HBD HNP
  go_wp2_with fail
  generalize w8.setCell _ _ = w9 at *
  have aD := HFD.out.1.1 { d with pv := .slice a8 (d.ps.length - 1) n8, pb := bl8, ps := A ++ C } (by simp)
  have hdp := Nds.parts (A := []) (n := { d with pv := .slice a8 (d.ps.length - 1) n8, pb := bl8, ps := A ++ C }) (C := [{ l with pv := v1, pb := bl1, ps := l.ps ++ m :: r.ps, kv := v2, kb := bl2, ptrs := l.ptrs ++ r.ptrs }, r]) HFD.out.1
  have hdel := delN_any aD.2.2 (by show d.ptrs.length ≤ 1000000; omega) (j + 1) (by show j + 1 < d.ptrs.length; omega) (encKs_one d.ptrs)
  rw [HQE.out, show (((j + 1 : Nat) : Int) + 1) = (j : Int) + 2 by omega, show ((j + 1 : Nat) : Int) = (j : Int) + 1 by omega] at hdel
  have HDL2 := Lib.hid hdel; have HBD2 := Lib.hid aD.1; have HNP2 := Lib.hid hdp.2.1
  clear hdel aD hdp f0 f1 f2
  refine HDL2.out.mono ?_
  rintro e w10 ⟨v10, bl10, rfl, hs10, ht10, hn10⟩
  obtain ⟨a10, n10, rfl, _⟩ := hs10.val
  have hb10 := ht10.get HBD2.out HNP2.out
  have f0 : w10.cell? ⟨d.b, 1, none⟩ = some d.kv := hb10.cell 1
  have f1 : w10.frozen? ⟨d.b, 1, none⟩ = false := hb10.frozen 1
  have hfin : Hid (FillMerge w d l r A C P1 P2 m (.returned (.tuple #[])) (w10.setCell ⟨d.b, 1, none⟩ (.slice a10 (d.ptrs.length - 1) n10))) := by
    have hks : (encKs d.ptrs).take ((j + 1) * 1) ++ (encKs d.ptrs).drop ((j + 1) * 1 + 1) = encKs (P1 ++ l.b :: P2) := by
      rw [HP.out, Nat.mul_one, encKs_take, encKs_drop, ← HP1.out, show P1 ++ l.b :: r.b :: P2 = (P1 ++ [l.b]) ++ r.b :: P2 by simp, List.take_left' (by simp), show P1.length + 1 + 1 = (P1 ++ [l.b]).length + 1 by simp, List.drop_append]
      simp [encKs]
    have hfr := From.kids (A := []) (C := [{ l with pv := v1, pb := bl1, ps := l.ps ++ m :: r.ps, kv := v2, kb := bl2, ptrs := l.ptrs ++ r.ptrs }, r]) (n := { d with pv := .slice a8 (d.ps.length - 1) n8, pb := bl8, ps := A ++ C }) HFD.out (w1 := w10) (ptrs := P1 ++ l.b :: P2) (v := .slice a10 (d.ptrs.length - 1) n10) (by
      have hs := hs10
      rw [show ({ d with pv := .slice a8 (d.ps.length - 1) n8, pb := bl8, ps := A ++ C } : NR).ptrs = d.ptrs from rfl, hks] at hs
      rw [show (P1 ++ l.b :: P2).length = d.ptrs.length - 1 by rw [HP.out]; simp]
      exact hs) ht10 hn10
    exact ⟨⟨_, rfl⟩, _, _, hfr, rfl, rfl, rfl, rfl, rfl, rfl⟩
  clear hs10 ht10 hn10 hb10 HDL2
  go_wp2_with fail
  refine bodyPost_ret (results_none rfl _ _ _) rfl ?_
  exact hfin.out
end Go.Proofs.Ytkhjhcbmefahkaa
