/-
  fill: a pair of the right neighbour.
-/
import Derived.Test.YtkhjhcbmefahkaaFil
import Derived.Deep.CutBlock
namespace Go.Proofs.Ytkhjhcbmefahkaa
open Go.RowKit Go.Mm Go.Lst

/-- a pair of the right neighbour goes up, the pair above it comes down -/
def FillRight (w : World) (d l r : NR) (A C : List Pair) (m x : Pair) (rps : List Pair) (e : Ending) (w' : World) : Prop :=
  (∃ v, e = .returned v) ∧ ∃ d' l' r', From w [d, l, r] w' [d', l', r'] ∧ d'.b = d.b ∧ l'.b = l.b ∧ r'.b = r.b ∧ d'.ps = A ++ x :: C ∧ d'.ptrs = d.ptrs ∧ l'.ps = l.ps ++ [m] ∧ r'.ps = rps ∧
    ((r.ptrs = [] ∧ r'.ptrs = [] ∧ l'.ptrs = l.ptrs) ∨ ∃ c rk, r.ptrs = c :: rk ∧ l'.ptrs = l.ptrs ++ [c] ∧ r'.ptrs = rk)

set_option maxRecDepth 100000 in
set_option maxHeartbeats 4000000 in
theorem fill_right {w : World} {xb least : Nat} {o1 o2 o3 : Value} (hx : Blk w xb [o1, .int .i64 least, o2, o3] 64) {d l r : NR} (hN : Nds w [d, l, r]) {i : Nat} (hil : d.ptrs[i]? = some l.b) (hir : d.ptrs[i + 1]? = some r.b)
    (hz : i = 0 ∨ ∃ zb za zn zc, 0 < i ∧ d.ptrs[i - 1]? = some zb ∧ w.cell? ⟨zb, 0, none⟩ = some (.slice za zn zc) ∧ zn ≤ least)
    {A C rps : List Pair} {m x : Pair} (hA : A.length = i) (hd : d.ps = A ++ m :: C) (hr : r.ps = x :: rps) (h1 : l.ps.length < least) (h2 : least < r.ps.length) (hs1 : d.ps.length ≤ 1000) (hs2 : r.ps.length ≤ 1000) (hrl : r.ptrs.length ≤ 1000000) (hll : l.ptrs.length ≤ 1000000)
    (hk : r.ptrs = [] ∨ ∃ c rk, r.ptrs = c :: rk) :
    Calls Try.prog 45 #[.pointer (some ⟨xb, 0, none⟩), .pointer (some ⟨d.b, 0, none⟩), .int .i64 (i : Int)] w (FillRight w d l r A C m x rps) := by
  have aD := hN.1 d (by simp)
  have aL := hN.1 l (by simp)
  have aR := hN.1 r (by simp)
  have hi1 := (List.getElem?_eq_some_iff.1 hir).1
  obtain ⟨q, qc, sp, hqe, _, hqb, _, _, _⟩ := aD.2.2.pos (by omega)
  obtain ⟨pa, pc, psp, hpe, _, hpb, _, _, _⟩ := aD.2.1.pos (by rw [hd, List.length_append, List.length_cons]; omega)
  obtain ⟨la, lc, hle, _⟩ := aL.2.1.val
  obtain ⟨rq, rc, rsp, hre, _, hrb, _, _, _⟩ := aR.2.1.pos (by omega)
  have c0 : w.cell? ⟨d.b, 1, none⟩ = some (.slice (some ⟨q, 0, none⟩) d.ptrs.length qc) := by rw [← hqe]; exact aD.1.cell 1
  have c0' : w.cell? ⟨d.b, 0, none⟩ = some (.slice (some ⟨pa, 0, none⟩) d.ps.length pc) := by rw [← hpe]; exact aD.1.cell 0
  have c1 : w.cell? ⟨q, i, none⟩ = some (.pointer (some ⟨l.b, 0, none⟩)) := (hqb.cell i).trans (encKs_get hil sp)
  have c1' : w.cell? ⟨q, i + 1, none⟩ = some (.pointer (some ⟨r.b, 0, none⟩)) := (hqb.cell (i + 1)).trans (encKs_get hir sp)
  have c2 : w.cell? ⟨l.b, 0, none⟩ = some (.slice la l.ps.length lc) := by rw [← hle]; exact aL.1.cell 0
  have c2' : w.cell? ⟨r.b, 0, none⟩ = some (.slice (some ⟨rq, 0, none⟩) r.ps.length rc) := by rw [← hre]; exact aR.1.cell 0
  have c3 : w.cell? ⟨xb, 1, none⟩ = some (.int .i64 least) := hx.cell 1
  have hdm : d.ps[i]? = some m := by rw [hd, List.getElem?_append_right (by omega), hA]; simp
  have d0 := (hpb.cell _).trans (encPs_get hdm psp).1
  have d1 := (hpb.cell _).trans (encPs_get hdm psp).2
  have q0 : (0 : Int) ≤ (i : Int) := by omega
  have q1 : (i : Int) < (d.ptrs.length : Int) := by omega
  have q2 : (i : Int) + 1 < (d.ptrs.length : Int) := by omega
  have q5 : (i : Int) < (d.ps.length : Int) := by rw [hd, List.length_append, List.length_cons]; omega
  have q5n : i < d.ps.length := by omega
  have q6 : i ≤ 1000 := by rw [hd, List.length_append] at hs1; omega
  have q7 : ((i : Int) + 1).toNat = i + 1 := by omega
  have w1 : IntKind.i64.wrap ((i : Int) + 1) = (i : Int) + 1 := IntWalk.i64_in _ (by omega)
  have HCZ : Hid (i = 0 ∨ ∃ zb za zn zc, 0 < i ∧ w.cell? ⟨q, i - 1, none⟩ = some (.pointer (some ⟨zb, 0, none⟩)) ∧ w.cell? ⟨zb, 0, none⟩ = some (.slice za zn zc) ∧ zn ≤ least) := by
    rcases hz with h | ⟨zb, za, zn, zc, h1, h2, h3, h4⟩
    · exact .inl h
    · exact .inr ⟨zb, za, zn, zc, h1, (hqb.cell (i - 1)).trans (encKs_get h2 sp), h3, h4⟩
  have HN := Lib.hid hN; have HX := Lib.hid hx; have HK := Lib.hid hk; have HD := Lib.hid hd; have HR := Lib.hid hr; have HA := Lib.hid hA; have HRE := Lib.hid hre; have HLE := Lib.hid hle; have HPE := Lib.hid hpe; have HQE := Lib.hid hqe
  clear hN hx hk hd hr hA hil hir hdm hqb hpb hrb hqe hpe hle hre aD aL aR hz w1 q7
  go_enter Try.func45, Try.ntmps45
  go_wp2_with fail
  go_quiet (fail)
  go_wp2_with fail
  go_upto_if 49 with fail
  go_cut [49] from 12 to 49 (fun v wr => v = .bool false ∧ Tch (fun _ => False) w wr)
  case first =>
    rcases HCZ.out with hz | ⟨zb, za, zn, zc, hz, z1, z2, z3⟩
    · have q3 : decide ((0 : Int) < (i : Int)) = false := by simp; omega
      go_quiet (fail)
      go_wp2_with fail
      go_meet
      exact ⟨rfl, rfl, rfl, rfl, Nat.le_refl _, fun _ _ _ => rfl⟩
    · have q3 : decide ((0 : Int) < (i : Int)) = true := by simp; omega
      have q4 : (1 : Int) ≤ (i : Int) := by omega
      have q8 : (i : Int) - 1 < (d.ptrs.length : Int) := by omega
      have q9 : (0 : Int) ≤ (i : Int) - 1 := by omega
      have q10 : ((i : Int) - 1).toNat = i - 1 := by omega
      have q11 : decide ((least : Int) < (zn : Int)) = false := by simp; omega
      have w2 : IntKind.i64.wrap ((i : Int) - 1) = (i : Int) - 1 := IntWalk.i64_in _ (by omega)
      go_quiet (fail)
      go_wp2_with fail
      go_meet
      exact ⟨by rw [show decide (least < zn) = false by simp; omega], rfl, rfl, rfl, Nat.le_refl _, fun _ _ _ => rfl⟩
  case rest =>
  obtain ⟨rfl, hcut⟩ := hcut
  have hF0 : From w [d, l, r] wc ([d] ++ l :: [r]) := (From.refl HN.out).quiet hcut
  replace c0 := tcell hcut c0; replace c0' := tcell hcut c0'; replace c1 := tcell hcut c1; replace c1' := tcell hcut c1'; replace c2 := tcell hcut c2; replace c2' := tcell hcut c2'; replace c3 := tcell hcut c3
  replace d0 := tcell hcut d0; replace d1 := tcell hcut d1
  have q12 : decide ((i : Int) < (d.ps.length : Int)) = true := by simp; omega
  have q13 : decide ((least : Int) < (r.ps.length : Int)) = true := by simp; omega
  have w2 : IntKind.i64.wrap ((i : Int) + 1) = (i : Int) + 1 := IntWalk.i64_in _ (by omega)
  have q7 : ((i : Int) + 1).toNat = i + 1 := by omega
  have q8 : (0 : Int) ≤ (i : Int) + 1 := by omega
  have HF0 := Lib.hid hF0
  clear hF0 hcut
  go_wp2_with fail
  go_quiet (fail)
  have ht5 : Tch (fun _ => False) wc (wc.drewN nq) := ⟨rfl, rfl, rfl, Nat.le_refl _, fun _ _ _ => rfl⟩
  have HF := Lib.hid (HF0.out.quiet ht5)
  replace c0 := tcell ht5 c0; replace c0' := tcell ht5 c0'; replace c1 := tcell ht5 c1; replace c1' := tcell ht5 c1'; replace c2 := tcell ht5 c2; replace c2' := tcell ht5 c2'
  replace d0 := tcell ht5 d0; replace d1 := tcell ht5 d1
  clear HF0 ht5 c3 w2
  generalize World.drewN wc nq = w5 at *
  go_wp2_with fail
  have aL := HF.out.1.mid
  have hsl : Sl (w5.drew.alloc (.cells #[.string m.1, .int .i64 m.2] 67)) 67 2 l.pv l.pb l.ps.length (encPs l.ps) := aL.2.1.drew.alloc _
  have hxx : Blk (w5.drew.alloc (.cells #[.string m.1, .int .i64 m.2] 67)) w5.heap.size [.string m.1, .int .i64 m.2] 67 := Blk.newLast _ _ rfl
  have hsx : Src Try.prog (w5.drew.alloc (.cells #[.string m.1, .int .i64 m.2] 67)) 2 (.slice (some ⟨w5.heap.size, 0, none⟩) 1 1) 1 [.string m.1, .int .i64 m.2] := srcP hxx rfl
  obtain ⟨v4, w4, bl4, hr4, hs4, ht4, hn4⟩ := Sl.append (P := Try.prog) (t := 59) (t' := 59) (ty := 59) Try.underlying59 Try.underlying59 info67 (by decide) rfl hsl hsx (srcP hxx.drew rfl) (by simp; exact ⟨rfl, rfl⟩) (by omega)
  obtain ⟨a4, n4, rfl, _⟩ := hs4.val
  have hb4 := ht4.get (show Blk (w5.drew.alloc (.cells #[.string m.1, .int .i64 m.2] 67)) l.b [l.pv, l.kv] 62 from (Tch.alloc (fun _ => False) w5.drew _).get (show Blk w5.drew l.b [l.pv, l.kv] 62 from aL.1) (fun h => h)) HF.out.1.parts.1
  have g0 := hb4.cell 0
  have g1 := hb4.frozen 0
  have HTA := Lib.hid (((Tch.drew (· ∈ l.pb) w5).trans (Tch.alloc _ _ (.cells #[.string m.1, .int .i64 m.2] 67)) (fun _ _ h => h)).trans ht4 (fun _ _ h => h))
  have ll5 : l.b < w5.heap.size := aL.1.lt
  rw [HLE.out] at hr4
  have R4 := Lib.hid hr4; have HS4 := Lib.hid hs4; have HN4 := Lib.hid hn4
  clear hr4 hs4 hn4 ht4 hb4 hsl hxx hsx aL
  go_cut [] from 134 to 183 (fun wr => ∃ v bl, From w [d, l, r] wr [d, { l with pv := v, pb := bl, ps := l.ps ++ [m] }, r])
  case first =>
    go_region_law (refine step_appendV rfl (.tmp 172) (.tmp 180) 59 59 59 rfl rfl (.slice la l.ps.length lc) (.slice (some ⟨w5.heap.size, 0, none⟩) 1 1) (by go_simp) (by go_simp) _ _ R4.out ?_)
    all_goals (
      go_wp2_with fail
      go_meet
      exact ⟨_, _, HF.out.pairs (ps := l.ps ++ [m]) (by rw [List.length_append, encPs_append]; exact HS4.out) HTA.out (fun y hy => (HN4.out y hy).imp id (fun h => by simp at h; omega))⟩)
  case rest =>
  obtain ⟨v1, bl1, hf⟩ := hcut
  have aD := hf.1.1 d (by simp)
  have aR := hf.1.1 r (by simp)
  obtain ⟨rq', rc', rsp, hre', _, hrb, _, _, _⟩ := aR.2.1.pos (by omega)
  have e1 := HRE.out.symm.trans hre'
  simp only [Value.slice.injEq, Option.some.injEq, Addr.mk.injEq] at e1
  obtain ⟨⟨rfl, _⟩, _, rfl⟩ := e1
  obtain ⟨pq, pcc, psp', hpe', _, hpb, _, _, _⟩ := aD.2.1.pos (by omega)
  have e2 := HPE.out.symm.trans hpe'
  simp only [Value.slice.injEq, Option.some.injEq, Addr.mk.injEq] at e2
  obtain ⟨⟨rfl, _⟩, _, rfl⟩ := e2
  have hrx : r.ps[0]? = some x := by rw [HR.out]; simp
  have g0 : wc.cell? ⟨d.b, 0, none⟩ = some (.slice (some ⟨pa, 0, none⟩) d.ps.length pc) := by rw [← hpe']; exact aD.1.cell 0
  have g1 : wc.cell? ⟨r.b, 0, none⟩ = some (.slice (some ⟨rq, 0, none⟩) r.ps.length rc) := by rw [← hre']; exact aR.1.cell 0
  have g2 : wc.cell? ⟨rq, 0, none⟩ = some (.string x.1) := (hrb.cell 0).trans (encPs_get hrx rsp).1
  have g3 : wc.cell? ⟨rq, 1, none⟩ = some (.int .i64 x.2) := (hrb.cell 1).trans (encPs_get hrx rsp).2
  have g4 : wc.cell? ⟨pa, i * 2, none⟩ = some (.string m.1) := (hpb.cell _).trans (encPs_get (by rw [HD.out, List.getElem?_append_right (by have := HA.out; omega), HA.out]; simp) psp').1
  have g5 : wc.cell? ⟨pa, i * 2 + 1, none⟩ = some (.int .i64 m.2) := (hpb.cell _).trans (encPs_get (by rw [HD.out, List.getElem?_append_right (by have := HA.out; omega), HA.out]; simp) psp').2
  have g6 : wc.frozen? ⟨pa, i * 2, none⟩ = false := hpb.frozen _
  have g7 : wc.frozen? ⟨pa, i * 2 + 1, none⟩ = false := hpb.frozen _
  have q9 : (0 : Int) < (r.ps.length : Int) := by omega
  have HF1 := Lib.hid hf
  clear hf aD aR hrb hpb hre' hpe' hrx c0 c0' c1 c1' c2 c2' d0 d1 R4 HS4 HN4 HTA HF
  go_wp2_with fail
  go_cut [] from 184 to 195 (fun wr => ∃ v bl, From w [d, l, r] wr [{ d with ps := d.ps.set i x }, { l with pv := v, pb := bl, ps := l.ps ++ [m] }, r])
  case first =>
    have hsp := Lib.hid (Sl.setp (i := i) (HPE.out ▸ (HF1.out.1.1 d (by simp)).2.1) q5n x)
    go_region
    all_goals (
      go_wp2_with fail
      go_meet
      exact ⟨v1, bl1, (From.inplace (A := []) (n := d) HF1.out (by rw [HPE.out]; exact hsp.out.1) hsp.out.2).quiet (Tch.drew _ _)⟩)
  case rest =>
  obtain ⟨v2, bl2, hf⟩ := hcut
  have aR := hf.1.1 r (by simp)
  have hparts := Nds.parts (A := [{ d with ps := d.ps.set i x }, { l with pv := v2, pb := bl2, ps := l.ps ++ [m] }]) (n := r) (C := []) hf.1
  have hdel := delP_any aR.2.1 (by omega) 0 (by omega) (encPs_one r.ps)
  rw [HRE.out, show (((0 : Nat) : Int) + 1) = 1 from rfl, show ((0 : Nat) : Int) = 0 from rfl] at hdel
  have g1 : wc.cell? ⟨r.b, 0, none⟩ = some (.slice (some ⟨rq, 0, none⟩) r.ps.length rc) := by rw [← HRE.out]; exact aR.1.cell 0
  have HDL := Lib.hid hdel; have HF2 := Lib.hid hf; have HBR := Lib.hid aR.1; have HNP := Lib.hid hparts.1
  clear hdel hf aR hparts g0 g2 g3 g4 g5 g6 g7 HF1
  go_wp2_with fail
  refine HDL.out.mono ?_
  rintro e w6 ⟨v6, bl6, rfl, hs6, ht6, hn6⟩
  obtain ⟨a6, n6, rfl, _⟩ := hs6.val
  have hb6 := ht6.get HBR.out HNP.out
  have f0 : w6.cell? ⟨r.b, 0, none⟩ = some r.pv := hb6.cell 0
  have f1 : w6.frozen? ⟨r.b, 0, none⟩ = false := hb6.frozen 0
  have hlr : r.ps.length - 1 = rps.length := by rw [HR.out]; simp
  have HFR := Lib.hid (From.pairs (A := [{ d with ps := d.ps.set i x }, { l with pv := v2, pb := bl2, ps := l.ps ++ [m] }]) (C := []) (n := r) HF2.out (w1 := w6) (ps := rps) (by
    have := hs6
    rw [HR.out, encPs_cons] at this
    simpa using this) ht6 hn6)
  clear hs6 ht6 hn6 hb6 g1
  go_wp2_with fail
  generalize w6.setCell _ _ = w7 at *
  have aR7 := HFR.out.1.1 { r with pv := .slice a6 rps.length n6, pb := bl6, ps := rps } (by simp)
  obtain ⟨ka, kc, hke, _⟩ := aR7.2.2.val
  have hbl : Blk w7 r.b [.slice a6 rps.length n6, .slice ka r.ptrs.length kc] 62 := by rw [← hke]; exact aR7.1
  have HBL := Lib.hid hbl; have HKE := Lib.hid hke
  clear hbl aR7 hke f0 f1 hlr HDL HBR HNP HF2
  refine (leaf_any _ _ _ _ _ _ HBL.out).mono ?_
  rintro e w8 ⟨rfl, rfl⟩
  have hset : Hid (d.ps.set i x = A ++ x :: C) := by
    show d.ps.set i x = _
    rw [HD.out, List.set_append_right _ _ (by have := HA.out; omega), HA.out]; simp
  rcases HK.out with hk0 | ⟨c, rk, hk1⟩
  · have hz : ((r.ptrs.length : Int) == 0) = true := by rw [hk0]; rfl
    have hfin : Hid (FillRight w d l r A C m x rps (.returned (.tuple #[])) w7) :=
      ⟨⟨_, rfl⟩, _, _, _, HFR.out, rfl, rfl, rfl, hset.out, rfl, rfl, rfl, .inl ⟨hk0, hk0, rfl⟩⟩
    clear hk0
    go_wp2_with fail
    refine bodyPost_ret (results_none rfl _ _ _) rfl ?_
    exact hfin.out
  · have hpl : r.ptrs.length = rk.length + 1 := by rw [hk1]; simp
    have hz : ((r.ptrs.length : Int) == 0) = false := by rw [hk1]; simp; omega
    have hrc : r.ptrs[0]? = some c := by rw [hk1]; rfl
    have aR7 := HFR.out.1.1 { r with pv := .slice a6 rps.length n6, pb := bl6, ps := rps } (by simp)
    have aL7 := HFR.out.1.1 { l with pv := v2, pb := bl2, ps := l.ps ++ [m] } (by simp)
    obtain ⟨rkq, rkc, rksp, hrke, _, hrkb, _, _, hrkn⟩ := aR7.2.2.pos (by show 0 < r.ptrs.length; omega)
    obtain ⟨lka, lkc, hlke, _⟩ := aL7.2.2.val
    have g1 : w7.cell? ⟨r.b, 1, none⟩ = some (.slice (some ⟨rkq, 0, none⟩) r.ptrs.length rkc) := by rw [← hrke]; exact aR7.1.cell 1
    have g2 : w7.cell? ⟨rkq, 0, none⟩ = some (.pointer (some ⟨c, 0, none⟩)) := (hrkb.cell 0).trans (encKs_get hrc rksp)
    have g3 : w7.cell? ⟨l.b, 1, none⟩ = some (.slice lka l.ptrs.length lkc) := by rw [← hlke]; exact aL7.1.cell 1
    have q20 : 0 < r.ptrs.length := by omega
    have hsl : Sl (w7.drew.alloc (.cells #[.pointer (some ⟨c, 0, none⟩)] 58)) 58 1 l.kv l.kb l.ptrs.length (encKs l.ptrs) := aL7.2.2.drew.alloc _
    have hxx : Blk (w7.drew.alloc (.cells #[.pointer (some ⟨c, 0, none⟩)] 58)) w7.heap.size [.pointer (some ⟨c, 0, none⟩)] 58 := Blk.newLast _ _ rfl
    have hsx : Src Try.prog (w7.drew.alloc (.cells #[.pointer (some ⟨c, 0, none⟩)] 58)) 1 (.slice (some ⟨w7.heap.size, 0, none⟩) 1 1) 1 [.pointer (some ⟨c, 0, none⟩)] := srcN hxx rfl
    obtain ⟨v8, w8, bl8, hr8, hs8, ht8, hn8⟩ := Sl.append (P := Try.prog) (t := 60) (t' := 60) (ty := 60) Try.underlying60 Try.underlying60 info58 (by decide) rfl hsl hsx (srcN hxx.drew rfl) (by simp; rfl) (by omega)
    obtain ⟨a8, n8, rfl, _⟩ := hs8.val
    have hp2 := Nds.parts (A := [{ d with ps := d.ps.set i x }]) (n := { l with pv := v2, pb := bl2, ps := l.ps ++ [m] }) (C := [{ r with pv := .slice a6 rps.length n6, pb := bl6, ps := rps }]) HFR.out.1
    have hb8 := ht8.get (show Blk (w7.drew.alloc (.cells #[.pointer (some ⟨c, 0, none⟩)] 58)) l.b [v2, l.kv] 62 from (Tch.alloc (fun _ => False) w7.drew _).get (show Blk w7.drew l.b [v2, l.kv] 62 from aL7.1) (fun h => h)) hp2.2.1
    have g8 := hb8.cell 1
    have g9 := hb8.frozen 1
    have HTA := Lib.hid (((Tch.drew (· ∈ l.kb) w7).trans (Tch.alloc _ _ (.cells #[.pointer (some ⟨c, 0, none⟩)] 58)) (fun _ _ h => h)).trans ht8 (fun _ _ h => h))
    have ll7 : l.b < w7.heap.size := aL7.1.lt
    have lr7 : r.b < w7.heap.size := aR7.1.lt
    have lk7 : rkq < w7.heap.size := hrkb.lt
    rw [hlke] at hr8
    have R8 := Lib.hid hr8; have HS8 := Lib.hid hs8; have HN8 := Lib.hid hn8; have HPL := Lib.hid hpl; have HK1 := Lib.hid hk1; have HRKE := Lib.hid hrke
    clear hr8 hs8 hn8 ht8 hb8 hsx hsl hxx aL7 aR7 hp2 hpl hk1 hrc hrkb hrke hlke
    go_wp2_with fail
    go_cut [] from 196 to 221 (fun wr => ∃ v bl, From w [d, l, r] wr [{ d with ps := d.ps.set i x }, { l with pv := v2, pb := bl2, ps := l.ps ++ [m], kv := v, kb := bl, ptrs := l.ptrs ++ [c] }, { r with pv := .slice a6 rps.length n6, pb := bl6, ps := rps }])
    case first =>
      go_region_law (refine step_appendV rfl (.tmp 211) (.tmp 218) 60 60 60 rfl rfl (.slice lka l.ptrs.length lkc) (.slice (some ⟨w7.heap.size, 0, none⟩) 1 1) (by go_simp) (by go_simp) _ _ R8.out ?_)
      all_goals (
        go_wp2_with fail
        go_meet
        exact ⟨_, _, From.kids (A := [{ d with ps := d.ps.set i x }]) (n := { l with pv := v2, pb := bl2, ps := l.ps ++ [m] }) (C := [{ r with pv := .slice a6 rps.length n6, pb := bl6, ps := rps }]) HFR.out (ptrs := l.ptrs ++ [c]) (by rw [List.length_append]; have := HS8.out; simpa [encKs] using this) HTA.out (fun y hy => (HN8.out y hy).imp id (fun h => by simp at h; omega))⟩)
    case rest =>
      obtain ⟨v3, bl3, hf⟩ := hcut
      have aR := hf.1.1 { r with pv := .slice a6 rps.length n6, pb := bl6, ps := rps } (by simp)
      have hparts := Nds.parts (A := [{ d with ps := d.ps.set i x }, { l with pv := v2, pb := bl2, ps := l.ps ++ [m], kv := v3, kb := bl3, ptrs := l.ptrs ++ [c] }]) (n := { r with pv := .slice a6 rps.length n6, pb := bl6, ps := rps }) (C := []) hf.1
      have hdel := delN_any aR.2.2 hrl 0 (by show 0 < r.ptrs.length; omega) (encKs_one r.ptrs)
      rw [HRKE.out, show (((0 : Nat) : Int) + 1) = 1 from rfl, show ((0 : Nat) : Int) = 0 from rfl] at hdel
      have g1 : wc.cell? ⟨r.b, 1, none⟩ = some (.slice (some ⟨rkq, 0, none⟩) r.ptrs.length rkc) := by rw [← HRKE.out]; exact aR.1.cell 1
      have HDL := Lib.hid hdel; have HF2 := Lib.hid hf; have HBR := Lib.hid aR.1; have HNP := Lib.hid hparts.2.1
      clear hdel hf aR hparts g2 g3 g8 g9 R8 HS8 HN8 HTA
      go_wp2_with fail
      refine HDL.out.mono ?_
      rintro e w9 ⟨v9, bl9, rfl, hs9, ht9, hn9⟩
      obtain ⟨a9, n9, rfl, _⟩ := hs9.val
      have hb9 := ht9.get HBR.out HNP.out
      have f0 : w9.cell? ⟨r.b, 1, none⟩ = some r.kv := hb9.cell 1
      have f1 : w9.frozen? ⟨r.b, 1, none⟩ = false := hb9.frozen 1
      have hlr : r.ptrs.length - 1 = rk.length := by rw [HK1.out]; simp
      have hfin : Hid (FillRight w d l r A C m x rps (.returned (.tuple #[])) (w9.setCell ⟨r.b, 1, none⟩ (.slice a9 rk.length n9))) := by
        have hfr := From.kids (A := [{ d with ps := d.ps.set i x }, { l with pv := v2, pb := bl2, ps := l.ps ++ [m], kv := v3, kb := bl3, ptrs := l.ptrs ++ [c] }]) (C := []) (n := { r with pv := .slice a6 rps.length n6, pb := bl6, ps := rps }) HF2.out (w1 := w9) (ptrs := rk) (by
          have := hs9
          rw [HK1.out] at this
          simpa [encKs] using this) ht9 hn9
        exact ⟨⟨_, rfl⟩, _, _, _, hfr, rfl, rfl, rfl, hset.out, rfl, rfl, rfl, .inr ⟨c, rk, HK1.out, rfl, rfl⟩⟩
      clear hs9 ht9 hn9 hb9 g1
      go_wp2_with fail
      refine bodyPost_ret (results_none rfl _ _ _) rfl ?_
      exact hfin.out
end Go.Proofs.Ytkhjhcbmefahkaa
