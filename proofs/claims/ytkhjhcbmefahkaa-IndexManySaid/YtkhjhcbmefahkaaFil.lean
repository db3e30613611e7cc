/-
  fill: a node's child that has one too few gets a pair of a neighbour, or is made one with it.
-/
import Derived.BigQuiet
import Derived.Deep.QuietTactic
import Derived.Deep.RegionWith
import Derived.Deep.Cut
import Derived.Deep.CutRange
import Derived.Test.YtkhjhcbmefahkaaNds
namespace Go.Proofs.Ytkhjhcbmefahkaa
open Go.RowKit Go.Mm Go.Lst

/-- nodes that have come of others: nothing else has turned -/
def From (w0 : World) (ns0 : List NR) (w : World) (ns : List NR) : Prop :=
  Nds w ns ∧ Tch (· ∈ ns0.flatMap NR.bs) w0 w ∧ ∀ y ∈ ns.flatMap NR.bs, y ∈ ns0.flatMap NR.bs ∨ w0.heap.size ≤ y

section
variable {w0 w w1 : World} {ns0 A C : List NR} {n : NR}
theorem From.refl {ns : List NR} (h : Nds w ns) : From w ns w ns := ⟨h, Tch.refl _ _, fun _ hy => .inl hy⟩
theorem From.quiet {ns : List NR} (h : From w0 ns0 w ns) (ht : Tch (fun _ => False) w w1) : From w0 ns0 w1 ns := ⟨h.1.tch ht, h.2.1.trans ht (fun _ _ h => h.elim), h.2.2⟩
theorem From.old (h : From w0 ns0 w (A ++ n :: C)) {y : Nat} (hy : y ∈ n.bs) : y ∈ ns0.flatMap NR.bs ∨ w0.heap.size ≤ y := h.2.2 y (by
  rw [List.flatMap_append, List.flatMap_cons]; simp [hy])
theorem From.step {n' : NR} {S : Nat → Prop} (h : From w0 ns0 w (A ++ n :: C)) (hN : Nds w1 (A ++ n' :: C)) (ht : Tch S w w1) (hS : ∀ y, S y → y ∈ n.bs) (hs : ∀ y ∈ n'.bs, y ∈ n.bs ∨ w.heap.size ≤ y) : From w0 ns0 w1 (A ++ n' :: C) := by
  refine ⟨hN, h.2.1.trans ht (fun k hk hs' => ?_), fun y hy => ?_⟩
  · rcases h.old (hS k hs') with h' | h'
    · exact h'
    · omega
  · rw [List.flatMap_append, List.flatMap_cons] at hy
    rcases List.mem_append.1 hy with hy | hy
    · exact h.2.2 y (by rw [List.flatMap_append]; exact List.mem_append.2 (.inl hy))
    · rcases List.mem_append.1 hy with hy | hy
      · rcases hs y hy with h' | h'
        · exact h.old h'
        · exact .inr (Nat.le_trans h.2.1.size h')
      · exact h.2.2 y (by rw [List.flatMap_append, List.flatMap_cons]; simp only [List.mem_append]; exact .inr (.inr hy))
theorem From.pairs (h : From w0 ns0 w (A ++ n :: C)) {v : Value} {bl : List Nat} {ps : List Pair} (hs : Sl w1 67 2 v bl ps.length (encPs ps)) (ht : Tch (· ∈ n.pb) w w1) (hb : ∀ y ∈ bl, y ∈ n.pb ∨ w.heap.size ≤ y) :
    From w0 ns0 (w1.setCell ⟨n.b, 0, none⟩ v) (A ++ { n with pv := v, pb := bl, ps := ps } :: C) := by
  obtain ⟨h1, h2⟩ := h.1.pairs hs ht hb
  refine h.step h1 h2 (fun y hy => by simp only [NR.bs, List.mem_cons, List.mem_append]; exact hy.imp id .inl) (fun y hy => ?_)
  simp only [NR.bs, List.mem_cons, List.mem_append] at hy ⊢
  rcases hy with rfl | hy | hy
  · exact .inl (.inl rfl)
  · exact (hb y hy).imp (fun h => .inr (.inl h)) id
  · exact .inl (.inr (.inr hy))
theorem From.kids (h : From w0 ns0 w (A ++ n :: C)) {v : Value} {bl : List Nat} {ptrs : List Nat} (hs : Sl w1 58 1 v bl ptrs.length (encKs ptrs)) (ht : Tch (· ∈ n.kb) w w1) (hb : ∀ y ∈ bl, y ∈ n.kb ∨ w.heap.size ≤ y) :
    From w0 ns0 (w1.setCell ⟨n.b, 1, none⟩ v) (A ++ { n with kv := v, kb := bl, ptrs := ptrs } :: C) := by
  obtain ⟨h1, h2⟩ := h.1.kids hs ht hb
  refine h.step h1 h2 (fun y hy => by simp only [NR.bs, List.mem_cons, List.mem_append]; exact hy.imp id .inr) (fun y hy => ?_)
  simp only [NR.bs, List.mem_cons, List.mem_append] at hy ⊢
  rcases hy with rfl | hy | hy
  · exact .inl (.inl rfl)
  · exact .inl (.inr (.inl hy))
  · exact (hb y hy).imp (fun h => .inr (.inr h)) id
theorem From.inplace (h : From w0 ns0 w (A ++ n :: C)) {ps : List Pair} (hs : Sl w1 67 2 n.pv n.pb ps.length (encPs ps)) (ht : Tch (· ∈ n.pb) w w1) : From w0 ns0 w1 (A ++ { n with ps := ps } :: C) :=
  h.step (h.1.inplace hs ht) ht (fun y hy => by simp [NR.bs, hy]) (fun y hy => .inl hy)
end

theorem tcell {w w' : World} (h : Tch (fun _ => False) w w') {p : Addr} {v : Value} (hc : w.cell? p = some v) : w'.cell? p = some v := by
  have hb : p.block < w.heap.size := by
    apply Classical.byContradiction
    intro hn
    simp [World.cell?, Array.getElem?_eq_none (show w.heap.size ≤ p.block by omega)] at hc
  exact (World.cell?_of_block (h.block p.block hb (fun e => e))).trans hc

/-- a child that has enough -/
def FillSame (w : World) (e : Ending) (w' : World) : Prop := (∃ v, e = .returned v) ∧ Tch (fun _ => False) w w'

set_option maxRecDepth 100000 in
set_option maxHeartbeats 2000000 in
theorem fill_enough {w : World} {xb least : Nat} {o1 o2 o3 : Value} (hx : Blk w xb [o1, .int .i64 least, o2, o3] 64) {d k : NR} (hd : d.At w) (hk : k.At w) {i : Nat} (hi : d.ptrs[i]? = some k.b) (hl : least ≤ k.ps.length) :
    Calls Try.prog 45 #[.pointer (some ⟨xb, 0, none⟩), .pointer (some ⟨d.b, 0, none⟩), .int .i64 i] w (FillSame w) := by
  obtain ⟨hd1, hd2, hd3⟩ := hd
  obtain ⟨hk1, hk2, hk3⟩ := hk
  have hil := (List.getElem?_eq_some_iff.1 hi).1
  obtain ⟨q, qc, sp, hqe, _, hqb, _, _, _⟩ := hd3.pos (by omega)
  obtain ⟨pa, pc, hpe, _⟩ := hk2.val
  have c0 : w.cell? ⟨d.b, 1, none⟩ = some (.slice (some ⟨q, 0, none⟩) d.ptrs.length qc) := by rw [← hqe]; exact hd1.cell 1
  have c1 : w.cell? ⟨q, i, none⟩ = some (.pointer (some ⟨k.b, 0, none⟩)) := (hqb.cell i).trans (encKs_get hi sp)
  have c2 : w.cell? ⟨k.b, 0, none⟩ = some (.slice pa k.ps.length pc) := by rw [← hpe]; exact hk1.cell 0
  have c3 : w.cell? ⟨xb, 1, none⟩ = some (.int .i64 least) := hx.cell 1
  have q0 : (0 : Int) ≤ (i : Int) := by omega
  have q1 : (i : Int) < (d.ptrs.length : Int) := by omega
  have q2 : decide ((k.ps.length : Int) < (least : Int)) = false := by simp; omega
  have q3 : decide ((least : Int) ≤ (k.ps.length : Int)) = true := by simp; omega
  have hfin : Hid (∀ m, FillSame w (.returned (.tuple #[])) (w.drewN m)) := fun m => ⟨⟨_, rfl⟩, ⟨rfl, rfl, rfl, Nat.le_refl _, fun _ _ _ => rfl⟩⟩
  clear hd1 hd2 hd3 hk1 hk2 hk3 hqe hqb hpe hx hi hil q2 q3
  go_enter Try.func45, Try.ntmps45
  go_wp2_with fail
  go_quiet (fail)
  go_wp2_with fail
  refine bodyPost_ret (results_none rfl _ _ _) rfl ?_
  exact hfin.out _

/-- a pair of the left neighbour goes up, the pair above it comes down -/
def FillLeft (w : World) (d l r : NR) (A C : List Pair) (m x : Pair) (lps : List Pair) (e : Ending) (w' : World) : Prop :=
  (∃ v, e = .returned v) ∧ ∃ d' l' r', From w [d, l, r] w' [d', l', r'] ∧ d'.b = d.b ∧ l'.b = l.b ∧ r'.b = r.b ∧ d'.ps = A ++ x :: C ∧ d'.ptrs = d.ptrs ∧ l'.ps = lps ∧ r'.ps = m :: r.ps ∧
    ((l.ptrs = [] ∧ l'.ptrs = [] ∧ r'.ptrs = r.ptrs) ∨ ∃ lk c, l.ptrs = lk ++ [c] ∧ l'.ptrs = lk ∧ r'.ptrs = c :: r.ptrs)

def CutR (w : World) (d l r : NR) (m : Pair) (wr : World) : Prop := ∃ v bl, From w [d, l, r] wr ([d, l] ++ { r with pv := v, pb := bl, ps := m :: r.ps } :: [])

set_option maxRecDepth 100000 in
set_option maxHeartbeats 4000000 in
theorem fill_left {w : World} {xb least : Nat} {o1 o2 o3 : Value} (hx : Blk w xb [o1, .int .i64 least, o2, o3] 64) {d l r : NR} (hN : Nds w [d, l, r]) {i : Nat} (hil : d.ptrs[i]? = some l.b) (hir : d.ptrs[i + 1]? = some r.b)
    {A C lps : List Pair} {m x : Pair} (hA : A.length = i) (hd : d.ps = A ++ m :: C) (hl : l.ps = lps ++ [x]) (h1 : r.ps.length < least) (h2 : least < l.ps.length) (hs1 : d.ps.length ≤ 1000) (hs2 : l.ps.length ≤ 1000) (hrl : r.ptrs.length ≤ 1000000)
    (hk : l.ptrs = [] ∨ ∃ lk c, l.ptrs = lk ++ [c] ∧ lk.length = l.ps.length) :
    Calls Try.prog 45 #[.pointer (some ⟨xb, 0, none⟩), .pointer (some ⟨d.b, 0, none⟩), .int .i64 ((i : Int) + 1)] w (FillLeft w d l r A C m x lps) := by
  have aD := hN.1 d (by simp)
  have aL := hN.1 l (by simp)
  have aR := hN.1 r (by simp)
  have hi1 := (List.getElem?_eq_some_iff.1 hir).1
  obtain ⟨q, qc, sp, hqe, _, hqb, _, _, _⟩ := aD.2.2.pos (by omega)
  obtain ⟨pa, pc, psp, hpe, _, hpb, _, _, _⟩ := aD.2.1.pos (by rw [hd, List.length_append, List.length_cons]; omega)
  obtain ⟨la, lc, hle, _⟩ := aL.2.1.val
  obtain ⟨ra, rc, hre, _⟩ := aR.2.1.val
  have c0 : w.cell? ⟨d.b, 1, none⟩ = some (.slice (some ⟨q, 0, none⟩) d.ptrs.length qc) := by rw [← hqe]; exact aD.1.cell 1
  have c0' : w.cell? ⟨d.b, 0, none⟩ = some (.slice (some ⟨pa, 0, none⟩) d.ps.length pc) := by rw [← hpe]; exact aD.1.cell 0
  have c1 : w.cell? ⟨q, i + 1, none⟩ = some (.pointer (some ⟨r.b, 0, none⟩)) := (hqb.cell (i + 1)).trans (encKs_get hir sp)
  have c1' : w.cell? ⟨q, i, none⟩ = some (.pointer (some ⟨l.b, 0, none⟩)) := (hqb.cell i).trans (encKs_get hil sp)
  have c2 : w.cell? ⟨r.b, 0, none⟩ = some (.slice ra r.ps.length rc) := by rw [← hre]; exact aR.1.cell 0
  have c2' : w.cell? ⟨l.b, 0, none⟩ = some (.slice la l.ps.length lc) := by rw [← hle]; exact aL.1.cell 0
  have c3 : w.cell? ⟨xb, 1, none⟩ = some (.int .i64 least) := hx.cell 1
  have hdm : d.ps[i]? = some m := by rw [hd, List.getElem?_append_right (by omega), hA]; simp
  have d0 := (hpb.cell _).trans (encPs_get hdm psp).1
  have d1 := (hpb.cell _).trans (encPs_get hdm psp).2
  have q0 : (0 : Int) ≤ (i : Int) := by omega
  have q1 : (i : Int) < (d.ptrs.length : Int) := by omega
  have q2 : (i : Int) + 1 < (d.ptrs.length : Int) := by omega
  have q3 : (0 : Int) < (i : Int) + 1 := by omega
  have q4 : (i : Int) + 1 - 1 = (i : Int) := by omega
  have q5 : (i : Int) < (d.ps.length : Int) := by rw [hd, List.length_append, List.length_cons]; omega
  have q5n : i < d.ps.length := by omega
  have q6 : i ≤ 1000 := by rw [hd, List.length_append] at hs1; omega
  have hll : l.ps.length = lps.length + 1 := by rw [hl]; simp
  have w1 : IntKind.i64.wrap (i : Int) = (i : Int) := IntWalk.i64_in _ (by omega)
  have HN := Lib.hid hN; have HX := Lib.hid hx; have HK := Lib.hid hk; have HD := Lib.hid hd; have HL := Lib.hid hl; have HA := Lib.hid hA; have HIL := Lib.hid hil; have HIR := Lib.hid hir; have HRE := Lib.hid hre; have HLE := Lib.hid hle; have HPE := Lib.hid hpe; have HQE := Lib.hid hqe
  clear hN hx hk hd hl hA hil hir hdm hqb hpb hqe hpe hle hre aD aL aR
  go_enter Try.func45, Try.ntmps45
  go_wp2_with fail
  go_quiet (fail)
  go_wp2_with fail
  go_quiet (fail)
  generalize hw5 : World.drewN _ nq = w5 at *
  have ht5 : Tch (fun _ => False) w w5 := by rw [← hw5]; exact ⟨rfl, rfl, rfl, Nat.le_refl _, fun _ _ _ => rfl⟩
  have hF : From w [d, l, r] w5 ([d, l] ++ r :: []) := (From.refl HN.out).quiet ht5
  replace c0 := tcell ht5 c0; replace c0' := tcell ht5 c0'; replace c1 := tcell ht5 c1; replace c1' := tcell ht5 c1'; replace c2 := tcell ht5 c2; replace c2' := tcell ht5 c2'
  replace d0 := tcell ht5 d0; replace d1 := tcell ht5 d1
  have HF := Lib.hid hF
  clear hw5 ht5 hF c3
  go_wp2_with fail
  have aR := HF.out.1.mid
  have hps := HF.out.1.parts
  have hsl : Sl (w5.drew.alloc (.cells #[.string m.1, .int .i64 m.2] 67)) 67 2 r.pv r.pb r.ps.length (encPs r.ps) := aR.2.1.drew.alloc _
  have hxx : Blk (w5.drew.alloc (.cells #[.string m.1, .int .i64 m.2] 67)) w5.heap.size [.string m.1, .int .i64 m.2] 67 := Blk.newLast _ _ rfl
  have hxn : w5.heap.size ∉ r.pb := fun hy => by have := aR.2.1.lt _ hy; omega
  have hc36 := insP_any hsl (by omega) 0 (by omega) w5.heap.size 1 [.string m.1, .int .i64 m.2] hxx rfl (by simp; exact ⟨rfl, rfl⟩) (encPs_one r.ps) hxn
  rw [HRE.out, show ((0 : Nat) : Int) = 0 from rfl] at hc36
  have HC36 := Lib.hid hc36
  have HB36 := Lib.hid (show Blk (w5.drew.alloc (.cells #[.string m.1, .int .i64 m.2] 67)) r.b [r.pv, r.kv] 62 from (Tch.alloc (fun _ => False) w5.drew _).get (show Blk w5.drew r.b [r.pv, r.kv] 62 from aR.1) (fun h => h))
  have HBP := Lib.hid hps.1
  have lr : r.b < w5.heap.size := aR.1.lt
  have HTA := Lib.hid ((Tch.drew (· ∈ r.pb) w5).trans (Tch.alloc _ _ (.cells #[.string m.1, .int .i64 m.2] 67)) (fun _ _ h => h))
  clear hc36 hsl hxx hxn hps aR
  go_cut [] from 12 to 80 (fun wr => CutR w d l r m wr)
  case first =>
    go_region_with (go_at_call 36; refine HC36.out.mono ?_; rintro e w4 ⟨v4, bl4, rfl, hs4, ht4, hn4⟩; obtain ⟨a4, n4, rfl, _⟩ := hs4.val; have hb4 := ht4.get HB36.out HBP.out; have g0 := hb4.cell 0; have g1 := hb4.frozen 0; have HT4 := Lib.hid ht4; have HS4 := Lib.hid hs4; have HN4 := Lib.hid hn4; clear ht4 hs4 hn4 hb4)
    all_goals (
      go_wp2_with fail
      go_meet
      exact ⟨_, _, HF.out.pairs (ps := m :: r.ps) HS4.out (HTA.out.trans HT4.out (fun _ _ h => h)) (fun y hy => (HN4.out y hy).imp id (fun h => by simp at h; omega))⟩)
  case rest =>
    obtain ⟨v1, bl1, hf⟩ := hcut
    have aD := hf.1.1 d (by simp)
    have aL := hf.1.1 l (by simp)
    obtain ⟨lq, lcc, lsp, hle', _, hlb, _, _, _⟩ := aL.2.1.pos (by omega)
    have e1 := HLE.out.symm.trans hle'
    simp only [Value.slice.injEq] at e1
    obtain ⟨rfl, _, rfl⟩ := e1
    obtain ⟨pq, pcc, psp', hpe', _, hpb, _, _, _⟩ := aD.2.1.pos (by omega)
    have e2 := HPE.out.symm.trans hpe'
    simp only [Value.slice.injEq, Option.some.injEq, Addr.mk.injEq] at e2
    obtain ⟨⟨rfl, _⟩, _, rfl⟩ := e2
    have hlx : l.ps[lps.length]? = some x := by rw [HL.out]; simp
    have g0 : wc.cell? ⟨d.b, 0, none⟩ = some (.slice (some ⟨pa, 0, none⟩) d.ps.length pc) := by rw [← hpe']; exact aD.1.cell 0
    have g1 : wc.cell? ⟨l.b, 0, none⟩ = some (.slice (some ⟨lq, 0, none⟩) l.ps.length lc) := by rw [← hle']; exact aL.1.cell 0
    have g2 := (hlb.cell _).trans (encPs_get hlx lsp).1
    have g3 := (hlb.cell _).trans (encPs_get hlx lsp).2
    have g4 : wc.cell? ⟨pa, i * 2, none⟩ = some (.string m.1) := (hpb.cell _).trans (encPs_get (by rw [HD.out, List.getElem?_append_right (by have := HA.out; omega), HA.out]; simp) psp').1
    have g5 : wc.cell? ⟨pa, i * 2 + 1, none⟩ = some (.int .i64 m.2) := (hpb.cell _).trans (encPs_get (by rw [HD.out, List.getElem?_append_right (by have := HA.out; omega), HA.out]; simp) psp').2
    have g6 : wc.frozen? ⟨pa, i * 2, none⟩ = false := hpb.frozen _
    have g7 : wc.frozen? ⟨pa, i * 2 + 1, none⟩ = false := hpb.frozen _
    have q8 : (lps.length : Int) < (l.ps.length : Int) := by omega
    have q9 : (0 : Int) ≤ (lps.length : Int) := by omega
    have HF1 := Lib.hid hf
    clear hf aD aL hlb hpb hle' hpe' hlx c0 c0' c1 c1' c2 c2' d0 d1
    go_wp2_with fail
    go_cut [] from 81 to 94 (fun wr => ∃ v bl, From w [d, l, r] wr [{ d with ps := d.ps.set i x }, l, { r with pv := v, pb := bl, ps := m :: r.ps }])
    case first =>
      have hsp := Lib.hid (Sl.setp (i := i) (HPE.out ▸ (HF1.out.1.1 d (by simp)).2.1) q5n x)
      go_region
      all_goals (
        go_wp2_with fail
        go_meet
        exact ⟨v1, bl1, (From.inplace (A := []) (n := d) HF1.out (by rw [HPE.out]; exact hsp.out.1) hsp.out.2).quiet (Tch.drew _ _)⟩)
    case rest =>
      obtain ⟨v2, bl2, hf⟩ := hcut
      have aL := hf.1.1 l (by simp)
      obtain ⟨la2, lc2, hle2, hcut2⟩ := Sl.cutTo aL.2.1 (by omega) lps.length (by omega)
      have e3 := HLE.out.symm.trans hle2
      simp only [Value.slice.injEq] at e3
      obtain ⟨rfl, _, rfl⟩ := e3
      have g1 : wc.cell? ⟨l.b, 0, none⟩ = some (.slice (some ⟨lq, 0, none⟩) l.ps.length lc) := by rw [← hle2]; exact aL.1.cell 0
      have g2 : wc.frozen? ⟨l.b, 0, none⟩ = false := aL.1.frozen 0
      have hq8 : lps.length ≤ lc := by
        obtain ⟨_, _, _, he, _, _, _, _, hn⟩ := aL.2.1.pos (by omega)
        rw [HLE.out] at he
        simp only [Value.slice.injEq] at he
        omega
      have hfl : From w [d, l, r] (wc.setCell ⟨l.b, 0, none⟩ (.slice (some ⟨lq, 0, none⟩) lps.length lc)) ([{ d with ps := d.ps.set i x }] ++ { l with pv := .slice (some ⟨lq, 0, none⟩) lps.length lc, pb := l.pb, ps := lps } :: [{ r with pv := v2, pb := bl2, ps := m :: r.ps }]) :=
        From.pairs (A := [{ d with ps := d.ps.set i x }]) (n := l) (w1 := wc) hf (by rw [encPs_take, HL.out, List.take_left'  rfl] at hcut2; exact hcut2) (Tch.refl _ _) (fun y hy => .inl hy)
      have HFL := Lib.hid hfl; have HF2 := Lib.hid hf
      clear hf hfl aL hcut2 hle2
      go_wp2_with fail
      generalize wc.setCell _ _ = w7 at *
      have aL7 := HFL.out.1.mid
      have hkv := aL7.2.2.val
      obtain ⟨ka, kc, hke, _⟩ := hkv
      have hbl : Blk w7 l.b [.slice (some ⟨lq, 0, none⟩) lps.length lc, .slice ka l.ptrs.length kc] 62 := by rw [← hke]; exact aL7.1
      have HBL := Lib.hid hbl; have HKE := Lib.hid hke
      clear hbl aL7 hke g1 g2
      refine (leaf_any _ _ _ _ _ _ HBL.out).mono ?_
      rintro e w8 ⟨rfl, rfl⟩
      rcases HK.out with hk0 | ⟨lk, c, hk1, hk2⟩
      · have hz : ((l.ptrs.length : Int) == 0) = true := by rw [hk0]; rfl
        have hfin : Hid (FillLeft w d l r A C m x lps (.returned (.tuple #[])) w7) := by
          refine ⟨⟨_, rfl⟩, _, _, _, HFL.out, rfl, rfl, rfl, ?_, rfl, rfl, rfl, .inl ⟨hk0, hk0, rfl⟩⟩
          show d.ps.set i x = A ++ x :: C
          rw [HD.out, List.set_append_right _ _ (by have := HA.out; omega), HA.out]; simp
        clear hk0
        go_wp2_with fail
        refine bodyPost_ret (results_none rfl _ _ _) rfl ?_
        exact hfin.out
      · have hz : ((l.ptrs.length : Int) == 0) = false := by rw [hk1]; simp; omega
        have hpl : l.ptrs.length = lps.length + 2 := by rw [hk1, List.length_append, hk2, HL.out]; simp
        have hlc : l.ptrs[lps.length + 1]? = some c := by rw [hk1, List.getElem?_append_right (by rw [hk2, HL.out]; simp), hk2, HL.out]; simp
        have aL7 := HFL.out.1.mid
        have aR7 := HFL.out.1.1 { r with pv := v2, pb := bl2, ps := m :: r.ps } (by simp)
        obtain ⟨lkq, lkc, lksp, hlke, _, hlkb, _, _, hlkn⟩ := aL7.2.2.pos (show 0 < l.ptrs.length by omega)
        obtain ⟨rka, rkc, hrke, _⟩ := aR7.2.2.val
        have g1 : w7.cell? ⟨l.b, 1, none⟩ = some (.slice (some ⟨lkq, 0, none⟩) l.ptrs.length lkc) := by rw [← hlke]; exact aL7.1.cell 1
        have g2 : w7.cell? ⟨lkq, lps.length + 1, none⟩ = some (.pointer (some ⟨c, 0, none⟩)) := (hlkb.cell _).trans (encKs_get hlc lksp)
        have g3 : w7.cell? ⟨r.b, 1, none⟩ = some (.slice rka r.ptrs.length rkc) := by rw [← hrke]; exact aR7.1.cell 1
        have q9 : (lps.length : Int) + 1 < (l.ptrs.length : Int) := by omega
        have q10 : (0 : Int) ≤ (lps.length : Int) + 1 := by omega
        have q11 : ((lps.length : Int) + 1).toNat = lps.length + 1 := by omega
        have q12 : IntKind.i64.wrap ((lps.length : Int) + 1) = (lps.length : Int) + 1 := IntWalk.i64_in _ (by omega)
        have hps7 := HFL.out.1
        have hsl : Sl (w7.drew.alloc (.cells #[.pointer (some ⟨c, 0, none⟩)] 58)) 58 1 r.kv r.kb r.ptrs.length (encKs r.ptrs) := aR7.2.2.drew.alloc _
        have hxx : Blk (w7.drew.alloc (.cells #[.pointer (some ⟨c, 0, none⟩)] 58)) w7.heap.size [.pointer (some ⟨c, 0, none⟩)] 58 := Blk.newLast _ _ rfl
        have hxn : w7.heap.size ∉ r.kb := fun hy => by have := aR7.2.2.lt _ hy; omega
        have hc37 := insN_any hsl hrl 0 (by omega) w7.heap.size 1 [.pointer (some ⟨c, 0, none⟩)] hxx rfl (by simp; rfl) (encKs_one r.ptrs) hxn
        rw [hrke, show ((0 : Nat) : Int) = 0 from rfl] at hc37
        have HC37 := Lib.hid hc37
        have hrk : r.b ∉ r.kb := by
          have := (List.nodup_append.1 (show (([{ d with ps := d.ps.set i x }, { l with pv := .slice (some ⟨lq, 0, none⟩) lps.length lc, pb := l.pb, ps := lps }] : List NR).flatMap NR.bs ++ ({ r with pv := v2, pb := bl2, ps := m :: r.ps } : NR).bs).Nodup from by
            have := HFL.out.1.2
            simpa using this)).2.1
          simp only [NR.bs, List.nodup_cons, List.mem_append, not_or] at this
          exact this.1.2
        have HB37 := Lib.hid (show Blk (w7.drew.alloc (.cells #[.pointer (some ⟨c, 0, none⟩)] 58)) r.b [v2, r.kv] 62 from (Tch.alloc (fun _ => False) w7.drew _).get (show Blk w7.drew r.b [v2, r.kv] 62 from aR7.1) (fun h => h))
        have HRK := Lib.hid hrk
        have lr7 : r.b < w7.heap.size := aR7.1.lt
        have HTA7 := Lib.hid ((Tch.drew (· ∈ r.kb) w7).trans (Tch.alloc _ _ (.cells #[.pointer (some ⟨c, 0, none⟩)] 58)) (fun _ _ h => h))
        have HPL := Lib.hid hpl; have HK1 := Lib.hid hk1; have HLKE := Lib.hid hlke
        clear hpl hk1 hk2 hlc aL7 aR7 hlkb hrke hc37 hsl hxx hxn hrk hlke hps7
        go_wp2_with fail
        go_cut [] from 95 to 123 (fun wr => ∃ v3 bl3, From w [d, l, r] wr [{ d with ps := d.ps.set i x }, { l with pv := .slice (some ⟨lq, 0, none⟩) lps.length lc, pb := l.pb, ps := lps }, { r with pv := v2, pb := bl2, ps := m :: r.ps, kv := v3, kb := bl3, ptrs := c :: r.ptrs }])
        case first =>
          go_region_with (go_at_call 37; refine HC37.out.mono ?_; rintro e w4 ⟨v4, bl4, rfl, hs4, ht4, hn4⟩; obtain ⟨a4, n4, rfl, _⟩ := hs4.val; have hb4 := ht4.get HB37.out HRK.out; have g0 := hb4.cell 1; have g1 := hb4.frozen 1; have HT4 := Lib.hid ht4; have HS4 := Lib.hid hs4; have HN4 := Lib.hid hn4; clear ht4 hs4 hn4 hb4)
          all_goals (
            go_wp2_with fail
            go_meet
            exact ⟨_, _, From.kids (A := [{ d with ps := d.ps.set i x }, { l with pv := .slice (some ⟨lq, 0, none⟩) lps.length lc, pb := l.pb, ps := lps }]) (C := []) HFL.out (ptrs := c :: r.ptrs) HS4.out (HTA7.out.trans HT4.out (fun _ _ h => h)) (fun y hy => (HN4.out y hy).imp id (fun h => by simp at h; omega))⟩)
        case rest =>
          obtain ⟨v3, bl3, hf⟩ := hcut
          have hpl := HPL.out
          have aL := hf.1.1 { l with pv := .slice (some ⟨lq, 0, none⟩) lps.length lc, pb := l.pb, ps := lps } (by simp)
          obtain ⟨la4, lc4, hle4, hcut4⟩ := Sl.cutTo aL.2.2 (show 0 < l.ptrs.length by omega) (lps.length + 1) (show lps.length + 1 ≤ l.ptrs.length by omega)
          have e4 := HLKE.out.symm.trans hle4
          simp only [Value.slice.injEq] at e4
          obtain ⟨rfl, _, rfl⟩ := e4
          have g4 : wc.cell? ⟨l.b, 1, none⟩ = some (.slice (some ⟨lkq, 0, none⟩) l.ptrs.length lkc) := by rw [← hle4]; exact aL.1.cell 1
          have g5 : wc.frozen? ⟨l.b, 1, none⟩ = false := aL.1.frozen 1
          have hq8' : lps.length + 1 ≤ lkc := by omega
          have hkl : lk.length = lps.length + 1 := by have := congrArg List.length HK1.out; rw [hpl, List.length_append] at this; simp at this; omega
          have hfin : Hid (FillLeft w d l r A C m x lps (.returned (.tuple #[])) (wc.setCell ⟨l.b, 1, none⟩ (.slice (some ⟨lkq, 0, none⟩) (lps.length + 1) lkc))) := by
            rw [Nat.mul_one, HK1.out, encKs_take, List.take_left' hkl, ← hkl] at hcut4
            have hfl := From.kids (A := [{ d with ps := d.ps.set i x }]) (n := { l with pv := .slice (some ⟨lq, 0, none⟩) lps.length lc, pb := l.pb, ps := lps }) (w1 := wc) hf hcut4 (Tch.refl _ _) (fun y hy => .inl hy)
            rw [hkl] at hfl
            refine ⟨⟨_, rfl⟩, _, _, _, hfl, rfl, rfl, rfl, ?_, rfl, rfl, rfl, .inr ⟨lk, c, HK1.out, rfl, rfl⟩⟩
            show d.ps.set i x = A ++ x :: C
            rw [HD.out, List.set_append_right _ _ (by have := HA.out; omega), HA.out]; simp
          clear hf aL hcut4 hle4 hkl hpl
          go_wp2_with fail
          refine bodyPost_ret (results_none rfl _ _ _) rfl ?_
          exact hfin.out

end Go.Proofs.Ytkhjhcbmefahkaa
