/-
  Range of the index, seen from within: the walk over the tree, for every loop body that keeps the tree.
-/
import Derived.RangeFuncNested
import Derived.RangeFuncBound
import Derived.RangeFuncCalls
import Derived.RangeFuncLeaves
import Derived.RangeFuncBox
import Derived.Shelf.Abstract
import Derived.Shelf.RegionOpen
import Derived.WalkKit
import Derived.OwnWalkIn
import Derived.TacticsInMore
import Derived.LoopNIn
import Derived.LoopIn
import Derived.Maps.AppendAt
import Derived.Sort.QuietIn
import Derived.Test.YtkhjhcbmefahkaaIdx
namespace Go.Proofs.Ytkhjhcbmefahkaa
open Go.RowKit Go.Mm Go.Lst Go.Shelf

/-- those of a row that a range goes through -/
def inr (fr to : ByteArray) (p : Pair) : Bool := !decide (cmpB p.1 fr < 0) && (decide (to = ⟨#[]⟩) || decide (cmpB p.1 to < 0))
def rng (fr to : ByteArray) (L : List Pair) : List Pair := L.filter (inr fr to)
theorem rng_append (fr to : ByteArray) (A B : List Pair) : rng fr to (A ++ B) = rng fr to A ++ rng fr to B := List.filter_append ..
theorem rng_node (fr to : ByteArray) (X R : List Pair) (p : Pair) : rng fr to (X ++ p :: R) = rng fr to X ++ (rng fr to [p] ++ rng fr to R) := by
  rw [rng_append, show p :: R = [p] ++ R from rfl, rng_append]
/-- a pair that ends a range -/
def cut (to : ByteArray) (p : Pair) : Prop := to ≠ ⟨#[]⟩ ∧ ¬ cmpB p.1 to < 0
theorem rng_blw {fr to : ByteArray} {A : List Pair} (h : Blw A fr) : rng fr to A = [] := by
  unfold rng
  rw [List.filter_eq_nil_iff]
  intro p hp
  have := h p hp
  simp [inr, this]
theorem rng_cut {fr to : ByteArray} {A B : List Pair} {p : Pair} (hs : Srt (A ++ B)) (hp : p ∈ A) (hc : cut to p) : rng fr to B = [] := by
  unfold rng
  rw [List.filter_eq_nil_iff]
  intro q hq
  have h1 := (Srt.append.1 hs).2.2 p hp q hq
  have h2 : ¬ cmpB q.1 to < 0 := fun h => hc.2 (cmp_trans h1 h)
  simp [inr, h2, hc.1]
theorem rng_one_cut {fr to : ByteArray} {p : Pair} (hc : cut to p) : rng fr to [p] = [] := by
  simp [rng, inr, hc.1, hc.2]
theorem rng_one {fr to : ByteArray} {p : Pair} (hf : ¬ cmpB p.1 fr < 0) (hc : ¬ cut to p) : rng fr to [p] = [p] := by
  have : to = ⟨#[]⟩ ∨ cmpB p.1 to < 0 := by
    by_cases h : to = ⟨#[]⟩
    · exact .inl h
    · exact .inr (Classical.not_not.1 (fun h2 => hc ⟨h, h2⟩))
  rcases this with h | h <;> simp [rng, inr, hf, h]

/-- the blocks that a round of the loop may touch: those that are no cells, and cells of the types in S -/
def Soft (S : List TypeId) (w : World) (k : Nat) : Prop := ¬ ∃ cs t fz, w.heap[k]? = some (.cells cs t fz) ∧ t ∉ S
def Kp (S : List TypeId) (w w' : World) : Prop := Tch (Soft S w) w w'
theorem Blk.hard {S : List TypeId} {w : World} {b : Nat} {L : List Value} {T : TypeId} (h : Blk w b L T) (hT : T ∉ S) : ¬ Soft S w b := fun hn => hn ⟨_, _, _, h, hT⟩
theorem Sl.hard {S : List TypeId} {w : World} {T k : Nat} {v : Value} {bl : List Nat} {n : Nat} {L : List Value} (h : Sl w T k v bl n L) (hT : T ∉ S) : ∀ y ∈ bl, ¬ Soft S w y := by
  rcases h with ⟨_, rfl, _, _⟩ | ⟨b, cap, sp, _, rfl, hb, _⟩
  · simp
  · intro y hy; simp at hy; subst hy; exact Blk.hard hb hT
theorem Kp.refl (S : List TypeId) (w : World) : Kp S w w := Tch.refl _ _
theorem Kp.trans {S : List TypeId} {a b c : World} (h : Kp S a b) (h' : Kp S b c) : Kp S a c := by
  refine Tch.trans h h' (fun k hk hs => ?_)
  by_cases hn : Soft S a k
  · exact hn
  · refine absurd hs (fun hs' => ?_)
    have e := h.block k hk hn
    apply hn
    rintro ⟨cs, t, fz, h1, h2⟩
    exact hs' ⟨cs, t, fz, e.trans h1, h2⟩
theorem Kp.of_tch {S : List TypeId} {a b : World} (h : Tch (fun _ => False) a b) : Kp S a b := h.mono (fun _ _ f => f.elim)
theorem Kp.blk {S : List TypeId} {w w' : World} (h : Kp S w w') {b : Nat} {L : List Value} {T : TypeId} (hb : Blk w b L T) (hT : T ∉ S) : Blk w' b L T := Tch.get h hb (Blk.hard hb hT)
theorem Kp.sl {S : List TypeId} {w w' : World} (h : Kp S w w') {T k : Nat} {v : Value} {bl : List Nat} {n : Nat} {L : List Value} (hb : Sl w T k v bl n L) (hT : T ∉ S) : Sl w' T k v bl n L := Sl.tch hb h (Sl.hard hb hT)
theorem Kp.putObj {S : List TypeId} (W : World) (l : Nat) (o o' : Obj) (h : W.heap[l]? = some o) (hc : o.isCells = false) : Kp S W (W.putObj l o') := by
  refine ⟨rfl, rfl, rfl, by simp [World.putObj], fun k hk hn => World.putObj_heap_other (fun e => hn ?_)⟩
  subst e
  rintro ⟨cs, t, fz, h1, _⟩
  rw [h] at h1; cases h1; cases hc
theorem grown_of_tch {a b : World} (h : Tch (fun _ => False) a b) : a.grownBy b none := ⟨h.os, h.tape, h.output, h.size, fun k hk _ => h.block k hk (fun e => e)⟩


attribute [local go_sem] Oper.semAt_some
theorem wide_fn (f : FuncId) : Fence.wide.fn f = True := rfl
theorem wide_depth : Fence.wide.depth = none := rfl
attribute [local go_sem] wide_fn wide_depth

/-- what a walk from a node leaves: all that lies within the range has come (and the walk goes on, or has met the range's end), or a round has said 'no more' -/
def WalkPost (S : List TypeId) (J Jx : List Pair → World → Prop) (fr to : ByteArray) (L pre : List Pair) (w : World) (e : Ending) (w' : World) : Prop :=
  (e = .returned (.bool true) ∧ J (pre ++ rng fr to L) w' ∧ Kp S w w') ∨
  (e = .returned (.bool false) ∧ J (pre ++ rng fr to L) w' ∧ Kp S w w' ∧ ∃ p ∈ L, cut to p) ∨
  (e = .returned (.bool false) ∧ ∃ q, q <+: rng fr to L ∧ Jx (pre ++ q) w')

/-- the walk's function -/
def walkV (bf bw bt by_ : Nat) : Value := .func (.func 35) #[] #[.pointer (some ⟨bf, 0, none⟩), .pointer (some ⟨bw, 0, none⟩), .pointer (some ⟨bt, 0, none⟩), .pointer (some ⟨by_, 0, none⟩)]

structure Boxes (wd : World) (l : Nat) (fr to : ByteArray) (bf bw bt by_ : Nat) : Prop where
  f : Blk wd bf [.string fr] 9
  wk : Blk wd bw [walkV bf bw bt by_] 73
  t : Blk wd bt [.string to] 9
  y : Blk wd by_ [.func (.yield l) #[] #[]] 72

theorem Boxes.kp {S : List TypeId} (h9 : 9 ∉ S) (h72 : 72 ∉ S) (h73 : 73 ∉ S) {w w' : World} (h : Kp S w w') {l : Nat} {fr to : ByteArray} {bf bw bt by_ : Nat} (hb : Boxes w l fr to bf bw bt by_) : Boxes w' l fr to bf bw bt by_ :=
  ⟨h.blk hb.f h9, h.blk hb.wk h73, h.blk hb.t h9, h.blk hb.y h72⟩

theorem leafIn {W : World} {b : Nat} {pv : Value} {ka : Option Addr} {kn kc : Nat} (hb : Blk W b [pv, .slice ka kn kc] 62) {bv : Bool} (hv : ((kn : Int) == 0) = bv) (n : Nat) :
    CallsIn Fence.wide n Try.prog 30 #[.pointer (some ⟨b, 0, none⟩)] W fun e w' => e = .returned (.bool bv) ∧ w' = W :=
  callsIn_wide.2 ((leaf_any b pv ka kn kc W hb).mono (by rintro e w' ⟨rfl, rfl⟩; exact ⟨by rw [hv], rfl⟩))

theorem node_split {ps : List Pair} {ks : List (List Pair)} (hks : ks.length = ps.length + 1) {k : Nat} (hk : k ≤ ps.length) :
    ∃ kid, ks[k]? = some kid ∧ weave ps ks = wl (ps.take k) (ks.take k) ++ kid ++ wr (ps.drop k) (ks.drop (k + 1)) := by
  have hl : k < ks.length := by omega
  refine ⟨ks[k], by simp, ?_⟩
  have := weave_at (ps1 := ps.take k) (ks1 := ks.take k) (by rw [List.length_take, List.length_take]; omega) (ps.drop k) ks[k] (ks.drop (k + 1))
  rwa [← List.drop_eq_getElem_cons hl, List.take_append_drop, List.take_append_drop] at this
theorem node_next {ps : List Pair} {ks : List (List Pair)} (hks : ks.length = ps.length + 1) {k : Nat} {p : Pair} {kid : List Pair} (hp : ps[k]? = some p) (hkid : ks[k]? = some kid) :
    wr (ps.drop k) (ks.drop (k + 1)) = p :: weave (ps.drop (k + 1)) (ks.drop (k + 1)) ∧ wl (ps.take (k + 1)) (ks.take (k + 1)) = wl (ps.take k) (ks.take k) ++ kid ++ [p] := by
  obtain ⟨hk, rfl⟩ := List.getElem?_eq_some_iff.1 hp
  obtain ⟨hk2, rfl⟩ := List.getElem?_eq_some_iff.1 hkid
  constructor
  · rw [List.drop_eq_getElem_cons hk]; rfl
  · rw [List.take_succ_eq_append_getElem hk, List.take_succ_eq_append_getElem hk2, wl_append (by rw [List.length_take, List.length_take]; omega), List.append_assoc]; rfl

theorem empty_iff (to : ByteArray) : to.toList = [] ↔ to = ⟨#[]⟩ := by
  rw [ByteArray.toList_eq]
  constructor
  · intro h
    cases to with
    | mk d => exact congrArg ByteArray.mk (Array.toList_eq_nil_iff.1 h)
  · rintro rfl; rfl
theorem less_cmp (a b : ByteArray) : Op.bytesLess a.toList b.toList = true ↔ cmpB a b < 0 := by
  rw [ByteArray.toList_eq, ByteArray.toList_eq, less_iff]
  simp [cmpB]

def NodeRel (S : List TypeId) (J : List Pair → World → Prop) (fr to : ByteArray) (ps : List Pair) (ks : List (List Pair)) (a0 : Nat) (pre : List Pair) (W0 : World) (v : Value) (wr : World) : Prop :=
  ∃ k : Nat, v = .int .i64 k ∧ a0 ≤ k ∧ k ≤ ps.length ∧ J (pre ++ rng fr to (wl (ps.take k) (ks.take k))) wr ∧ Kp S W0 wr

set_option maxRecDepth 100000 in
set_option maxHeartbeats 2000000 in
theorem node_walk (S : List TypeId) (h9 : 9 ∉ S) (h72 : 72 ∉ S) (h73 : 73 ∉ S) (h62 : 62 ∉ S) (h67 : 67 ∉ S) (h58 : 58 ∉ S) (l N B : Nat) (J Jx : List Pair → World → Prop) (hJ : AbidesFrom B J)
    (hY : ∀ m pre x W, J pre W → pre.length < N → YieldAt Fence.wide m Try.prog l #[.string x.1, .int .i64 x.2] W fun e W' =>
      (e = .returned (.bool true) ∧ J (pre ++ [x]) W' ∧ Kp S W W') ∨ (e = .returned (.bool false) ∧ Jx (pre ++ [x]) W'))
    (fr to : ByteArray) (bf bw bt by_ : Nat) (W0 : World) (hB : Boxes W0 l fr to bf bw bt by_) (b : Nat) (pb : List Nat) (ps : List Pair) (kb ptrs : List Nat) (hN : NdAt W0 b pb ps kb ptrs) (hlen : ps.length ≤ 1000000)
    (ks : List (List Pair)) (hks : ks.length = ps.length + 1) (hs : Srt (weave ps ks))
    (hk : (ptrs = [] ∧ ∀ x ∈ ks, x = []) ∨ (ptrs.length = ps.length + 1 ∧ ∀ (i c : Nat) (x : List Pair), ptrs[i]? = some c → ks[i]? = some x → ∀ n pre W, Kp S W0 W → J pre W → pre.length + (rng fr to x).length ≤ N →
      CallsIn Fence.wide n Try.prog 35 #[.pointer (some ⟨c, 0, none⟩), .pointer (some ⟨bf, 0, none⟩), .pointer (some ⟨bw, 0, none⟩), .pointer (some ⟨bt, 0, none⟩), .pointer (some ⟨by_, 0, none⟩)] W (WalkPost S J Jx fr to x pre W)))
    (n : Nat) (pre : List Pair) (W : World) (hW : Kp S W0 W) (h0 : J pre W) (hpl : pre.length + (rng fr to (weave ps ks)).length ≤ N) :
    CallsIn Fence.wide n Try.prog 35 #[.pointer (some ⟨b, 0, none⟩), .pointer (some ⟨bf, 0, none⟩), .pointer (some ⟨bw, 0, none⟩), .pointer (some ⟨bt, 0, none⟩), .pointer (some ⟨by_, 0, none⟩)] W (WalkPost S J Jx fr to (weave ps ks) pre W) := by
  obtain ⟨pv, kv, hb, hp, hkk⟩ := hN
  have hss := srt_ps hs
  have hfind := find_any (hW.blk hb h62) (hW.sl hp h67) hlen fr hss
  obtain ⟨pa, pc, rfl, _⟩ := hp.val
  obtain ⟨ka, kc, rfl, _⟩ := hkk.val
  have cf : W.cell? ⟨bf, 0, none⟩ = some (.string fr) := (hW.blk hB.f h9).cell 0
  have hfind' : ∀ n, CallsIn Fence.wide n Try.prog 29 #[.pointer (some ⟨b, 0, none⟩), .string fr] W fun e W' => ∃ A C fnd, e = .returned (.tuple #[.int .i64 A.length, .bool fnd]) ∧ ps = A ++ C ∧ Blw A fr ∧ (∀ p ∈ C, ¬ cmpB p.1 fr < 0) ∧ Kp S W W' ∧ J pre W' := fun n => ((callsIn_wide (n := n)).2 hfind).mono (by
    rintro e W' ⟨⟨A, C, hA, hC, ⟨m, h, rfl⟩ | ⟨h, rfl⟩⟩, ht⟩
    · refine ⟨A, _, true, rfl, h, hA, fun p hp => ?_, Kp.of_tch ht, hJ _ _ _ _ h0 (grown_of_tch ht) (by simp)⟩
      rcases List.mem_cons.1 hp with e | hp
      · rw [e, (cmp_eq.2 rfl : cmpB fr fr = 0)]; decide
      · have := Abv.pos hC p hp; omega
    · refine ⟨A, _, false, rfl, h, hA, fun p hp => ?_, Kp.of_tch ht, hJ _ _ _ _ h0 (grown_of_tch ht) (by simp)⟩
      have := Abv.pos hC p hp; omega)
  have HF := Lib.hid hfind'
  have HB := Lib.hid hB; have Hb := Lib.hid hb; have Hp := Lib.hid hp; have Hk := Lib.hid hkk; have HK := Lib.hid hk; have HS := Lib.hid hs; have HSS := Lib.hid hss
  have HY := Lib.hid hY; have HPL := Lib.hid hpl; have HKS := Lib.hid hks
  have HW := Lib.hid hW
  clear hfind hfind' hb hp hkk hW h0 hk hs hB hss hY hpl hks
  refine callsIn_of_wp Try.func35 rfl trivial ?_ rfl
  simp only [Try.ntmps35, List.size_toArray, List.length_cons, List.length_nil, Nat.reduceAdd, Nat.reduceSub, Array.replicate_succ, Array.replicate_zero, List.push_toArray, List.append_toArray, List.nil_append, List.cons_append]
  gi_wp2_with fail
  refine (HF.out _).mono ?_
  rintro e w1 ⟨A, C, fnd, rfl, h, hA, hC, hW1, h0⟩
  have Hh := Lib.hid h; have HA := Lib.hid hA; have HC := Lib.hid hC; have HW1 := Lib.hid hW1; have H0 := Lib.hid h0
  clear h hA hC hW1 h0
  gi_wp2_with fail
  gi_loopw [7] (fun v wr => NodeRel S J fr to ps ks A.length pre W v wr) (fun v _ => ps.length + 1 - (intOf v).toNat)
  case atStart =>
    have hl : (ks.take A.length).length = A.length := by rw [List.length_take, HKS.out, Hh.out, List.length_append]; omega
    refine ⟨A.length, rfl, Nat.le_refl _, by rw [Hh.out]; simp, ?_, HW1.out⟩
    have hw : weave ps ks = wl A (ks.take A.length) ++ weave C (ks.drop A.length) := by
      have := weave_append hl C (ks.drop A.length)
      rwa [List.take_append_drop, ← Hh.out] at this
    have hb : Blw (wl A (ks.take A.length)) fr := blw_wl (Srt.append.1 (hw ▸ HS.out)).1 HA.out
    have ht : ps.take A.length = A := by rw [Hh.out]; simp
    rw [ht, rng_blw hb, List.append_nil]
    exact H0.out
  case round =>
    obtain ⟨k, rfl, hak, hkl, hj, hkp⟩ := hrel
    obtain ⟨kid, hkid, hws⟩ := node_split HKS.out hkl
    have hk0 := HW.out.trans hkp
    have hbw := hk0.blk Hb.out h62
    have c0 : wr.cell? ⟨b, 0, none⟩ = some (.slice pa ps.length pc) := hbw.cell 0
    have c1 : wr.cell? ⟨b, 1, none⟩ = some (.slice ka ptrs.length kc) := hbw.cell 1
    have HBW := Lib.hid hbw; have HJ := Lib.hid hj; have HKP := Lib.hid hkp; have HK0 := Lib.hid hk0; have HWS := Lib.hid hws; have HKID := Lib.hid hkid
    clear hbw hj hkp hk0 hws hkid
    have hle : decide ((k : Int) ≤ (ps.length : Int)) = true := by simpa using hkl
    rcases HK.out with ⟨hp0, hx0⟩ | ⟨hpl, hkc⟩
    · have hpz : ((ptrs.length : Int) == 0) = true := by rw [hp0]; rfl
      have hkn : kid = [] := hx0 _ (List.mem_of_getElem? HKID.out)
      have hj2 : Hid (∀ m, J (pre ++ rng fr to (wl (ps.take k) (ks.take k) ++ kid)) (wr.drewN m) ∧ Kp S W (wr.drewN m)) := fun m => by
        have ht : Tch (fun _ => False) wr (wr.drewN m) := ⟨rfl, rfl, rfl, Nat.le_refl _, fun _ _ _ => rfl⟩
        rw [hkn, List.append_nil]
        exact ⟨hJ _ _ _ _ HJ.out (grown_of_tch ht) (by simp), HKP.out.trans (Kp.of_tch ht)⟩
      clear hx0 hp0 hkn HK HKP HJ
      gi_wp2_with fail
      gi_quiet (exact CallsIn.quiet_of_same (leafIn (W := World.drewN _ _) HBW.out hpz _))
      obtain ⟨hj3, hk3⟩ := hj2.out nq
      have HJ3 := Lib.hid hj3; have HK3 := Lib.hid hk3; have HK03 := Lib.hid (HW.out.trans hk3)
      have HB3 := Lib.hid (HB.out.kp h9 h72 h73 HK03.out)
      generalize World.drewN _ nq = w2 at *
      clear hj2 hj3 hk3 c0 c1 HBW HK0
      have c0 : w2.cell? ⟨b, 0, none⟩ = some (.slice pa ps.length pc) := (HK03.out.blk Hb.out h62).cell 0
      by_cases hkl2 : k = ps.length
      · have hq : (k : Int) = (ps.length : Int) := by exact_mod_cast hkl2
        have hws : weave ps ks = wl (ps.take k) (ks.take k) ++ kid := by rw [HWS.out, hkl2, List.drop_length]; simp [Lst.wr]
        rw [hq]
        have hfin : Hid (WalkPost S J Jx fr to (weave ps ks) pre W (.returned (.bool true)) w2) := .inl ⟨rfl, by rw [hws]; exact HJ3.out, HK3.out⟩
        clear hws hq
        gi_wp2_with fail
        go_ret
        exact hfin.out
      · have hkl3 : k < ps.length := by omega
        have hq : decide ((k : Int) = (ps.length : Int)) = false := by simpa using (by omega : ¬ (k : Int) = (ps.length : Int))
        have hq2 : (k : Int) < (ps.length : Int) := by omega
        have hq3 : (0 : Int) ≤ (k : Int) := by omega
        obtain ⟨pb', pc', sp, hpe, hqb, hqq, hql, hqc, hqn⟩ := Hp.out.pos (by omega)
        obtain ⟨rfl, rfl⟩ : pa = some ⟨pb', 0, none⟩ ∧ pc = pc' := by simpa using hpe
        obtain ⟨p, hpp⟩ : ∃ p, ps[k]? = some p := ⟨ps[k], by simp⟩
        have d0 := ((HK03.out.blk hqq h67).cell _).trans (encPs_get hpp sp).1
        have d1 := ((HK03.out.blk hqq h67).cell _).trans (encPs_get hpp sp).2
        obtain ⟨hn1, hn2⟩ := node_next HKS.out hpp HKID.out
        have HPP := Lib.hid hpp; have HN1 := Lib.hid hn1; have HN2 := Lib.hid hn2
        have ct : w2.cell? ⟨bt, 0, none⟩ = some (.string to) := HB3.out.t.cell 0
        have hbt := HB3.out.t.lt
        have hby := HB3.out.y.lt
        have cy : w2.cell? ⟨by_, 0, none⟩ = some (.func (.yield l) #[] #[]) := HB3.out.y.cell 0
        have hkl3' : k + 1 ≤ ps.length := hkl3
        clear hqb hqq hql hqc hqn hpe hpp hn1 hn2 Hp hkl2 hkl3
        have htA : Tch (fun _ => False) w2 (w2.alloc (.cells #[.string p.1, .int .i64 p.2] 67)) := Tch.alloc _ _ _
        have hJ5 := hJ _ _ _ _ HJ3.out (grown_of_tch htA) (by simp)
        have hK5 := HK3.out.trans (Kp.of_tch htA)
        have hsrt := HWS.out ▸ HS.out
        by_cases hc : cut to p
        · have hz1 : ¬ to.toList = [] := fun h => hc.1 ((empty_iff to).1 h)
          have hz2 : Op.bytesLess p.1.toList to.toList = false := by
            rw [Bool.eq_false_iff]; exact fun h => hc.2 ((less_cmp _ _).1 h)
          have hfin : Hid (WalkPost S J Jx fr to (weave ps ks) pre W (.returned (.bool false)) (w2.alloc (.cells #[.string p.1, .int .i64 p.2] 67))) := by
            refine .inr (.inl ⟨rfl, ?_, hK5, p, mem_weave_ps (List.mem_of_getElem? HPP.out), hc⟩)
            rw [HN1.out] at hsrt
            have := rng_cut (fr := fr) (show Srt ([p] ++ weave (ps.drop (k + 1)) (ks.drop (k + 1))) from (Srt.append.1 hsrt).2.1) (List.mem_singleton.2 rfl) hc
            rw [HWS.out, HN1.out, rng_node, rng_one_cut hc, this, List.append_nil, List.append_nil]
            exact hJ5
          clear hsrt hJ5 hK5 htA hc
          gi_wp2_with fail
          go_ret
          exact hfin.out
        · have hpf : ¬ cmpB p.1 fr < 0 := Int.not_lt.2 (HC.out p (by
            have : ps[k]? = some p := HPP.out
            rw [Hh.out, List.getElem?_append_right hak] at this
            exact List.mem_of_getElem? this))
          have hone := rng_one hpf hc
          have hnx : rng fr to (wl (ps.take (k + 1)) (ks.take (k + 1))) = rng fr to (wl (ps.take k) (ks.take k) ++ kid) ++ [p] := by
            rw [HN2.out, rng_append, hone]
          have hlt : (pre ++ rng fr to (wl (ps.take k) (ks.take k) ++ kid)).length < N := by
            have := HPL.out
            rw [HWS.out, HN1.out, rng_node, hone] at this
            simp only [List.length_append, List.length_cons, List.length_nil] at this ⊢
            omega
          obtain ⟨fn, tmps, assign, body, hy, hR⟩ := HY.out (n - 1) _ p _ hJ5 hlt
          have HR := Lib.hid (hR.mono (R' := fun e W' => (e = .returned (.bool true) ∧ Hid (NodeRel S J fr to ps ks A.length pre W (.int .i64 ((k : Int) + 1)) W')) ∨ (e = .returned (.bool false) ∧ Hid (WalkPost S J Jx fr to (weave ps ks) pre W (.returned (.bool false)) W'))) (by
            rintro e W' (⟨rfl, hJ6, hK6⟩ | ⟨rfl, hx⟩)
            · refine .inl ⟨rfl, k + 1, by simp, by omega, hkl3', by rw [hnx, ← List.append_assoc]; exact hJ6, hK5.trans hK6⟩
            · refine .inr ⟨rfl, .inr (.inr ⟨rfl, _, ?_, by rw [List.append_assoc] at hx; exact hx⟩)⟩
              rw [HWS.out, HN1.out, rng_node, hone, ← List.append_assoc]
              exact List.prefix_append _ _))
          have hor : to.toList = [] ∨ (¬ to.toList = [] ∧ Op.bytesLess p.1.toList to.toList = true) := by
            by_cases h : to.toList = []
            · exact .inl h
            · refine .inr ⟨h, (less_cmp _ _).2 (Classical.not_not.1 (fun h2 => hc ⟨fun e => h ((empty_iff to).2 e), h2⟩))⟩
          clear hnx hone hpf hlt hsrt hJ5 hK5 htA hc hR
          rcases hor with hz1 | ⟨hz1, hz2⟩
          all_goals gi_wp2_with (refine HR.out.mono ?_; rintro e w6 (⟨rfl, hfin⟩ | ⟨rfl, hfin⟩))
          all_goals first | exact ⟨hfin.out, by simp [intOf]; omega⟩ | (go_ret; exact hfin.out)
    · have hpz : ((ptrs.length : Int) == 0) = false := by rw [hpl]; simp; omega
      obtain ⟨c, hcc⟩ : ∃ c, ptrs[k]? = some c := ⟨ptrs[k], by simp⟩
      obtain ⟨kb', kc', ksp, hke, hkb, hkq, hkql, hkqc, hkqn⟩ := Hk.out.pos (by omega)
      obtain ⟨rfl, rfl⟩ : ka = some ⟨kb', 0, none⟩ ∧ kc = kc' := by simpa using hke
      have e0 : wr.cell? ⟨kb', k, none⟩ = some (.pointer (some ⟨c, 0, none⟩)) := ((HK0.out.blk hkq h58).cell _).trans (encKs_get hcc ksp)
      have hbx := HB.out.kp h9 h72 h73 HK0.out
      have ew : wr.cell? ⟨bw, 0, none⟩ = some (walkV bf bw bt by_) := hbx.wk.cell 0
      have hq2 : (k : Int) < (ptrs.length : Int) := by omega
      have hq3 : (0 : Int) ≤ (k : Int) := by omega
      have htd : Tch (fun _ => False) wr wr.drew := ⟨rfl, rfl, rfl, Nat.le_refl _, fun _ _ _ => rfl⟩
      have hlt : (pre ++ rng fr to (wl (ps.take k) (ks.take k))).length + (rng fr to kid).length ≤ N := by
        have := HPL.out
        rw [HWS.out, rng_append, rng_append] at this
        simp only [List.length_append] at this ⊢
        omega
      have hcall := hkc k c kid hcc HKID.out (n - 1) _ wr.drew (HK0.out.trans (Kp.of_tch htd)) (hJ _ _ _ _ HJ.out (grown_of_tch htd) (by simp)) hlt
      have hskid : Srt (kid ++ Lst.wr (ps.drop k) (ks.drop (k + 1))) := by
        have := HWS.out ▸ HS.out
        rw [List.append_assoc] at this
        exact (Srt.append.1 this).2.1
      have hkd : Kp S W wr.drew := HKP.out.trans (Kp.of_tch htd)
      have HCALL := Lib.hid (hcall.mono (R' := fun e W' => ∃ bv, e = .returned (.bool bv) ∧ Hid ((bv = true ∧ J (pre ++ rng fr to (wl (ps.take k) (ks.take k) ++ kid)) W' ∧ Kp S W W') ∨ (bv = false ∧ WalkPost S J Jx fr to (weave ps ks) pre W (.returned (.bool false)) W'))) (by
        rintro e W' (⟨rfl, hj, hk1⟩ | ⟨rfl, hj, hk1, p, hp1, hp2⟩ | ⟨rfl, q, hq1, hq2⟩)
        · exact ⟨true, rfl, .inl ⟨rfl, by rw [rng_append, ← List.append_assoc]; exact hj, hkd.trans hk1⟩⟩
        · refine ⟨false, rfl, .inr ⟨rfl, .inr (.inl ⟨rfl, ?_, hkd.trans hk1, p, ?_, hp2⟩)⟩⟩
          · rw [HWS.out, rng_append, rng_append, rng_cut hskid hp1 hp2, List.append_nil, ← List.append_assoc]; exact hj
          · rw [HWS.out]; simp [hp1]
        · refine ⟨false, rfl, .inr ⟨rfl, .inr (.inr ⟨rfl, rng fr to (wl (ps.take k) (ks.take k)) ++ q, ?_, by rw [← List.append_assoc]; exact hq2⟩)⟩⟩
          rw [HWS.out, rng_append, rng_append, List.append_assoc]
          exact List.prefix_append_right_inj _ |>.2 (hq1.trans (List.prefix_append _ _))))
      have HBD := Lib.hid (show Blk wr.drew b _ 62 from HBW.out)
      clear hkq hkql hkqc hkqn hke hkb hcc hbx hlt hcall hkc HK HJ HKP htd hskid hkd
      unfold walkV at ew
      gi_wp2_with fail
      have hmix : Try.prog.follows .mixedOrders = true := by kernel_rfl
      gi_region_with_o (first | (gi_at_call 30; refine (leafIn HBD.out hpz _).mono ?_; rintro e w3 ⟨rfl, rfl⟩) | (gi_at_call 35; refine HCALL.out.mono ?_; rintro e w3 ⟨bv, rfl, hfin⟩))
      all_goals
        rcases hfin.out with ⟨rfl, hj3, hk3⟩ | ⟨rfl, hw3⟩
        · have HJ3 := Lib.hid hj3; have HK3 := Lib.hid hk3; have HK03 := Lib.hid (HW.out.trans hk3)
          have HB3 := Lib.hid (HB.out.kp h9 h72 h73 HK03.out)
          clear hj3 hk3 c0 c1 HBW HK0 hfin e0 ew HBD hmix hq2 hq3
          have c0 : w3.cell? ⟨b, 0, none⟩ = some (.slice pa ps.length pc) := (HK03.out.blk Hb.out h62).cell 0
          by_cases hkl2 : k = ps.length
          · have hq : (k : Int) = (ps.length : Int) := by exact_mod_cast hkl2
            have hws : weave ps ks = wl (ps.take k) (ks.take k) ++ kid := by rw [HWS.out, hkl2, List.drop_length]; simp [Lst.wr]
            rw [hq]
            have hfin : Hid (WalkPost S J Jx fr to (weave ps ks) pre W (.returned (.bool true)) w3) := .inl ⟨rfl, by rw [hws]; exact HJ3.out, HK3.out⟩
            clear hws hq
            gi_wp2_with fail
            go_ret
            exact hfin.out
          · have hkl3 : k < ps.length := by omega
            have hq : decide ((k : Int) = (ps.length : Int)) = false := by simpa using (by omega : ¬ (k : Int) = (ps.length : Int))
            have hq2 : (k : Int) < (ps.length : Int) := by omega
            have hq3 : (0 : Int) ≤ (k : Int) := by omega
            obtain ⟨pb', pc', sp, hpe, hqb, hqq, hql, hqc, hqn⟩ := Hp.out.pos (by omega)
            obtain ⟨rfl, rfl⟩ : pa = some ⟨pb', 0, none⟩ ∧ pc = pc' := by simpa using hpe
            obtain ⟨p, hpp⟩ : ∃ p, ps[k]? = some p := ⟨ps[k], by simp⟩
            have d0 := ((HK03.out.blk hqq h67).cell _).trans (encPs_get hpp sp).1
            have d1 := ((HK03.out.blk hqq h67).cell _).trans (encPs_get hpp sp).2
            obtain ⟨hn1, hn2⟩ := node_next HKS.out hpp HKID.out
            have HPP := Lib.hid hpp; have HN1 := Lib.hid hn1; have HN2 := Lib.hid hn2
            have ct : w3.cell? ⟨bt, 0, none⟩ = some (.string to) := HB3.out.t.cell 0
            have hbt := HB3.out.t.lt
            have hby := HB3.out.y.lt
            have cy : w3.cell? ⟨by_, 0, none⟩ = some (.func (.yield l) #[] #[]) := HB3.out.y.cell 0
            have hkl3' : k + 1 ≤ ps.length := hkl3
            clear hqb hqq hql hqc hqn hpe hpp hn1 hn2 Hp hkl2 hkl3
            have htA : Tch (fun _ => False) w3 (w3.alloc (.cells #[.string p.1, .int .i64 p.2] 67)) := Tch.alloc _ _ _
            have hJ5 := hJ _ _ _ _ HJ3.out (grown_of_tch htA) (by simp)
            have hK5 := HK3.out.trans (Kp.of_tch htA)
            have hsrt := HWS.out ▸ HS.out
            by_cases hc : cut to p
            · have hz1 : ¬ to.toList = [] := fun h => hc.1 ((empty_iff to).1 h)
              have hz2 : Op.bytesLess p.1.toList to.toList = false := by
                rw [Bool.eq_false_iff]; exact fun h => hc.2 ((less_cmp _ _).1 h)
              have hfin : Hid (WalkPost S J Jx fr to (weave ps ks) pre W (.returned (.bool false)) (w3.alloc (.cells #[.string p.1, .int .i64 p.2] 67))) := by
                refine .inr (.inl ⟨rfl, ?_, hK5, p, mem_weave_ps (List.mem_of_getElem? HPP.out), hc⟩)
                rw [HN1.out] at hsrt
                have := rng_cut (fr := fr) (show Srt ([p] ++ weave (ps.drop (k + 1)) (ks.drop (k + 1))) from (Srt.append.1 hsrt).2.1) (List.mem_singleton.2 rfl) hc
                rw [HWS.out, HN1.out, rng_node, rng_one_cut hc, this, List.append_nil, List.append_nil]
                exact hJ5
              clear hsrt hJ5 hK5 htA hc
              gi_wp2_with fail
              go_ret
              exact hfin.out
            · have hpf : ¬ cmpB p.1 fr < 0 := Int.not_lt.2 (HC.out p (by
                have : ps[k]? = some p := HPP.out
                rw [Hh.out, List.getElem?_append_right hak] at this
                exact List.mem_of_getElem? this))
              have hone := rng_one hpf hc
              have hnx : rng fr to (wl (ps.take (k + 1)) (ks.take (k + 1))) = rng fr to (wl (ps.take k) (ks.take k) ++ kid) ++ [p] := by
                rw [HN2.out, rng_append, hone]
              have hlt : (pre ++ rng fr to (wl (ps.take k) (ks.take k) ++ kid)).length < N := by
                have := HPL.out
                rw [HWS.out, HN1.out, rng_node, hone] at this
                simp only [List.length_append, List.length_cons, List.length_nil] at this ⊢
                omega
              obtain ⟨fn, tmps, assign, body, hy, hR⟩ := HY.out (n - 1) _ p _ hJ5 hlt
              have HR := Lib.hid (hR.mono (R' := fun e W' => (e = .returned (.bool true) ∧ Hid (NodeRel S J fr to ps ks A.length pre W (.int .i64 ((k : Int) + 1)) W')) ∨ (e = .returned (.bool false) ∧ Hid (WalkPost S J Jx fr to (weave ps ks) pre W (.returned (.bool false)) W'))) (by
                rintro e W' (⟨rfl, hJ6, hK6⟩ | ⟨rfl, hx⟩)
                · refine .inl ⟨rfl, k + 1, by simp, by omega, hkl3', by rw [hnx, ← List.append_assoc]; exact hJ6, hK5.trans hK6⟩
                · refine .inr ⟨rfl, .inr (.inr ⟨rfl, _, ?_, by rw [List.append_assoc] at hx; exact hx⟩)⟩
                  rw [HWS.out, HN1.out, rng_node, hone, ← List.append_assoc]
                  exact List.prefix_append _ _))
              have hor : to.toList = [] ∨ (¬ to.toList = [] ∧ Op.bytesLess p.1.toList to.toList = true) := by
                by_cases h : to.toList = []
                · exact .inl h
                · refine .inr ⟨h, (less_cmp _ _).2 (Classical.not_not.1 (fun h2 => hc ⟨fun e => h ((empty_iff to).2 e), h2⟩))⟩
              clear hnx hone hpf hlt hsrt hJ5 hK5 htA hc hR
              rcases hor with hz1 | ⟨hz1, hz2⟩
              all_goals gi_wp2_with (refine HR.out.mono ?_; rintro e w6 (⟨rfl, hfin⟩ | ⟨rfl, hfin⟩))
              all_goals first | exact ⟨hfin.out, by simp [intOf]; omega⟩ | (go_ret; exact hfin.out)
        · have HW3 := Lib.hid hw3
          clear hw3
          gi_wp2_with fail
          go_ret
          exact HW3.out

end Go.Proofs.Ytkhjhcbmefahkaa
