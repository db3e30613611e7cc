/-
  Range of the index: the walk over the whole tree, the two closures, and what a range over it may count on.
-/
import Derived.Laws.EntriesVeiled
import Derived.Test.YtkhjhcbmefahkaaRng
namespace Go.Proofs.Ytkhjhcbmefahkaa
open Go.RowKit Go.Mm Go.Lst Go.Shelf
attribute [local go_sem] Oper.semAt_some wide_fn wide_depth

theorem weave_repl (ps : List Pair) : ∀ n, weave ps (List.replicate n []) = ps := by
  induction ps with
  | nil => intro n; cases n <;> rfl
  | cons p ps ih =>
    intro n
    cases n with
    | zero => simp [weave_nil]
    | succ n => simp [List.replicate_succ, weave, ih]

/-- the types whose cells a round of a loop over a range must leave alone -/
def Safe (S : List TypeId) : Prop := 9 ∉ S ∧ 72 ∉ S ∧ 73 ∉ S ∧ 62 ∉ S ∧ 67 ∉ S ∧ 58 ∉ S ∧ 64 ∉ S ∧ 25 ∉ S

def Yields (S : List TypeId) (l N : Nat) (J Jx : List Pair → World → Prop) : Prop :=
  ∀ m pre x W, J pre W → pre.length < N → YieldAt Fence.wide m Try.prog l #[.string x.1, .int .i64 x.2] W fun e W' =>
      (e = .returned (.bool true) ∧ J (pre ++ [x]) W' ∧ Kp S W W') ∨ (e = .returned (.bool false) ∧ Jx (pre ++ [x]) W')

theorem walk_any (S : List TypeId) (hS : Safe S) (l N B : Nat) (J Jx : List Pair → World → Prop) (hJ : AbidesFrom B J) (hY : Yields S l N J Jx)
    (fr to : ByteArray) (bf bw bt by_ : Nat) (W0 : World) (hB : Boxes W0 l fr to bf bw bt by_) (least most : Nat) (hm : most ≤ 1000000) :
    ∀ (h : Nat) (t : MT h), TAt W0 h t → Srt (flat h t) → Shp least most h t → t.ps.length ≤ most → ∀ (n : Nat) (pre : List Pair) (W : World), Kp S W0 W → J pre W → pre.length + (rng fr to (flat h t)).length ≤ N →
      CallsIn Fence.wide n Try.prog 35 #[.pointer (some ⟨t.b, 0, none⟩), .pointer (some ⟨bf, 0, none⟩), .pointer (some ⟨bw, 0, none⟩), .pointer (some ⟨bt, 0, none⟩), .pointer (some ⟨by_, 0, none⟩)] W (WalkPost S J Jx fr to (flat h t) pre W) := by
  obtain ⟨h9, h72, h73, h62, h67, h58, _, _⟩ := hS
  intro h
  induction h with
  | zero =>
    intro t ha hs _ hl n pre W hW h0 hp
    have e : weave t.ps (List.replicate (t.ps.length + 1) []) = t.ps := weave_repl _ _
    have := node_walk S h9 h72 h73 h62 h67 h58 l N B J Jx hJ hY fr to bf bw bt by_ W0 hB t.b t.pb t.ps t.kb [] ha (by omega) (List.replicate (t.ps.length + 1) []) (by simp) (by rw [e]; exact hs)
      (.inl ⟨rfl, fun x hx => List.eq_of_mem_replicate hx⟩) n pre W hW h0 (by rw [e]; exact hp)
    rw [e] at this
    exact this
  | succ h ih =>
    intro t ha hs hsh hl n pre W hW h0 hp
    refine node_walk S h9 h72 h73 h62 h67 h58 l N B J Jx hJ hY fr to bf bw bt by_ W0 hB t.b t.pb t.ps t.kb ((kids t).map (·.b)) ha.1 (by omega) ((kids t).map (flat h)) (by rw [List.length_map, hsh.1]) hs
      (.inr ⟨by rw [List.length_map, hsh.1], fun i c x hc hx n pre W hW h0 hp => ?_⟩) n pre W hW h0 hp
    rw [List.getElem?_map] at hc hx
    obtain ⟨kid, hk, rfl⟩ := Option.map_eq_some_iff.1 hc
    rw [hk] at hx
    cases hx
    have hmem := List.mem_of_getElem? hk
    have hsk : Srt (flat h kid) := by
      obtain ⟨K1, K2, e⟩ := List.append_of_mem hmem
      have hlen : K1.length ≤ t.ps.length := by have := congrArg List.length e; rw [hsh.1] at this; simp at this; omega
      have hs' : Srt (weave t.ps ((kids t).map (flat h))) := hs
      rw [e, List.map_append, List.map_cons] at hs'
      have := weave_at (ps1 := t.ps.take K1.length) (ks1 := K1.map (flat h)) (by rw [List.length_map, List.length_take]; omega) (t.ps.drop K1.length) (flat h kid) (K2.map (flat h))
      rw [List.take_append_drop] at this
      rw [this] at hs'
      exact (Srt.append.1 (Srt.append.1 hs').1).2.1
    exact ih kid (ha.2 kid hmem) hsk (hsh.2 kid hmem).2.2 (hsh.2 kid hmem).2.1 n pre W hW h0 hp

theorem room_none (k : Nat) : Fence.wide.room k := fun d h => by cases h
theorem RoundIn.anyD {m m' : Nat} {l : Nat} {f : FuncId} {tmps : Array Value} {assign body : Code} {w : World} {R : Ending → World → Prop}
    (h : RoundIn Fence.wide m Try.prog l f tmps assign body w R) : RoundIn Fence.wide m' Try.prog l f tmps assign body w R := ⟨h.1, fun c cs _ => h.2 c cs (room_none _)⟩
theorem YieldAt.anyD {m : Nat} (m' : Nat) {l : Nat} {args : Array Value} {W : World} {R : Ending → World → Prop} (h : YieldAt Fence.wide m Try.prog l args W R) : YieldAt Fence.wide m' Try.prog l args W R := by
  obtain ⟨fn, tmps, assign, body, hy, hR⟩ := h
  exact ⟨fn, tmps, assign, body, hy, RoundIn.anyD hR⟩

theorem TAt.kp {S : List TypeId} (h62 : 62 ∉ S) (h67 : 67 ∉ S) (h58 : 58 ∉ S) {w w' : World} (hk : Kp S w w') : ∀ (h : Nat) (t : MT h), TAt w h t → TAt w' h t := by
  have nd : ∀ {b pb ps kb ptrs}, NdAt w b pb ps kb ptrs → NdAt w' b pb ps kb ptrs := fun ⟨pv, kv, h1, h2, h3⟩ => ⟨pv, kv, hk.blk h1 h62, hk.sl h2 h67, hk.sl h3 h58⟩
  intro h
  induction h with
  | zero => intro t ha; exact nd ha
  | succ h ih => intro t ha; exact ⟨nd ha.1, fun k hk => ih k (ha.2 k hk)⟩

theorem Ix.tch {w w' : World} {xb order : Nat} {L : List Pair} {F : List Nat} (hI : Ix w xb order L F) (ht : Tch (fun _ => False) w w') : Ix w' xb order L F := by
  obtain ⟨h, t, rfl, hL, hx, ha, r⟩ := hI
  exact ⟨h, t, rfl, hL, ht.get hx (fun h => h), TAt.tch ht h t ha (fun _ _ h => h), r⟩

set_option maxHeartbeats 1000000 in
theorem range_stops (S : List TypeId) (hS : Safe S) (n : Nat) {w : World} {xb order : Nat} {L : List Pair} {F : List Nat} (hI : Ix w xb order L F) (fr to : ByteArray) (bf bt bx : Nat)
    (hf : Blk w bf [.string fr] 9) (ht : Blk w bt [.string to] 9) (hx : Blk w bx [.pointer (some ⟨xb, 0, none⟩)] 25) :
    SeqStopsK Fence.wide n Try.prog 34 #[.pointer (some ⟨bf, 0, none⟩), .pointer (some ⟨bt, 0, none⟩), .pointer (some ⟨bx, 0, none⟩)] (fun x : Pair => #[.string x.1, .int .i64 x.2]) (Kp S)
      (fun xs => xs = rng fr to L) (fun pre => pre <+: rng fr to L) (rng fr to L).length w := by
  intro l J Jx W hW hJ hJx hY h0
  have htW : Tch (fun _ => False) w W := Tch.of_below hW (Nat.le_refl _)
  replace hI := hI.tch htW
  replace hf := htW.get hf (fun h => h)
  replace ht := htW.get ht (fun h => h)
  replace hx := htW.get hx (fun h => h)
  have hY' : Yields S l (rng fr to L).length J Jx := fun m pre x W hj hl => YieldAt.anyD m (hY pre x W hj hl)
  obtain ⟨h, t, rfl, hL, hxb, ha, hnd, hxn, hsh, hlen, h1, hs, h2, h64⟩ := hI
  subst hL
  have cx : W.cell? ⟨bx, 0, none⟩ = some (.pointer (some ⟨xb, 0, none⟩)) := hx.cell 0
  have cr : W.cell? ⟨xb, 2, none⟩ = some (.pointer (some ⟨t.b, 0, none⟩)) := hxb.cell 2
  have lx := hx.lt
  have lxb := hxb.lt
  obtain ⟨W1, hW1⟩ : ∃ W1, (W.alloc (.cells #[.func (.yield l) #[] #[]] 72)).alloc (.cells #[.nilFunc] 73) = W1 := ⟨_, rfl⟩
  have ht1 : Tch (fun _ => False) W W1 := by rw [← hW1]; exact (Tch.alloc _ _ _).trans (Tch.alloc _ _ _) (fun _ _ h => h)
  have by1 : Blk W1 W.heap.size [.func (.yield l) #[] #[]] 72 := by rw [← hW1]; exact (Tch.alloc (fun _ => False) _ _).get (Blk.newLast (w := W) [.func (.yield l) #[] #[]] 72 rfl) (fun h => h)
  have bw1 : Blk W1 (W.heap.size + 1) [.nilFunc] 73 := by rw [← hW1]; exact Blk.newLast (w := W.alloc (.cells #[.func (.yield l) #[] #[]] 72)) _ _ (by simp)
  have q1 : W1.cell? ⟨W.heap.size + 1, 0, none⟩ = some .nilFunc := bw1.cell 0
  have q2 : W1.frozen? ⟨W.heap.size + 1, 0, none⟩ = false := bw1.frozen 0
  have htA : Tch (fun _ => False) W (W1.setCell ⟨W.heap.size + 1, 0, none⟩ (walkV bf (W.heap.size + 1) bt W.heap.size)).drew :=
    ⟨ht1.os, ht1.tape, ht1.output, by have := (Tch.setCell (S := (· = W.heap.size + 1)) W1 (a := ⟨W.heap.size + 1, 0, none⟩) rfl (walkV bf (W.heap.size + 1) bt W.heap.size)).size; exact Nat.le_trans ht1.size this,
      fun k hk hn => (Below.heap_setCell W1 ⟨W.heap.size + 1, 0, none⟩ _ k (by simp only [ne_eq]; omega)).trans (ht1.block k hk hn)⟩
  have hB : Boxes (W1.setCell ⟨W.heap.size + 1, 0, none⟩ (walkV bf (W.heap.size + 1) bt W.heap.size)).drew l fr to bf (W.heap.size + 1) bt W.heap.size :=
    ⟨htA.get hf (fun h => h), bw1.setC 0 _, htA.get ht (fun h => h), by1.setC' (by omega) 0 _⟩
  have hw := walk_any S hS l _ W.heap.size J Jx hJ hY' fr to bf (W.heap.size + 1) bt W.heap.size _ hB (order / 2) order (by omega) h t (TAt.tch htA h t ha (fun _ _ h => h)) hs hsh hlen
    (n - 1) [] _ (Kp.refl _ _) (hJ _ _ _ _ h0 (grown_of_tch htA) (by simp)) (by simp)
  have cx2 : (W1.setCell ⟨W.heap.size + 1, 0, none⟩ (walkV bf (W.heap.size + 1) bt W.heap.size)).cell? ⟨bx, 0, none⟩ = some (.pointer (some ⟨xb, 0, none⟩)) := (htA.get hx (fun h => h)).cell 0
  have cr2 : (W1.setCell ⟨W.heap.size + 1, 0, none⟩ (walkV bf (W.heap.size + 1) bt W.heap.size)).cell? ⟨xb, 2, none⟩ = some (.pointer (some ⟨t.b, 0, none⟩)) := (htA.get hxb (fun h => h)).cell 2
  have cw2 : (W1.setCell ⟨W.heap.size + 1, 0, none⟩ (walkV bf (W.heap.size + 1) bt W.heap.size)).cell? ⟨W.heap.size + 1, 0, none⟩ = some (walkV bf (W.heap.size + 1) bt W.heap.size) := (bw1.setC 0 _).cell 0
  clear cx cr lx lxb
  have HWK := Lib.hid (hw.mono (R' := fun e W' => ∃ bv, e = .returned (.bool bv) ∧ Hid ((∃ xs, xs = rng fr to (flat h t) ∧ J xs W') ∨ (∃ pre, pre <+: rng fr to (flat h t) ∧ Jx pre W'))) (by
    rintro e W' (⟨rfl, hj, _⟩ | ⟨rfl, hj, _⟩ | ⟨rfl, q, hq1, hq2⟩)
    · exact ⟨true, rfl, .inl ⟨_, rfl, hj⟩⟩
    · exact ⟨false, rfl, .inl ⟨_, rfl, hj⟩⟩
    · exact ⟨false, rfl, .inr ⟨q, hq1, hq2⟩⟩))
  have hmix : Try.prog.follows .mixedOrders = true := by kernel_rfl
  clear hw htA hB by1 bw1 ht1 ha hnd hxn hsh hlen h1 hs h2 h64 hxb hx ht hf htW hW hJ hJx hY hY' h0
  unfold walkV at HWK cx2 cr2 cw2
  refine callsIn_of_wp Try.func34 rfl trivial ?_ rfl
  simp only [Try.ntmps34, List.size_toArray, List.length_cons, List.length_nil, Nat.reduceAdd, Nat.reduceSub, Array.replicate_succ, Array.replicate_zero, List.push_toArray, List.append_toArray, List.nil_append, List.cons_append]
  gi_wp2_with fail
  gi_region_with_o (gi_at_call 35; refine HWK.out.mono ?_; rintro e w3 ⟨bv, rfl, hfin⟩)
  all_goals (go_end0; exact ⟨⟨_, rfl⟩, hfin.out⟩)

end Go.Proofs.Ytkhjhcbmefahkaa
