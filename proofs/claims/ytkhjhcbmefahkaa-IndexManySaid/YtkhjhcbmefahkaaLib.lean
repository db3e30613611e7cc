/-
  What slices.Insert, Delete, Clone and BinarySearchFunc do to slices that own their block: a contract each.
-/
import Derived.Test.YtkhjhcbmefahkaaRows
import Derived.Test.YtkhjhcbmefahkaaSli
import Derived.Test.YtkhjhcbmefahkaaLst
import Derived.Lib.Overlaps
import Derived.Lib.SliceRun
namespace Go.Proofs.Ytkhjhcbmefahkaa
open Go.RowKit Go.Mm Go.Lst

theorem info67 : (Try.prog.info? 67).map (fun i => (i.zero, i.size, i.bytes)) = some (some (.agg #[.string ByteArray.empty, .int .i64 0]), 2, 24) := by kernel_rfl
theorem info67s : (Try.prog.info? 67).map (·.size) = some 2 := by kernel_rfl
theorem info67z : (Try.prog.info? 67).map (fun i => (i.zero, i.size)) = some (some (.agg #[.string ByteArray.empty, .int .i64 0]), 2) := by kernel_rfl
theorem size67 (w : World) : (Go.sizeOf 67).run Try.prog w = .ok 2 w := by
  obtain ⟨i, hi, hs⟩ := Option.map_eq_some_iff.1 info67s
  simp [sizeOf, typeInfo, hi, hs]
theorem ov46 (w : World) (b vb o n c m d : Nat) (L V : List Value) (T T' : TypeId) (hb : Blk w b L T) (hx : Blk w vb V T') (hne : vb ≠ b) (hL : L.length ≠ 0) :
   (callFunc 46 #[.slice (some ⟨vb,0,none⟩) m d, .slice (some ⟨b,o,none⟩) n c]).run Try.prog w = .ok (.value (.bool false)) w := by
  rw [run_callFunc_extern Try.func46 (by kernel_rfl) (by kernel_rfl) (by kernel_rfl) (e := Extern.SlicesOverlaps.overlaps #[59, 59] #[4]) (by kernel_rfl),
    Lib.run_overlaps_apart w 59 4 67 Try.underlying59 2 size67 ⟨vb,0,none⟩ ⟨b,o,none⟩ m d n c hne T' T _ _ hx.shape hb.shape hL (hx.frozen 0) (hx.frozen _)]
  rfl

/-- what Insert leaves: the slice with V's cells at the element i -/
def InsPostP (w : World) (bl : List Nat) (n : Nat) (L' : List Value) (e : Ending) (w' : World) : Prop :=
  ∃ v' bl', e = .returned v' ∧ Sl w' 67 2 v' bl' n L' ∧ Tch (· ∈ bl) w w' ∧ (∀ y ∈ bl', y ∈ bl ∨ w.heap.size ≤ y)

theorem srcP {w : World} {xb xc : Nat} {V : List Value} (hx : Blk w xb V 67) (hV : V.length = 2) : Src Try.prog w 2 (.slice (some ⟨xb,0,none⟩) 1 xc) 1 V := by
  have := Src.blk (P := Try.prog) hx 2 0 1 xc (by omega)
  rwa [List.drop_zero, List.take_of_length_le (by omega)] at this

set_option maxRecDepth 100000 in
set_option maxHeartbeats 400000 in
theorem insP_end (v : Value) (bl : List Nat) (n : Nat) (L : List Value) (V : List Value) (w : World) (h : Sl w 67 2 v bl n L) (hn : n ≤ 1000000)
    (xb xc : Nat) (hx : Blk w xb V 67) (hV : V.length = 2) (h1c : ∀ u ∈ V, u.oneCell' = true) :
    Calls Try.prog 36 #[v, .int .i64 n, .slice (some ⟨xb,0,none⟩) 1 xc] w (InsPostP w bl (n + 1) (L ++ V)) := by
  obtain ⟨v', w', bl', hrun, hp⟩ := h.append (P := Try.prog) (t := 59) (t' := 59) (ty := 59) Try.underlying59 Try.underlying59 info67 (by decide) rfl (x := .slice (some ⟨xb,0,none⟩) 1 xc) (m := 1) (V := V)
    (srcP hx hV) (srcP hx.drew hV) h1c (by omega)
  have H := Lib.hid hrun; clear hrun
  have HP := Lib.hid hp; clear hp
  generalize L ++ V = L' at HP ⊢
  obtain ⟨a, cap, rfl, hcap⟩ := h.val
  clear h hx hV
  go_enter Try.func36, Try.ntmps36
  go_wp2_with (at_builtin; refine wpList_append rfl (.tmp 23) (.tmp 24) 59 59 rfl _ _ H.out ?_)
  all_goals go_ret
  all_goals exact ⟨_, _, rfl, HP.out⟩

set_option maxRecDepth 100000 in
set_option maxHeartbeats 1000000 in
theorem insP_fit (b : Nat) (i n cap : Nat) (L sp : List Value) (w : World) (hb : Blk w b (L ++ sp) 67) (hl : L.length = n * 2) (hc : (L ++ sp).length = cap * 2) (hfit : n + 1 ≤ cap) (hi : i < n) (hn : n ≤ 1000000)
    (xb xc : Nat) (V : List Value) (hx : Blk w xb V 67) (hV : V.length = 2) (h1c : ∀ u ∈ V, u.oneCell' = true) (h1L : ∀ u ∈ L, u.oneCell' = true) (hne : xb ≠ b) :
    Calls Try.prog 36 #[.slice (some ⟨b,0,none⟩) n cap, .int .i64 i, .slice (some ⟨xb,0,none⟩) 1 xc] w (InsPostP w [b] (n + 1) (L.take (i * 2) ++ V ++ L.drop (i * 2))) := by
  have hle : i ≤ cap := by omega
  have hsp : 2 ≤ sp.length := by rw [List.length_append] at hc; omega
  have hdl : (L.drop (i * 2)).length = (n - i) * 2 := by rw [List.length_drop, hl]; omega
  -- the first copy: from i on, one to the right
  have hrun1 := run_copy_blk (P := Try.prog) w.drew (t := 59) (t' := 59) (ty := 3) Try.underlying59 info67s (b := b) (o := (i + 1) * 2) (dl := n - i) (dc := cap - (i + 1)) hb.drew
    (Src.blk (P := Try.prog) hb.drew 2 (i * 2) (n + 1 - i) (cap - i) (by rw [hc]; omega)) (k := n - i) (by simp only [Nat.min_def]; split <;> omega) (cs := L.drop (i * 2)) (by
      rw [List.take_take, Nat.min_eq_left (by omega), List.drop_append_of_le_length (by omega), ← hdl, List.take_left'] <;> simp) (fun u hu => h1L u (List.mem_of_mem_drop hu)) (by rw [hc]; omega)
  have es : spl (L ++ sp) ((i + 1) * 2) (L.drop (i * 2)) = L.take (i * 2) ++ (((L.drop (i * 2)).take 2 ++ L.drop (i * 2)) ++ sp.drop 2) := by
    have := spl_shift (sp := sp) hl hi
    rw [show (i + 1) * 2 = i * 2 + 2 from by omega, this]; simp
  rw [es] at hrun1
  have hb1 := (hb.drew.putB_same (L.take (i * 2) ++ (((L.drop (i * 2)).take 2 ++ L.drop (i * 2)) ++ sp.drop 2)) 67)
  have ht1 : Tch (· ∈ [b]) w _ := (Tch.drew _ w).trans (Tch.putB w.drew (S := (· ∈ [b])) (b := b) (by simp) (L.take (i * 2) ++ (((L.drop (i * 2)).take 2 ++ L.drop (i * 2)) ++ sp.drop 2)) 67) (fun _ _ h => h)
  generalize hw1 : putB w.drew b (L.take (i * 2) ++ (((L.drop (i * 2)).take 2 ++ L.drop (i * 2)) ++ sp.drop 2)) 67 = w1 at hrun1 hb1 ht1
  clear hw1
  have hx1 := ht1.get hx (by simpa using hne)
  have hkk : (2 : Nat) ≤ (L.drop (i * 2)).length := by omega
  -- the second one: V at i
  have hrun2 := run_copy_blk (P := Try.prog) w1 (t := 59) (t' := 59) (ty := 3) Try.underlying59 info67s (b := b) (o := i * 2) (dl := n + 1 - i) (dc := cap - i) hb1 (srcP (xc := xc) hx1 hV)
    (k := 1) (by simp only [Nat.min_def]; split <;> omega) (cs := V) (List.take_of_length_le (by omega)) h1c (by simp; omega)
  have es2 := spl_fill (A := L.take (i * 2)) (X := (L.drop (i * 2)).take 2) (C := L.drop (i * 2) ++ sp.drop 2) (V := V) (o := i * 2) (k := 2) (by simp; omega) (by rw [List.length_take]; omega) hV
  rw [List.append_assoc ((L.drop (i * 2)).take 2), es2] at hrun2
  have hb2 := hb1.putB_same (L.take (i * 2) ++ V ++ (L.drop (i * 2) ++ sp.drop 2)) 67
  have ht2 : Tch (· ∈ [b]) w _ := ht1.trans (Tch.putB w1 (S := (· ∈ [b])) (b := b) (by simp) (L.take (i * 2) ++ V ++ (L.drop (i * 2) ++ sp.drop 2)) 67) (fun _ _ h => h)
  have hfin : InsPostP w [b] (n + 1) (L.take (i * 2) ++ V ++ L.drop (i * 2)) (.returned (.slice (some ⟨b, 0, none⟩) (n + 1) cap)) (putB w1 b (L.take (i * 2) ++ V ++ (L.drop (i * 2) ++ sp.drop 2)) 67) := by
    refine ⟨_, _, rfl, Sl.mk (sp := sp.drop 2) (by rw [List.append_assoc (L.take (i * 2) ++ V)]; exact hb2) ?_ ?_ hfit, ht2, by simp⟩
    · simp [hV, hl]; omega
    · simp [hV, hl]; simp [hl] at hc; omega
  generalize L.take (i * 2) ++ V ++ L.drop (i * 2) = L' at hfin ⊢
  generalize putB w1 b _ 67 = w2 at hrun2 hfin
  have Hb := Lib.hid hb; have Hx := Lib.hid hx; have Hl := Lib.hid hl; have Hc := Lib.hid hc
  have R1 := Lib.hid hrun1; have R2 := Lib.hid hrun2; have HF := Lib.hid hfin
  clear hb hx hl hc hV h1c hrun1 hrun2 hfin h1L hdl es hb1 ht1 hx1 hkk es2 hb2 ht2
  go_enter Try.func36, Try.ntmps36
  go_wp2_with fail
  rw [ov46 w b xb _ _ _ _ _ _ _ _ _ Hb.out Hx.out hne (by rw [Hc.out]; omega)]
  rw [Oper.upon_value]
  go_wp2_with fail
  have e1 : IntKind.i64.wrap ((i : Int) + 1) = (i : Int) + 1 := IntWalk.i64_in _ (by omega)
  have e2 : (0 : Int) ≤ (i : Int) + 1 := by omega
  have e3 : ((i : Int) + 1).toNat = i + 1 := by omega
  have e4 : (i : Int) + 1 ≤ (n : Int) + 1 := by omega
  have e5 : (i : Int) ≤ (n : Int) + 1 := by omega
  have e6 : ¬ cap = i + 1 := by omega
  have e7 : ¬ cap = i := by omega
  go_region_law (refine step_copyV rfl (.tmp 73) (.tmp 76) 59 59 3 rfl rfl _ _ (by go_simp) (by go_simp) _ _ R1.out ?_)
  all_goals clear e1 e2 e3
  all_goals go_wp2_with fail
  all_goals rw [R2.out, Result.andThen_ok, Oper.upon_value]
  all_goals go_wp2_with fail
  all_goals go_ret
  all_goals exact HF.out

set_option maxRecDepth 100000 in
set_option maxHeartbeats 1000000 in
theorem insP_grow (b : Nat) (i n cap : Nat) (L sp : List Value) (w : World) (hb : Blk w b (L ++ sp) 67) (hl : L.length = n * 2) (hc : (L ++ sp).length = cap * 2) (hnc : n ≤ cap) (hgr : cap < n + 1) (hi : i < n) (hn : n ≤ 1000000)
    (xb xc : Nat) (V : List Value) (hx : Blk w xb V 67) (hV : V.length = 2) (h1c : ∀ u ∈ V, u.oneCell' = true) (h1L : ∀ u ∈ L, u.oneCell' = true) (hne : xb ≠ b) :
    Calls Try.prog 36 #[.slice (some ⟨b,0,none⟩) n cap, .int .i64 i, .slice (some ⟨xb,0,none⟩) 1 xc] w (InsPostP w [b] (n + 1) (L.take (i * 2) ++ V ++ L.drop (i * 2))) := by
  have hle : i ≤ cap := by omega
  have hdl : (L.drop (i * 2)).length = (n - i) * 2 := by rw [List.length_drop, hl]; omega
  have htl : (L.take (i * 2)).length = i * 2 := by rw [List.length_take, hl]; omega
  -- the new row
  obtain ⟨c, hcc, hrun0⟩ := run_append_make (P := Try.prog) w (t := 59) (t' := 3) (ty := 59) Try.underlying59 Try.underlying3 info67 (by decide) (by decide) (base := some ⟨b, 0, none⟩) (n := i) (cap := cap) (old := L.take (i * 2)) (by
      have := Src.blk (P := Try.prog) hb.drew 2 0 i cap (by rw [hc]; omega)
      rwa [List.drop_zero, List.take_append_of_le_length (by omega)] at this) (m := n + 1 - i) (by omega) (by omega) (by omega)
  rw [show i + (n + 1 - i) = n + 1 from by omega, show ((n + 1 - i : Nat) : Int) = (n : Int) + 1 - (i : Int) from by omega] at hrun0
  rw [show i + (n + 1 - i) = n + 1 from by omega] at hcc
  have hb0 := Blk.new w.drew (L.take (i * 2) ++ zs (.agg #[.string ByteArray.empty, .int .i64 0]) (n + 1 - i) ++ zs (.agg #[.string ByteArray.empty, .int .i64 0]) (c - (n + 1))) 67
  have ht0 : Tch (· ∈ [b]) w _ := (Tch.drew _ w).trans (Tch.alloc (· ∈ [b]) w.drew (.cells (L.take (i * 2) ++ zs (.agg #[.string ByteArray.empty, .int .i64 0]) (n + 1 - i) ++ zs (.agg #[.string ByteArray.empty, .int .i64 0]) (c - (n + 1))).toArray 67)) (fun _ _ h => h)
  have htf : Tch (fun _ => False) w _ := (Tch.drew _ w).trans (Tch.alloc (fun _ => False) w.drew (.cells (L.take (i * 2) ++ zs (.agg #[.string ByteArray.empty, .int .i64 0]) (n + 1 - i) ++ zs (.agg #[.string ByteArray.empty, .int .i64 0]) (c - (n + 1))).toArray 67)) (fun _ _ h => h)
  generalize w.drew.alloc _ = w0 at hrun0 hb0 ht0 htf
  rw [World.size_drew] at hb0
  have hzl : ∀ m, (zs (.agg #[.string ByteArray.empty, .int .i64 0]) m).length = m * 2 := fun m => zs_length _ _
  have hx0 := ht0.get hx (by simpa using hne)
  have hb00 : Blk w0 b (L ++ sp) 67 := htf.get hb (fun h => h)
  -- V into it
  have hrun1 := run_copy_blk (P := Try.prog) w0 (t := 59) (t' := 59) (ty := 3) Try.underlying59 info67s (b := w.heap.size) (o := i * 2) (dl := n + 1 - i) (dc := c - i) hb0 (srcP (xc := xc) hx0 hV)
    (k := 1) (by simp only [Nat.min_def]; split <;> omega) (cs := V) (List.take_of_length_le (by omega)) h1c (by simp [hzl]; omega)
  have es1 := spl_fill (A := L.take (i * 2)) (X := (zs (.agg #[.string ByteArray.empty, .int .i64 0]) (n + 1 - i)).take 2) (C := (zs (.agg #[.string ByteArray.empty, .int .i64 0]) (n + 1 - i)).drop 2 ++ zs (.agg #[.string ByteArray.empty, .int .i64 0]) (c - (n + 1))) (V := V) (o := i * 2) (k := 2) (by omega) (by rw [List.length_take, hzl]; omega) hV
  rw [← List.append_assoc ((zs (.agg #[.string ByteArray.empty, .int .i64 0]) (n + 1 - i)).take 2), List.take_append_drop, ← List.append_assoc (L.take (i * 2))] at es1
  rw [es1] at hrun1
  have hb1 := hb0.putB_same (L.take (i * 2) ++ V ++ ((zs (.agg #[.string ByteArray.empty, .int .i64 0]) (n + 1 - i)).drop 2 ++ zs (.agg #[.string ByteArray.empty, .int .i64 0]) (c - (n + 1)))) 67
  have ht1 : Tch (fun x => x = w.heap.size) w0 _ := Tch.putB w0 (S := fun x => x = w.heap.size) (b := w.heap.size) rfl (L.take (i * 2) ++ V ++ ((zs (.agg #[.string ByteArray.empty, .int .i64 0]) (n + 1 - i)).drop 2 ++ zs (.agg #[.string ByteArray.empty, .int .i64 0]) (c - (n + 1)))) 67
  generalize putB w0 w.heap.size _ 67 = w1 at hrun1 hb1 ht1
  have hb11 : Blk w1 b (L ++ sp) 67 := ht1.get hb00 (by have := hb.lt; omega)
  -- the rest
  have hrun2 := run_copy_blk (P := Try.prog) w1.drew (t := 59) (t' := 59) (ty := 3) Try.underlying59 info67s (b := w.heap.size) (o := (i + 1) * 2) (dl := n - i) (dc := c - (i + 1)) hb1.drew
    (Src.blk (P := Try.prog) hb11.drew 2 (i * 2) (n - i) (cap - i) (by rw [hc]; omega)) (k := n - i) (by simp only [Nat.min_def]; split <;> omega) (cs := L.drop (i * 2)) (by
      rw [List.take_take, Nat.min_eq_left (by omega), List.drop_append_of_le_length (by omega), ← hdl, List.take_left'] <;> simp) (fun u hu => h1L u (List.mem_of_mem_drop hu)) (by simp [hzl, hV]; omega)
  have es2 := spl_fill (A := L.take (i * 2) ++ V) (X := ((zs (.agg #[.string ByteArray.empty, .int .i64 0]) (n + 1 - i)).drop 2)) (C := zs (.agg #[.string ByteArray.empty, .int .i64 0]) (c - (n + 1))) (V := L.drop (i * 2)) (o := (i + 1) * 2) (k := (n - i) * 2) (by rw [List.length_append, htl, hV]; omega) (by rw [List.length_drop, hzl]; omega) hdl
  rw [es2] at hrun2
  have hb2 := hb1.drew.putB_same (L.take (i * 2) ++ V ++ L.drop (i * 2) ++ zs (.agg #[.string ByteArray.empty, .int .i64 0]) (c - (n + 1))) 67
  have ht2 : Tch (fun x => x = w.heap.size) w1 _ := (Tch.drew _ w1).trans (Tch.putB w1.drew (S := fun x => x = w.heap.size) (b := w.heap.size) rfl (L.take (i * 2) ++ V ++ L.drop (i * 2) ++ zs (.agg #[.string ByteArray.empty, .int .i64 0]) (c - (n + 1))) 67) (fun _ _ h => h)
  generalize putB w1.drew w.heap.size _ 67 = w2 at hrun2 hb2 ht2
  have hfin : InsPostP w [b] (n + 1) (L.take (i * 2) ++ V ++ L.drop (i * 2)) (.returned (.slice (some ⟨w.heap.size, 0, none⟩) (n + 1) c)) w2 := by
    refine ⟨_, [w.heap.size], rfl, Sl.mk hb2 ?_ ?_ hcc, (ht0.trans ht1 ?_).trans ht2 ?_, by simp⟩
    · simp [hV, hl]; omega
    · simp [hV, hl, hzl]; omega
    · intro k hk e; omega
    · intro k hk e; omega
  generalize L.take (i * 2) ++ V ++ L.drop (i * 2) = L' at hfin ⊢
  have R0 := Lib.hid hrun0; have R1 := Lib.hid hrun1; have R2 := Lib.hid hrun2; have HF := Lib.hid hfin
  clear hb hx hl hc hV h1c hrun0 hrun1 hrun2 hfin h1L hdl htl hb0 ht0 htf hzl hx0 hb00 es1 hb1 ht1 hb11 es2 hb2 ht2
  go_enter Try.func36, Try.ntmps36
  go_wp2_with (at_builtin; refine wpList_append rfl (.tmp 34) (.tmp 39) 59 3 rfl _ _ R0.out ?_)
  rw [R1.out, Result.andThen_ok, Oper.upon_value]
  go_wp2_with fail
  have e1 : IntKind.i64.wrap ((i : Int) + 1) = (i : Int) + 1 := IntWalk.i64_in _ (by omega)
  have e2 : (0 : Int) ≤ (i : Int) + 1 := by omega
  have e3 : ((i : Int) + 1).toNat = i + 1 := by omega
  have e4 : (i : Int) + 1 ≤ (n : Int) + 1 := by omega
  have e5 : (i : Int) ≤ (n : Int) := by omega
  have e7 : ¬ cap = i := by omega
  have e8 : ¬ c = i + 1 := by omega
  go_region_law (refine step_copyV rfl (.tmp 50) (.tmp 53) 59 59 3 rfl rfl _ _ (by go_simp) (by go_simp) _ _ R2.out ?_)
  all_goals clear e1 e2 e3
  all_goals go_wp2_with fail
  all_goals go_ret
  all_goals exact HF.out

theorem insP_any {v : Value} {bl : List Nat} {n : Nat} {L : List Value} {w : World} (h : Sl w 67 2 v bl n L) (hn : n ≤ 1000000) (i : Nat) (hi : i ≤ n)
    (xb xc : Nat) (V : List Value) (hx : Blk w xb V 67) (hV : V.length = 2) (h1c : ∀ u ∈ V, u.oneCell' = true) (h1L : ∀ u ∈ L, u.oneCell' = true) (hne : xb ∉ bl) :
    Calls Try.prog 36 #[v, .int .i64 i, .slice (some ⟨xb,0,none⟩) 1 xc] w (InsPostP w bl (n + 1) (L.take (i * 2) ++ V ++ L.drop (i * 2))) := by
  by_cases e : i = n
  · subst e
    have hl := h.len
    have := insP_end v bl i L V w h hn xb xc hx hV h1c
    rwa [List.take_of_length_le (by omega), List.drop_of_length_le (by omega), List.append_nil]
  · obtain ⟨b, cap, sp, rfl, rfl, hb, hl, hc, hnc⟩ := h.pos (by omega)
    by_cases hf : n + 1 ≤ cap
    · exact insP_fit b i n cap L sp w hb hl hc hf (by omega) hn xb xc V hx hV h1c h1L (by simpa using hne)
    · exact insP_grow b i n cap L sp w hb hl hc hnc (by omega) (by omega) hn xb xc V hx hV h1c h1L (by simpa using hne)

theorem zcellP : ∀ k, ∀ v ∈ zs (.agg #[.string ByteArray.empty, .int .i64 0]) k, v.oneCell' = true := by
  intro k v hv
  simp only [zs, Builtin.zeroCells, Array.toList_map, List.mem_map] at hv
  obtain ⟨i, _, rfl⟩ := hv
  have : ∀ j, j < 2 → ((Value.cells (.agg #[.string ByteArray.empty, .int .i64 0]))[j]!).oneCell' = true := by decide +kernel
  exact this _ (Nat.mod_lt _ (by decide))

set_option maxRecDepth 100000 in
set_option maxHeartbeats 1000000 in
/-- Delete of one element -/
theorem delP_any {v : Value} {bl : List Nat} {n : Nat} {L : List Value} {w : World} (h : Sl w 67 2 v bl n L) (hn : n ≤ 1000000) (i : Nat) (hi : i < n) (h1L : ∀ u ∈ L, u.oneCell' = true) :
    Calls Try.prog 43 #[v, .int .i64 i, .int .i64 ((i : Int) + 1)] w (InsPostP w bl (n - 1) (L.take (i * 2) ++ L.drop (i * 2 + 2))) := by
  obtain ⟨b, cap, sp, rfl, rfl, hb, hl, hc, hnc⟩ := h.pos (by omega)
  clear h
  have hdl : (L.drop (i * 2 + 2)).length = (n - 1 - i) * 2 := by rw [List.length_drop, hl]; omega
  have htl : (L.take (i * 2)).length = i * 2 := by rw [List.length_take, hl]; omega
  have hle : i ≤ cap := by omega
  -- what lies behind goes one to the left
  have hsrc : ∀ a : Option Addr, (¬ cap = i + 1 → a = some ⟨b, (i + 1) * 2, none⟩) → Src Try.prog w.drew 2 (.slice a (n - (i + 1)) (cap - (i + 1))) (n - (i + 1)) (L.drop (i * 2 + 2)) := by
    intro a ha
    by_cases hz : n - (i + 1) = 0
    · rw [hz, List.drop_of_length_le (by rw [hl]; omega)]
      exact Src.empty _ _ _ _
    · rw [ha (by omega)]
      have := Src.blk (P := Try.prog) hb.drew 2 ((i + 1) * 2) (n - (i + 1)) (cap - (i + 1)) (by rw [hc]; omega)
      have hd : (List.drop ((i + 1) * 2) (L ++ sp)).take ((n - (i + 1)) * 2) = L.drop (i * 2 + 2) := by
        have e0 : (i + 1) * 2 = i * 2 + 2 := by omega
        have e1 : List.drop ((i + 1) * 2) (L ++ sp) = List.drop (i * 2 + 2) (L ++ sp) := congrArg (List.drop · (L ++ sp)) e0
        rw [e1, List.drop_append_of_le_length (by omega), List.take_left' (by rw [hdl]; omega)]
      rwa [hd] at this
  have hrun1 : ∀ a : Option Addr, (¬ cap = i + 1 → a = some ⟨b, (i + 1) * 2, none⟩) →
      (Builtin.append_ #[59, 59] 59 #[.slice (some ⟨b, 0, none⟩) i cap, .slice a (n - (i + 1)) (cap - (i + 1))]).run Try.prog w.drew =
        .ok (.slice (some ⟨b, 0, none⟩) (n - 1) cap) (putB w.drew b (spl (L ++ sp) (i * 2) (L.drop (i * 2 + 2))) 67) := by
    intro a ha
    have := run_append_fit (P := Try.prog) w.drew (t := 59) (t' := 59) (ty := 59) Try.underlying59 Try.underlying59 info67s (b := b) (n := i) (cap := cap) hb.drew (hsrc a ha) (fun u hu => h1L u (List.mem_of_mem_drop hu)) (by omega) (by rw [hc]; omega)
    rwa [show i + (n - (i + 1)) = n - 1 from by omega] at this
  have es1 : spl (L ++ sp) (i * 2) (L.drop (i * 2 + 2)) = (L.take (i * 2) ++ L.drop (i * 2 + 2)) ++ (L.drop ((n - 1) * 2) ++ sp) := by
    unfold spl
    rw [List.take_append_of_le_length (by omega), hdl, show i * 2 + (n - 1 - i) * 2 = (n - 1) * 2 from by omega, List.drop_append_of_le_length (by omega)]
  rw [es1] at hrun1
  have hb1 := hb.drew.putB_same ((L.take (i * 2) ++ L.drop (i * 2 + 2)) ++ (L.drop ((n - 1) * 2) ++ sp)) 67
  have ht1 : Tch (· ∈ [b]) w _ := (Tch.drew _ w).trans (Tch.putB w.drew (S := (· ∈ [b])) (b := b) (by simp) ((L.take (i * 2) ++ L.drop (i * 2 + 2)) ++ (L.drop ((n - 1) * 2) ++ sp)) 67) (fun _ _ h => h)
  generalize putB w.drew b _ 67 = w1 at hrun1 hb1 ht1
  have hll : (L.drop ((n - 1) * 2)).length = 2 := by rw [List.length_drop, hl]; omega
  -- the last place becomes noughts
  have hrun2 := fun c' : Nat => run_clear_blk (P := Try.prog) w1 (t := 59) (ty := 0) (e := 67) (size := 2) (z := (.agg #[.string ByteArray.empty, .int .i64 0])) Try.underlying59 info67z rfl zcellP (b := b) (o := (n - 1) * 2) (n := n - (n - 1)) (cap := c') hb1 (by simp [hl]; omega)
  simp only [show n - (n - 1) = 1 from by omega] at hrun2
  have es2 := spl_fill (A := L.take (i * 2) ++ L.drop (i * 2 + 2)) (X := L.drop ((n - 1) * 2)) (C := sp) (V := zs (.agg #[.string ByteArray.empty, .int .i64 0]) 1) (o := (n - 1) * 2) (k := 2) (by rw [List.length_append, htl, hdl]; omega) hll (zs_length _ _)
  simp only [es2] at hrun2
  have hb2 := hb1.putB_same (L.take (i * 2) ++ L.drop (i * 2 + 2) ++ zs (.agg #[.string ByteArray.empty, .int .i64 0]) 1 ++ sp) 67
  have ht2 : Tch (· ∈ [b]) w _ := ht1.trans (Tch.putB w1 (S := (· ∈ [b])) (b := b) (by simp) (L.take (i * 2) ++ L.drop (i * 2 + 2) ++ zs (.agg #[.string ByteArray.empty, .int .i64 0]) 1 ++ sp) 67) (fun _ _ h => h)
  generalize putB w1 b _ 67 = w2 at hrun2 hb2 ht2
  have hfin : InsPostP w [b] (n - 1) (L.take (i * 2) ++ L.drop (i * 2 + 2)) (.returned (.slice (some ⟨b, 0, none⟩) (n - 1) cap)) w2 := by
    refine ⟨_, _, rfl, Sl.mk (sp := zs (.agg #[.string ByteArray.empty, .int .i64 0]) 1 ++ sp) (by rw [← List.append_assoc]; exact hb2) ?_ ?_ (by omega), ht2, by simp⟩
    · rw [List.length_append, htl, hdl]; omega
    · have hz := zs_length (.agg #[.string ByteArray.empty, .int .i64 0]) 1
      have hz2 : (.agg #[.string ByteArray.empty, .int .i64 0] : Value).cells.size = 2 := rfl
      simp only [List.length_append, htl, hdl, hz, hz2] at hc ⊢; omega
  generalize L.take (i * 2) ++ L.drop (i * 2 + 2) = L' at hfin ⊢
  have R1 := Lib.hid (hrun1 (if cap = i + 1 then some ⟨b, 0, none⟩ else some ⟨b, (i + 1) * 2, none⟩) (by intro h; simp [h])); have R2 := Lib.hid hrun2; have HF := Lib.hid hfin
  clear hb hl hc h1L hdl htl hsrc hrun1 hrun2 hfin es1 hb1 ht1 es2 hb2 ht2 hll
  go_enter Try.func43, Try.ntmps43
  go_wp2_with fail
  have e1 : (i : Int) ≤ (cap : Int) := by omega
  have e2 : (0 : Int) ≤ (i : Int) + 1 := by omega
  have e3 : ((i : Int) + 1).toNat = i + 1 := by omega
  have e4 : (i : Int) + 1 ≤ (n : Int) := by omega
  go_region_law (refine step_appendV rfl (.tmp 22) (.tmp 25) 59 59 59 rfl rfl (.slice (some ⟨b, 0, none⟩) i cap) (.slice (if cap = i + 1 then some ⟨b, 0, none⟩ else some ⟨b, (i + 1) * 2, none⟩) (n - (i + 1)) (cap - (i + 1))) (by go_simp) (by go_simp) _ _ R1.out ?_)
  go_wp2_with fail
  all_goals rw [show n - (n - 1) = 1 from by omega, R2.out, Result.andThen_ok, Oper.upon_value]
  all_goals go_wp2_with fail
  all_goals go_ret
  · have HF' := HF.out
    simp only [‹cap = i + 1›] at HF'
    exact HF'
  · exact HF.out

/-- what Clone leaves: a slice of its own with the same cells -/
def ClonePostP (w : World) (n : Nat) (L : List Value) (e : Ending) (w' : World) : Prop :=
  ∃ v' bl', e = .returned v' ∧ Sl w' 67 2 v' bl' n L ∧ Tch (fun _ => False) w w' ∧ (∀ y ∈ bl', w.heap.size ≤ y)

set_option maxHeartbeats 1000000 in
theorem cloneP_any (a : Addr) (n cap : Nat) (L : List Value) (w : World) (hs : ∀ w', Tch (fun _ => False) w w' → Src Try.prog w' 2 (.slice (some a) n cap) n L) (hn : n ≤ 1000000) (h1L : ∀ u ∈ L, u.oneCell' = true) :
    Calls Try.prog 38 #[.slice (some a) n cap] w (ClonePostP w n L) := by
  have ht : Tch (fun _ => False) w _ := Tch.alloc (fun _ => False) w (.cells ([] : List Value).toArray 67)
  have hsl : Sl (w.alloc (.cells ([] : List Value).toArray 67)) 67 2 (.slice (some ⟨w.heap.size, 0, none⟩) 0 0) [w.heap.size] 0 [] := Sl.mk (sp := []) (Blk.new w [] 67) (by simp) (by simp) (Nat.le_refl _)
  obtain ⟨v', w', bl', hrun, hp1, hp2, hp3⟩ := hsl.append (P := Try.prog) (t := 59) (t' := 59) (ty := 59) Try.underlying59 Try.underlying59 info67 (by decide) rfl (hs _ ht) (hs _ (ht.trans (Tch.drew (fun _ => False) _) (fun _ _ h => h))) h1L (by omega)
  rw [Nat.zero_add, List.nil_append] at hp1
  have hfin : ClonePostP w n L (.returned v') w' := ⟨v', bl', rfl, hp1, ht.trans hp2 (fun k hk h => by simp at h; omega), fun y hy => by
    rcases hp3 y hy with h | h
    · simp at h; omega
    · simp at h; omega⟩
  have R := Lib.hid hrun; have HF := Lib.hid hfin
  clear hs ht hsl hrun hp1 hp2 hp3 hfin h1L
  have heq : ∀ W, (binOp .eql 59 (.slice (some a) n cap) (.slice none 0 0)).run Try.prog W = .ok (.bool false) W := fun W => Lib.run_eql_slice_nil (P := Try.prog) W 59 67 (some a) n cap 0 0 Try.underlying59
  go_enter Try.func38, Try.ntmps38
  go_wp2_with (at_builtin; refine wpList_append rfl (.tmp 5) (.tmp 6) 59 59 rfl _ _ R.out ?_)
  go_ret
  exact HF.out

theorem info58 : (Try.prog.info? 58).map (fun i => (i.zero, i.size, i.bytes)) = some (some (.pointer none), 1, 8) := by kernel_rfl
theorem info58s : (Try.prog.info? 58).map (·.size) = some 1 := by kernel_rfl
theorem info58z : (Try.prog.info? 58).map (fun i => (i.zero, i.size)) = some (some (.pointer none), 1) := by kernel_rfl
theorem size58 (w : World) : (Go.sizeOf 58).run Try.prog w = .ok 1 w := by
  obtain ⟨i, hi, hs⟩ := Option.map_eq_some_iff.1 info58s
  simp [sizeOf, typeInfo, hi, hs]
theorem ov48 (w : World) (b vb o n c m d : Nat) (L V : List Value) (T T' : TypeId) (hb : Blk w b L T) (hx : Blk w vb V T') (hne : vb ≠ b) (hL : L.length ≠ 0) :
   (callFunc 48 #[.slice (some ⟨vb,0,none⟩) m d, .slice (some ⟨b,o,none⟩) n c]).run Try.prog w = .ok (.value (.bool false)) w := by
  rw [run_callFunc_extern Try.func48 (by kernel_rfl) (by kernel_rfl) (by kernel_rfl) (e := Extern.SlicesOverlaps.overlaps #[60, 60] #[4]) (by kernel_rfl),
    Lib.run_overlaps_apart w 60 4 58 Try.underlying60 1 size58 ⟨vb,0,none⟩ ⟨b,o,none⟩ m d n c hne T' T _ _ hx.shape hb.shape hL (hx.frozen 0) (hx.frozen _)]
  rfl

/-- what Insert leaves: the slice with V's cells at the element i -/
def InsPostN (w : World) (bl : List Nat) (n : Nat) (L' : List Value) (e : Ending) (w' : World) : Prop :=
  ∃ v' bl', e = .returned v' ∧ Sl w' 58 1 v' bl' n L' ∧ Tch (· ∈ bl) w w' ∧ (∀ y ∈ bl', y ∈ bl ∨ w.heap.size ≤ y)

theorem srcN {w : World} {xb xc : Nat} {V : List Value} (hx : Blk w xb V 58) (hV : V.length = 1) : Src Try.prog w 1 (.slice (some ⟨xb,0,none⟩) 1 xc) 1 V := by
  have := Src.blk (P := Try.prog) hx 1 0 1 xc (by omega)
  rwa [List.drop_zero, List.take_of_length_le (by omega)] at this

set_option maxRecDepth 100000 in
set_option maxHeartbeats 400000 in
theorem insN_end (v : Value) (bl : List Nat) (n : Nat) (L : List Value) (V : List Value) (w : World) (h : Sl w 58 1 v bl n L) (hn : n ≤ 1000000)
    (xb xc : Nat) (hx : Blk w xb V 58) (hV : V.length = 1) (h1c : ∀ u ∈ V, u.oneCell' = true) :
    Calls Try.prog 37 #[v, .int .i64 n, .slice (some ⟨xb,0,none⟩) 1 xc] w (InsPostN w bl (n + 1) (L ++ V)) := by
  obtain ⟨v', w', bl', hrun, hp⟩ := h.append (P := Try.prog) (t := 60) (t' := 60) (ty := 60) Try.underlying60 Try.underlying60 info58 (by decide) rfl (x := .slice (some ⟨xb,0,none⟩) 1 xc) (m := 1) (V := V)
    (srcN hx hV) (srcN hx.drew hV) h1c (by omega)
  have H := Lib.hid hrun; clear hrun
  have HP := Lib.hid hp; clear hp
  generalize L ++ V = L' at HP ⊢
  obtain ⟨a, cap, rfl, hcap⟩ := h.val
  clear h hx hV
  go_enter Try.func37, Try.ntmps37
  go_wp2_with (at_builtin; refine wpList_append rfl (.tmp 23) (.tmp 24) 60 60 rfl _ _ H.out ?_)
  all_goals go_ret
  all_goals exact ⟨_, _, rfl, HP.out⟩

set_option maxRecDepth 100000 in
set_option maxHeartbeats 1000000 in
theorem insN_fit (b : Nat) (i n cap : Nat) (L sp : List Value) (w : World) (hb : Blk w b (L ++ sp) 58) (hl : L.length = n * 1) (hc : (L ++ sp).length = cap * 1) (hfit : n + 1 ≤ cap) (hi : i < n) (hn : n ≤ 1000000)
    (xb xc : Nat) (V : List Value) (hx : Blk w xb V 58) (hV : V.length = 1) (h1c : ∀ u ∈ V, u.oneCell' = true) (h1L : ∀ u ∈ L, u.oneCell' = true) (hne : xb ≠ b) :
    Calls Try.prog 37 #[.slice (some ⟨b,0,none⟩) n cap, .int .i64 i, .slice (some ⟨xb,0,none⟩) 1 xc] w (InsPostN w [b] (n + 1) (L.take (i * 1) ++ V ++ L.drop (i * 1))) := by
  have hle : i ≤ cap := by omega
  have hsp : 1 ≤ sp.length := by rw [List.length_append] at hc; omega
  have hdl : (L.drop (i * 1)).length = (n - i) * 1 := by rw [List.length_drop, hl]; omega
  -- the first copy: from i on, one to the right
  have hrun1 := run_copy_blk (P := Try.prog) w.drew (t := 60) (t' := 60) (ty := 3) Try.underlying60 info58s (b := b) (o := (i + 1)) (dl := n - i) (dc := cap - (i + 1)) hb.drew
    (Src.blk (P := Try.prog) hb.drew 1 (i) (n + 1 - i) (cap - i) (by rw [hc]; omega)) (k := n - i) (by simp only [Nat.min_def]; split <;> omega) (cs := L.drop (i * 1)) (by
      rw [List.take_take, Nat.min_eq_left (by omega), List.drop_append_of_le_length (by omega), ← hdl, List.take_left'] <;> simp) (fun u hu => h1L u (List.mem_of_mem_drop hu)) (by rw [hc]; omega)
  have es : spl (L ++ sp) ((i + 1)) (L.drop (i * 1)) = L.take (i * 1) ++ (((L.drop (i * 1)).take 1 ++ L.drop (i * 1)) ++ sp.drop 1) := by
    have := spl_shift (sp := sp) hl hi
    rw [show (i + 1) = i * 1 + 1 from by omega, this]; simp
  rw [es] at hrun1
  have hb1 := (hb.drew.putB_same (L.take (i * 1) ++ (((L.drop (i * 1)).take 1 ++ L.drop (i * 1)) ++ sp.drop 1)) 58)
  have ht1 : Tch (· ∈ [b]) w _ := (Tch.drew _ w).trans (Tch.putB w.drew (S := (· ∈ [b])) (b := b) (by simp) (L.take (i * 1) ++ (((L.drop (i * 1)).take 1 ++ L.drop (i * 1)) ++ sp.drop 1)) 58) (fun _ _ h => h)
  generalize hw1 : putB w.drew b (L.take (i * 1) ++ (((L.drop (i * 1)).take 1 ++ L.drop (i * 1)) ++ sp.drop 1)) 58 = w1 at hrun1 hb1 ht1
  clear hw1
  have hx1 := ht1.get hx (by simpa using hne)
  have hkk : (1 : Nat) ≤ (L.drop (i * 1)).length := by omega
  -- the second one: V at i
  have hrun2 := run_copy_blk (P := Try.prog) w1 (t := 60) (t' := 60) (ty := 3) Try.underlying60 info58s (b := b) (o := i) (dl := n + 1 - i) (dc := cap - i) hb1 (srcN (xc := xc) hx1 hV)
    (k := 1) (by simp only [Nat.min_def]; split <;> omega) (cs := V) (List.take_of_length_le (by omega)) h1c (by simp; omega)
  have es2 := spl_fill (A := L.take (i * 1)) (X := (L.drop (i * 1)).take 1) (C := L.drop (i * 1) ++ sp.drop 1) (V := V) (o := i) (k := 1) (by simp; omega) (by rw [List.length_take]; omega) hV
  rw [List.append_assoc ((L.drop (i * 1)).take 1), es2] at hrun2
  have hb2 := hb1.putB_same (L.take (i * 1) ++ V ++ (L.drop (i * 1) ++ sp.drop 1)) 58
  have ht2 : Tch (· ∈ [b]) w _ := ht1.trans (Tch.putB w1 (S := (· ∈ [b])) (b := b) (by simp) (L.take (i * 1) ++ V ++ (L.drop (i * 1) ++ sp.drop 1)) 58) (fun _ _ h => h)
  have hfin : InsPostN w [b] (n + 1) (L.take (i * 1) ++ V ++ L.drop (i * 1)) (.returned (.slice (some ⟨b, 0, none⟩) (n + 1) cap)) (putB w1 b (L.take (i * 1) ++ V ++ (L.drop (i * 1) ++ sp.drop 1)) 58) := by
    refine ⟨_, _, rfl, Sl.mk (sp := sp.drop 1) (by rw [List.append_assoc (L.take (i * 1) ++ V)]; exact hb2) ?_ ?_ hfit, ht2, by simp⟩
    · simp [hV, hl]; omega
    · simp [hV, hl]; simp [hl] at hc; omega
  generalize L.take (i * 1) ++ V ++ L.drop (i * 1) = L' at hfin ⊢
  generalize putB w1 b _ 58 = w2 at hrun2 hfin
  have Hb := Lib.hid hb; have Hx := Lib.hid hx; have Hl := Lib.hid hl; have Hc := Lib.hid hc
  have R1 := Lib.hid hrun1; have R2 := Lib.hid hrun2; have HF := Lib.hid hfin
  clear hb hx hl hc hV h1c hrun1 hrun2 hfin h1L hdl es hb1 ht1 hx1 hkk es2 hb2 ht2
  go_enter Try.func37, Try.ntmps37
  go_wp2_with fail
  rw [ov48 w b xb _ _ _ _ _ _ _ _ _ Hb.out Hx.out hne (by rw [Hc.out]; omega)]
  rw [Oper.upon_value]
  go_wp2_with fail
  have e1 : IntKind.i64.wrap ((i : Int) + 1) = (i : Int) + 1 := IntWalk.i64_in _ (by omega)
  have e2 : (0 : Int) ≤ (i : Int) + 1 := by omega
  have e3 : ((i : Int) + 1).toNat = i + 1 := by omega
  have e4 : (i : Int) + 1 ≤ (n : Int) + 1 := by omega
  have e5 : (i : Int) ≤ (n : Int) + 1 := by omega
  have e6 : ¬ cap = i + 1 := by omega
  have e7 : ¬ cap = i := by omega
  go_region_law (refine step_copyV rfl (.tmp 73) (.tmp 76) 60 60 3 rfl rfl _ _ (by go_simp) (by go_simp) _ _ R1.out ?_)
  all_goals clear e1 e2 e3
  all_goals go_wp2_with fail
  all_goals rw [R2.out, Result.andThen_ok, Oper.upon_value]
  all_goals go_wp2_with fail
  all_goals go_ret
  all_goals exact HF.out

set_option maxRecDepth 100000 in
set_option maxHeartbeats 1000000 in
theorem insN_grow (b : Nat) (i n cap : Nat) (L sp : List Value) (w : World) (hb : Blk w b (L ++ sp) 58) (hl : L.length = n * 1) (hc : (L ++ sp).length = cap * 1) (hnc : n ≤ cap) (hgr : cap < n + 1) (hi : i < n) (hn : n ≤ 1000000)
    (xb xc : Nat) (V : List Value) (hx : Blk w xb V 58) (hV : V.length = 1) (h1c : ∀ u ∈ V, u.oneCell' = true) (h1L : ∀ u ∈ L, u.oneCell' = true) (hne : xb ≠ b) :
    Calls Try.prog 37 #[.slice (some ⟨b,0,none⟩) n cap, .int .i64 i, .slice (some ⟨xb,0,none⟩) 1 xc] w (InsPostN w [b] (n + 1) (L.take (i * 1) ++ V ++ L.drop (i * 1))) := by
  have hle : i ≤ cap := by omega
  have hdl : (L.drop (i * 1)).length = (n - i) * 1 := by rw [List.length_drop, hl]; omega
  have htl : (L.take (i * 1)).length = i * 1 := by rw [List.length_take, hl]; omega
  -- the new row
  obtain ⟨c, hcc, hrun0⟩ := run_append_make (P := Try.prog) w (t := 60) (t' := 3) (ty := 60) Try.underlying60 Try.underlying3 info58 (by decide) (by decide) (base := some ⟨b, 0, none⟩) (n := i) (cap := cap) (old := L.take (i * 1)) (by
      have := Src.blk (P := Try.prog) hb.drew 1 0 i cap (by rw [hc]; omega)
      rwa [List.drop_zero, List.take_append_of_le_length (by omega)] at this) (m := n + 1 - i) (by omega) (by omega) (by omega)
  rw [show i + (n + 1 - i) = n + 1 from by omega, show ((n + 1 - i : Nat) : Int) = (n : Int) + 1 - (i : Int) from by omega] at hrun0
  rw [show i + (n + 1 - i) = n + 1 from by omega] at hcc
  have hb0 := Blk.new w.drew (L.take (i * 1) ++ zs (.pointer none) (n + 1 - i) ++ zs (.pointer none) (c - (n + 1))) 58
  have ht0 : Tch (· ∈ [b]) w _ := (Tch.drew _ w).trans (Tch.alloc (· ∈ [b]) w.drew (.cells (L.take (i * 1) ++ zs (.pointer none) (n + 1 - i) ++ zs (.pointer none) (c - (n + 1))).toArray 58)) (fun _ _ h => h)
  have htf : Tch (fun _ => False) w _ := (Tch.drew _ w).trans (Tch.alloc (fun _ => False) w.drew (.cells (L.take (i * 1) ++ zs (.pointer none) (n + 1 - i) ++ zs (.pointer none) (c - (n + 1))).toArray 58)) (fun _ _ h => h)
  generalize w.drew.alloc _ = w0 at hrun0 hb0 ht0 htf
  rw [World.size_drew] at hb0
  have hzl : ∀ m, (zs (.pointer none) m).length = m * 1 := fun m => zs_length _ _
  have hx0 := ht0.get hx (by simpa using hne)
  have hb00 : Blk w0 b (L ++ sp) 58 := htf.get hb (fun h => h)
  -- V into it
  have hrun1 := run_copy_blk (P := Try.prog) w0 (t := 60) (t' := 60) (ty := 3) Try.underlying60 info58s (b := w.heap.size) (o := i) (dl := n + 1 - i) (dc := c - i) hb0 (srcN (xc := xc) hx0 hV)
    (k := 1) (by simp only [Nat.min_def]; split <;> omega) (cs := V) (List.take_of_length_le (by omega)) h1c (by simp [hzl]; omega)
  have es1 := spl_fill (A := L.take (i * 1)) (X := (zs (.pointer none) (n + 1 - i)).take 1) (C := (zs (.pointer none) (n + 1 - i)).drop 1 ++ zs (.pointer none) (c - (n + 1))) (V := V) (o := i) (k := 1) (by omega) (by rw [List.length_take, hzl]; omega) hV
  rw [← List.append_assoc ((zs (.pointer none) (n + 1 - i)).take 1), List.take_append_drop, ← List.append_assoc (L.take (i * 1))] at es1
  rw [es1] at hrun1
  have hb1 := hb0.putB_same (L.take (i * 1) ++ V ++ ((zs (.pointer none) (n + 1 - i)).drop 1 ++ zs (.pointer none) (c - (n + 1)))) 58
  have ht1 : Tch (fun x => x = w.heap.size) w0 _ := Tch.putB w0 (S := fun x => x = w.heap.size) (b := w.heap.size) rfl (L.take (i * 1) ++ V ++ ((zs (.pointer none) (n + 1 - i)).drop 1 ++ zs (.pointer none) (c - (n + 1)))) 58
  generalize putB w0 w.heap.size _ 58 = w1 at hrun1 hb1 ht1
  have hb11 : Blk w1 b (L ++ sp) 58 := ht1.get hb00 (by have := hb.lt; omega)
  -- the rest
  have hrun2 := run_copy_blk (P := Try.prog) w1.drew (t := 60) (t' := 60) (ty := 3) Try.underlying60 info58s (b := w.heap.size) (o := (i + 1)) (dl := n - i) (dc := c - (i + 1)) hb1.drew
    (Src.blk (P := Try.prog) hb11.drew 1 (i) (n - i) (cap - i) (by rw [hc]; omega)) (k := n - i) (by simp only [Nat.min_def]; split <;> omega) (cs := L.drop (i * 1)) (by
      rw [List.take_take, Nat.min_eq_left (by omega), List.drop_append_of_le_length (by omega), ← hdl, List.take_left'] <;> simp) (fun u hu => h1L u (List.mem_of_mem_drop hu)) (by simp [hzl, hV]; omega)
  have es2 := spl_fill (A := L.take (i * 1) ++ V) (X := ((zs (.pointer none) (n + 1 - i)).drop 1)) (C := zs (.pointer none) (c - (n + 1))) (V := L.drop (i * 1)) (o := (i + 1)) (k := (n - i) * 1) (by rw [List.length_append, htl, hV]; omega) (by rw [List.length_drop, hzl]; omega) hdl
  rw [es2] at hrun2
  have hb2 := hb1.drew.putB_same (L.take (i * 1) ++ V ++ L.drop (i * 1) ++ zs (.pointer none) (c - (n + 1))) 58
  have ht2 : Tch (fun x => x = w.heap.size) w1 _ := (Tch.drew _ w1).trans (Tch.putB w1.drew (S := fun x => x = w.heap.size) (b := w.heap.size) rfl (L.take (i * 1) ++ V ++ L.drop (i * 1) ++ zs (.pointer none) (c - (n + 1))) 58) (fun _ _ h => h)
  generalize putB w1.drew w.heap.size _ 58 = w2 at hrun2 hb2 ht2
  have hfin : InsPostN w [b] (n + 1) (L.take (i * 1) ++ V ++ L.drop (i * 1)) (.returned (.slice (some ⟨w.heap.size, 0, none⟩) (n + 1) c)) w2 := by
    refine ⟨_, [w.heap.size], rfl, Sl.mk hb2 ?_ ?_ hcc, (ht0.trans ht1 ?_).trans ht2 ?_, by simp⟩
    · simp [hV, hl]; omega
    · simp [hV, hl, hzl]; omega
    · intro k hk e; omega
    · intro k hk e; omega
  generalize L.take (i * 1) ++ V ++ L.drop (i * 1) = L' at hfin ⊢
  have R0 := Lib.hid hrun0; have R1 := Lib.hid hrun1; have R2 := Lib.hid hrun2; have HF := Lib.hid hfin
  clear hb hx hl hc hV h1c hrun0 hrun1 hrun2 hfin h1L hdl htl hb0 ht0 htf hzl hx0 hb00 es1 hb1 ht1 hb11 es2 hb2 ht2
  go_enter Try.func37, Try.ntmps37
  go_wp2_with (at_builtin; refine wpList_append rfl (.tmp 34) (.tmp 39) 60 3 rfl _ _ R0.out ?_)
  rw [R1.out, Result.andThen_ok, Oper.upon_value]
  go_wp2_with fail
  have e1 : IntKind.i64.wrap ((i : Int) + 1) = (i : Int) + 1 := IntWalk.i64_in _ (by omega)
  have e2 : (0 : Int) ≤ (i : Int) + 1 := by omega
  have e3 : ((i : Int) + 1).toNat = i + 1 := by omega
  have e4 : (i : Int) + 1 ≤ (n : Int) + 1 := by omega
  have e5 : (i : Int) ≤ (n : Int) := by omega
  have e7 : ¬ cap = i := by omega
  have e8 : ¬ c = i + 1 := by omega
  go_region_law (refine step_copyV rfl (.tmp 50) (.tmp 53) 60 60 3 rfl rfl _ _ (by go_simp) (by go_simp) _ _ R2.out ?_)
  all_goals clear e1 e2 e3
  all_goals go_wp2_with fail
  all_goals go_ret
  all_goals exact HF.out

theorem insN_any {v : Value} {bl : List Nat} {n : Nat} {L : List Value} {w : World} (h : Sl w 58 1 v bl n L) (hn : n ≤ 1000000) (i : Nat) (hi : i ≤ n)
    (xb xc : Nat) (V : List Value) (hx : Blk w xb V 58) (hV : V.length = 1) (h1c : ∀ u ∈ V, u.oneCell' = true) (h1L : ∀ u ∈ L, u.oneCell' = true) (hne : xb ∉ bl) :
    Calls Try.prog 37 #[v, .int .i64 i, .slice (some ⟨xb,0,none⟩) 1 xc] w (InsPostN w bl (n + 1) (L.take (i * 1) ++ V ++ L.drop (i * 1))) := by
  by_cases e : i = n
  · subst e
    have hl := h.len
    have := insN_end v bl i L V w h hn xb xc hx hV h1c
    rwa [List.take_of_length_le (by omega), List.drop_of_length_le (by omega), List.append_nil]
  · obtain ⟨b, cap, sp, rfl, rfl, hb, hl, hc, hnc⟩ := h.pos (by omega)
    by_cases hf : n + 1 ≤ cap
    · exact insN_fit b i n cap L sp w hb hl hc hf (by omega) hn xb xc V hx hV h1c h1L (by simpa using hne)
    · exact insN_grow b i n cap L sp w hb hl hc hnc (by omega) (by omega) hn xb xc V hx hV h1c h1L (by simpa using hne)

theorem zcellN : ∀ k, ∀ v ∈ zs (.pointer none) k, v.oneCell' = true := by
  intro k v hv
  simp only [zs, Builtin.zeroCells, Array.toList_map, List.mem_map] at hv
  obtain ⟨i, _, rfl⟩ := hv
  have : ∀ j, j < 1 → ((Value.cells (.pointer none))[j]!).oneCell' = true := by decide +kernel
  exact this _ (Nat.mod_lt _ (by decide))

set_option maxRecDepth 100000 in
set_option maxHeartbeats 1000000 in
/-- Delete of one element -/
theorem delN_any {v : Value} {bl : List Nat} {n : Nat} {L : List Value} {w : World} (h : Sl w 58 1 v bl n L) (hn : n ≤ 1000000) (i : Nat) (hi : i < n) (h1L : ∀ u ∈ L, u.oneCell' = true) :
    Calls Try.prog 51 #[v, .int .i64 i, .int .i64 ((i : Int) + 1)] w (InsPostN w bl (n - 1) (L.take (i * 1) ++ L.drop (i * 1 + 1))) := by
  obtain ⟨b, cap, sp, rfl, rfl, hb, hl, hc, hnc⟩ := h.pos (by omega)
  clear h
  have hdl : (L.drop (i * 1 + 1)).length = (n - 1 - i) * 1 := by rw [List.length_drop, hl]; omega
  have htl : (L.take (i * 1)).length = i * 1 := by rw [List.length_take, hl]; omega
  have hle : i ≤ cap := by omega
  -- what lies behind goes one to the left
  have hsrc : ∀ a : Option Addr, (¬ cap = i + 1 → a = some ⟨b, (i + 1), none⟩) → Src Try.prog w.drew 1 (.slice a (n - (i + 1)) (cap - (i + 1))) (n - (i + 1)) (L.drop (i * 1 + 1)) := by
    intro a ha
    by_cases hz : n - (i + 1) = 0
    · rw [hz, List.drop_of_length_le (by rw [hl]; omega)]
      exact Src.empty _ _ _ _
    · rw [ha (by omega)]
      have := Src.blk (P := Try.prog) hb.drew 1 ((i + 1)) (n - (i + 1)) (cap - (i + 1)) (by rw [hc]; omega)
      have hd : (List.drop ((i + 1)) (L ++ sp)).take ((n - (i + 1)) * 1) = L.drop (i * 1 + 1) := by
        have e0 : (i + 1) = i * 1 + 1 := by omega
        have e1 : List.drop ((i + 1)) (L ++ sp) = List.drop (i * 1 + 1) (L ++ sp) := congrArg (List.drop · (L ++ sp)) e0
        rw [e1, List.drop_append_of_le_length (by omega), List.take_left' (by rw [hdl]; omega)]
      rwa [hd] at this
  have hrun1 : ∀ a : Option Addr, (¬ cap = i + 1 → a = some ⟨b, (i + 1), none⟩) →
      (Builtin.append_ #[60, 60] 60 #[.slice (some ⟨b, 0, none⟩) i cap, .slice a (n - (i + 1)) (cap - (i + 1))]).run Try.prog w.drew =
        .ok (.slice (some ⟨b, 0, none⟩) (n - 1) cap) (putB w.drew b (spl (L ++ sp) (i * 1) (L.drop (i * 1 + 1))) 58) := by
    intro a ha
    have := run_append_fit (P := Try.prog) w.drew (t := 60) (t' := 60) (ty := 60) Try.underlying60 Try.underlying60 info58s (b := b) (n := i) (cap := cap) hb.drew (hsrc a ha) (fun u hu => h1L u (List.mem_of_mem_drop hu)) (by omega) (by rw [hc]; omega)
    rwa [show i + (n - (i + 1)) = n - 1 from by omega] at this
  have es1 : spl (L ++ sp) (i * 1) (L.drop (i * 1 + 1)) = (L.take (i * 1) ++ L.drop (i * 1 + 1)) ++ (L.drop ((n - 1) * 1) ++ sp) := by
    unfold spl
    rw [List.take_append_of_le_length (by omega), hdl, show i * 1 + (n - 1 - i) * 1 = (n - 1) * 1 from by omega, List.drop_append_of_le_length (by omega)]
  rw [es1] at hrun1
  have hb1 := hb.drew.putB_same ((L.take (i * 1) ++ L.drop (i * 1 + 1)) ++ (L.drop ((n - 1) * 1) ++ sp)) 58
  have ht1 : Tch (· ∈ [b]) w _ := (Tch.drew _ w).trans (Tch.putB w.drew (S := (· ∈ [b])) (b := b) (by simp) ((L.take (i * 1) ++ L.drop (i * 1 + 1)) ++ (L.drop ((n - 1) * 1) ++ sp)) 58) (fun _ _ h => h)
  generalize putB w.drew b _ 58 = w1 at hrun1 hb1 ht1
  have hll : (L.drop ((n - 1) * 1)).length = 1 := by rw [List.length_drop, hl]; omega
  -- the last place becomes noughts
  have hrun2 := fun c' : Nat => run_clear_blk (P := Try.prog) w1 (t := 60) (ty := 0) (e := 58) (size := 1) (z := (.pointer none)) Try.underlying60 info58z rfl zcellN (b := b) (o := (n - 1)) (n := n - (n - 1)) (cap := c') hb1 (by simp [hl]; omega)
  simp only [show n - (n - 1) = 1 from by omega] at hrun2
  have es2 := spl_fill (A := L.take (i * 1) ++ L.drop (i * 1 + 1)) (X := L.drop ((n - 1) * 1)) (C := sp) (V := zs (.pointer none) 1) (o := (n - 1)) (k := 1) (by rw [List.length_append, htl, hdl]; omega) hll (zs_length _ _)
  simp only [es2] at hrun2
  have hb2 := hb1.putB_same (L.take (i * 1) ++ L.drop (i * 1 + 1) ++ zs (.pointer none) 1 ++ sp) 58
  have ht2 : Tch (· ∈ [b]) w _ := ht1.trans (Tch.putB w1 (S := (· ∈ [b])) (b := b) (by simp) (L.take (i * 1) ++ L.drop (i * 1 + 1) ++ zs (.pointer none) 1 ++ sp) 58) (fun _ _ h => h)
  generalize putB w1 b _ 58 = w2 at hrun2 hb2 ht2
  have hfin : InsPostN w [b] (n - 1) (L.take (i * 1) ++ L.drop (i * 1 + 1)) (.returned (.slice (some ⟨b, 0, none⟩) (n - 1) cap)) w2 := by
    refine ⟨_, _, rfl, Sl.mk (sp := zs (.pointer none) 1 ++ sp) (by rw [← List.append_assoc]; exact hb2) ?_ ?_ (by omega), ht2, by simp⟩
    · rw [List.length_append, htl, hdl]; omega
    · have hz := zs_length (.pointer none) 1
      have hz2 : (.pointer none : Value).cells.size = 1 := rfl
      simp only [List.length_append, htl, hdl, hz, hz2] at hc ⊢; omega
  generalize L.take (i * 1) ++ L.drop (i * 1 + 1) = L' at hfin ⊢
  have R1 := Lib.hid (hrun1 (if cap = i + 1 then some ⟨b, 0, none⟩ else some ⟨b, (i + 1), none⟩) (by intro h; simp [h])); have R2 := Lib.hid hrun2; have HF := Lib.hid hfin
  clear hb hl hc h1L hdl htl hsrc hrun1 hrun2 hfin es1 hb1 ht1 es2 hb2 ht2 hll
  go_enter Try.func51, Try.ntmps51
  go_wp2_with fail
  have e1 : (i : Int) ≤ (cap : Int) := by omega
  have e2 : (0 : Int) ≤ (i : Int) + 1 := by omega
  have e3 : ((i : Int) + 1).toNat = i + 1 := by omega
  have e4 : (i : Int) + 1 ≤ (n : Int) := by omega
  go_region_law (refine step_appendV rfl (.tmp 22) (.tmp 25) 60 60 60 rfl rfl (.slice (some ⟨b, 0, none⟩) i cap) (.slice (if cap = i + 1 then some ⟨b, 0, none⟩ else some ⟨b, (i + 1), none⟩) (n - (i + 1)) (cap - (i + 1))) (by go_simp) (by go_simp) _ _ R1.out ?_)
  go_wp2_with fail
  all_goals rw [show n - (n - 1) = 1 from by omega, R2.out, Result.andThen_ok, Oper.upon_value]
  all_goals go_wp2_with fail
  all_goals go_ret
  · have HF' := HF.out
    simp only [‹cap = i + 1›] at HF'
    exact HF'
  · exact HF.out

/-- what Clone leaves: a slice of its own with the same cells -/
def ClonePostN (w : World) (n : Nat) (L : List Value) (e : Ending) (w' : World) : Prop :=
  ∃ v' bl', e = .returned v' ∧ Sl w' 58 1 v' bl' n L ∧ Tch (fun _ => False) w w' ∧ (∀ y ∈ bl', w.heap.size ≤ y)

set_option maxHeartbeats 1000000 in
theorem cloneN_any (a : Addr) (n cap : Nat) (L : List Value) (w : World) (hs : ∀ w', Tch (fun _ => False) w w' → Src Try.prog w' 1 (.slice (some a) n cap) n L) (hn : n ≤ 1000000) (h1L : ∀ u ∈ L, u.oneCell' = true) :
    Calls Try.prog 39 #[.slice (some a) n cap] w (ClonePostN w n L) := by
  have ht : Tch (fun _ => False) w _ := Tch.alloc (fun _ => False) w (.cells ([] : List Value).toArray 58)
  have hsl : Sl (w.alloc (.cells ([] : List Value).toArray 58)) 58 1 (.slice (some ⟨w.heap.size, 0, none⟩) 0 0) [w.heap.size] 0 [] := Sl.mk (sp := []) (Blk.new w [] 58) (by simp) (by simp) (Nat.le_refl _)
  obtain ⟨v', w', bl', hrun, hp1, hp2, hp3⟩ := hsl.append (P := Try.prog) (t := 60) (t' := 60) (ty := 60) Try.underlying60 Try.underlying60 info58 (by decide) rfl (hs _ ht) (hs _ (ht.trans (Tch.drew (fun _ => False) _) (fun _ _ h => h))) h1L (by omega)
  rw [Nat.zero_add, List.nil_append] at hp1
  have hfin : ClonePostN w n L (.returned v') w' := ⟨v', bl', rfl, hp1, ht.trans hp2 (fun k hk h => by simp at h; omega), fun y hy => by
    rcases hp3 y hy with h | h
    · simp at h; omega
    · simp at h; omega⟩
  have R := Lib.hid hrun; have HF := Lib.hid hfin
  clear hs ht hsl hrun hp1 hp2 hp3 hfin h1L
  have heq : ∀ W, (binOp .eql 60 (.slice (some a) n cap) (.slice none 0 0)).run Try.prog W = .ok (.bool false) W := fun W => Lib.run_eql_slice_nil (P := Try.prog) W 60 58 (some a) n cap 0 0 Try.underlying60
  go_enter Try.func39, Try.ntmps39
  go_wp2_with (at_builtin; refine wpList_append rfl (.tmp 5) (.tmp 6) 60 60 rfl _ _ R.out ?_)
  go_ret
  exact HF.out
end Go.Proofs.Ytkhjhcbmefahkaa

