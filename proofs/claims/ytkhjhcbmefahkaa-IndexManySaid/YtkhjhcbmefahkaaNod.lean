import Derived.Test.YtkhjhcbmefahkaaFnd
import Derived.Test.YtkhjhcbmefahkaaTre
namespace Go.Proofs.Ytkhjhcbmefahkaa
open Go.RowKit Go.Mm Go.Lst

def encKs (ptrs : List Nat) : List Value := ptrs.map (fun b => .pointer (some ⟨b, 0, none⟩))
theorem encKs_length (ptrs : List Nat) : (encKs ptrs).length = ptrs.length := by simp [encKs]
theorem encKs_one (ptrs : List Nat) : ∀ u ∈ encKs ptrs, u.oneCell' = true := by
  intro u hu
  simp only [encKs, List.mem_map] at hu
  obtain ⟨p, _, rfl⟩ := hu
  rfl
theorem encKs_take (ptrs : List Nat) (i : Nat) : (encKs ptrs).take i = encKs (ptrs.take i) := by simp [encKs, List.map_take]
theorem encKs_drop (ptrs : List Nat) (i : Nat) : (encKs ptrs).drop i = encKs (ptrs.drop i) := by simp [encKs, List.map_drop]
theorem encKs_get {ptrs : List Nat} {i b : Nat} (h : ptrs[i]? = some b) (sp : List Value) : (encKs ptrs ++ sp)[i]? = some (.pointer (some ⟨b, 0, none⟩)) := by
  have : i < (encKs ptrs).length := by rw [encKs_length]; exact (List.getElem?_eq_some_iff.1 h).1
  rw [List.getElem?_append_left this]
  simp [encKs, h]
/-- a node in memory: its block, its pairs' and its kids' -/
def NdAt (w : World) (b : Nat) (pb : List Nat) (ps : List Pair) (kb : List Nat) (ptrs : List Nat) : Prop :=
  ∃ pv kv, Blk w b [pv, kv] 62 ∧ Sl w 67 2 pv pb ps.length (encPs ps) ∧ Sl w 58 1 kv kb ptrs.length (encKs ptrs)

def SplitPost (w : World) (b : Nat) (ps : List Pair) (kb ptrs : List Nat) (m : Pair) (e : Ending) (w' : World) : Prop :=
  ∃ pb1 kb1 rb rpb rkb, e = .returned (.tuple #[.agg #[.string m.1, .int .i64 m.2], .pointer (some ⟨rb, 0, none⟩)]) ∧
    NdAt w' b pb1 (ps.take (ps.length / 2)) kb1 (ptrs.take (ps.length / 2 + 1)) ∧ NdAt w' rb rpb (ps.drop (ps.length / 2 + 1)) rkb (ptrs.drop (ps.length / 2 + 1)) ∧ Tch (· = b) w w' ∧
    (∀ y ∈ pb1 ++ rb :: (rpb ++ rkb), w.heap.size ≤ y) ∧ (∀ y ∈ kb1, y ∈ kb ∨ w.heap.size ≤ y) ∧ (pb1 ++ kb1 ++ rb :: (rpb ++ rkb)).Nodup

set_option maxHeartbeats 1000000 in
theorem split_leaf {w : World} {b : Nat} {pb : List Nat} {ps : List Pair} {kb : List Nat} (h : NdAt w b pb ps kb []) (h1 : 3 ≤ ps.length) (hn : ps.length ≤ 1000000) (hbp : b ∉ pb) (hbk : b ∉ kb)
    (m : Pair) (hm : ps[ps.length / 2]? = some m) : Calls Try.prog 28 #[.pointer (some ⟨b, 0, none⟩)] w (SplitPost w b ps kb [] m) := by
  obtain ⟨pv, kv, hb, hp, hk⟩ := h
  obtain ⟨ka, kc, rfl, _⟩ := hk.val
  obtain ⟨q, cap, sp, rfl, rfl, hq, hql, hqc, hqn⟩ := hp.pos (by omega)
  have c0 : w.cell? ⟨b, 0, none⟩ = some (.slice (some ⟨q, 0, none⟩) ps.length cap) := by rw [hb.cell]; rfl
  have c1 : w.cell? ⟨b, 1, none⟩ = some (.slice ka 0 kc) := by rw [hb.cell]; rfl
  obtain ⟨e0, e1⟩ := encPs_get hm sp
  have d0 := (hq.cell _).trans e0
  have d1 := (hq.cell _).trans e1
  have l1 := hb.lt
  have l2 := hq.lt
  have hbq : b ≠ q := by simpa using hbp
  clear e0 e1 hbp hm
  have Hb := Lib.hid hb; have Hp := Lib.hid hp; have Hk := Lib.hid hk; have Hq := Lib.hid hq; have Hql := Lib.hid hql; have Hqc := Lib.hid hqc
  clear hb hp hk hq hql hqc
  have hcap : ¬ cap = ps.length / 2 + 1 := by omega
  generalize hkk : ps.length / 2 = k at *
  have hk1 : 2 * k ≤ ps.length := by omega
  have hk2 : ps.length ≤ 2 * k + 1 := by omega
  have hq2 : (ps.length : Int) / 2 = k := by omega
  have Hkk := Lib.hid hkk; clear hkk
  go_enter Try.func28, Try.ntmps28
  go_wp2_with fail
  refine (cloneP_any _ _ _ _ _ (fun w' ht => suf_src (ht.get ((Hq.out.alloc _).alloc _) (fun h => h)) Hql.out Hqc.out hqn (k + 1) (by omega) _) (by omega) (fun u hu => encPs_one ps u (List.mem_of_mem_drop hu))).mono ?_
  rintro e w1 ⟨v1, bl1, rfl, hs1, ht1, hn1⟩
  have c0' : w1.cell? ⟨b, 0, none⟩ = some (.slice (some ⟨q, 0, none⟩) ps.length cap) := (ht1.get ((Hb.out.alloc _).alloc _) (fun h => h)).cell 0
  have lt1 : w.heap.size + 2 ≤ w1.heap.size := by have := ht1.size; simp at this; omega
  have l1' : b < w1.heap.size := by omega
  have l2' : q < w1.heap.size := by omega
  obtain ⟨a1, n1, rfl, _⟩ := hs1.val
  have Ht1 := Lib.hid ht1; have Hs1 := Lib.hid hs1; have Hn1 := Lib.hid hn1
  clear ht1 hs1 hn1
  go_wp2_with fail
  refine (cloneP_any _ _ _ _ _ (fun w' ht => pre_src (ht.get ((Ht1.out.get ((Hq.out.alloc _).alloc _) (fun h => h)).alloc _) (fun h => h)) Hql.out Hqc.out hqn k (by omega) _) (by omega) (fun u hu => encPs_one ps u (List.mem_of_mem_take hu))).mono ?_
  rintro e w2 ⟨v2, bl2, rfl, hs2, ht2, hn2⟩
  have hb2 : Blk w2 b _ 62 := ht2.get ((Ht1.out.get ((Hb.out.alloc _).alloc _) (fun h => h)).alloc _) (fun h => h)
  have c02 : w2.cell? ⟨b, 0, none⟩ = some (.slice (some ⟨q, 0, none⟩) ps.length cap) := hb2.cell 0
  have c12 : w2.cell? ⟨b, 1, none⟩ = some (.slice ka 0 kc) := hb2.cell 1
  have f02 : w2.frozen? ⟨b, 0, none⟩ = false := hb2.frozen 0
  have lt2 : w1.heap.size + 1 ≤ w2.heap.size := by have := ht2.size; simp at this; omega
  obtain ⟨a2, n2, rfl, _⟩ := hs2.val
  have hB0 : Blk w2 w.heap.size _ 67 := ht2.get ((Ht1.out.get ((Blk.new w [.string ⟨#[]⟩, .int .i64 0] 67).alloc _) (fun h => h)).alloc _) (fun h => h)
  have hB1 : Blk w2 (w.heap.size + 1) [.string m.1, .int .i64 m.2] 67 := ht2.get ((Ht1.out.get (by have := Blk.new (w.alloc (.cells #[.string ⟨#[]⟩, .int .i64 0] 67)) [.string m.1, .int .i64 m.2] 67; rwa [World.size_alloc] at this) (fun h => h)).alloc _) (fun h => h)
  have x0 : w2.cell? ⟨w.heap.size, 0, none⟩ = some (.string ⟨#[]⟩) := hB0.cell 0
  have x1 : w2.cell? ⟨w.heap.size, 1, none⟩ = some (.int .i64 0) := hB0.cell 1
  have x2 : w2.frozen? ⟨w.heap.size, 0, none⟩ = false := hB0.frozen 0
  have x3 : w2.frozen? ⟨w.heap.size, 1, none⟩ = false := hB0.frozen 1
  have x4 : w2.cell? ⟨w.heap.size + 1, 0, none⟩ = some (.string m.1) := hB1.cell 0
  have x5 : w2.cell? ⟨w.heap.size + 1, 1, none⟩ = some (.int .i64 m.2) := hB1.cell 1
  have Ht2 := Lib.hid ht2; have Hs2 := Lib.hid hs2; have Hn2 := Lib.hid hn2; have Hb2 := Lib.hid hb2
  have HB0 := Lib.hid hB0; have HB1 := Lib.hid hB1
  clear ht2 hs2 hn2 hb2 hB0 hB1
  go_wp2_with fail
  refine (leaf_any _ _ _ _ _ _ (by rw [setCell_putB Hb2.out]; exact Hb2.out.putB_same _ _)).mono ?_
  rintro e w3 ⟨rfl, rfl⟩
  go_wp2_with fail
  have hbw : b ≠ w.heap.size := by omega
  have hf0 := ((HB0.out.setC' hbw.symm 0 (.slice a2 k n2)).setC 0 (.string m.1)).setC 1 (.int .i64 m.2)
  have q0 := hf0.cell 0
  have q1 := hf0.cell 1
  refine bodyPost_ret (v := .tuple #[.agg #[.string m.1, .int .i64 m.2], .pointer (some ⟨w1.heap.size, 0, none⟩)]) (by simp [results, Try.results28, go_sem, q0, q1]) rfl ?_
  have hF1 := ((Hb2.out.setC 0 (.slice a2 k n2)).setC' hbw 0 (.string m.1)).setC' hbw 1 (.int .i64 m.2)
  have tF : Tch (fun y => y = b ∨ y = w.heap.size) w2 _ := ((Tch.setCell (S := fun y => y = b ∨ y = w.heap.size) w2 (a := ⟨b, 0, none⟩) (.inl rfl) (.slice a2 k n2)).trans (Tch.setCell (S := fun y => y = b ∨ y = w.heap.size) _ (a := ⟨w.heap.size, 0, none⟩) (.inr rfl) (.string m.1)) (fun _ _ h => h)).trans
    (Tch.setCell (S := fun y => y = b ∨ y = w.heap.size) _ (a := ⟨w.heap.size, 1, none⟩) (.inr rfl) (.int .i64 m.2)) (fun _ _ h => h)
  have hR := (tF.get (Ht2.out.get (Blk.new w1 [.slice a1 (ps.length - (k + 1)) n1, .slice none 0 0] 62) (fun h => h)) (by omega))
  have hn1 := Hn1.out
  have hn2 := Hn2.out
  simp only [World.size_alloc] at hn1 hn2
  have hbl1 := Hs1.out.lt
  have tA : Tch (fun _ => False) w w1 := ((Tch.alloc _ w _).trans (Tch.alloc _ _ _) (fun _ _ h => h)).trans Ht1.out (fun _ _ h => h)
  have tB : Tch (fun _ => False) w1 w2 := (Tch.alloc _ w1 _).trans Ht2.out (fun _ _ h => h)
  have tC : Tch (fun _ => False) w w2 := tA.trans tB (fun _ _ h => h)
  have hkb : ∀ y ∈ kb, y < w.heap.size := Hk.out.lt
  have hs2 := Hs2.out.tch tF (by intro y hy; have := hn2 y hy; omega)
  have hs1 := (Hs1.out.tch tB (fun _ _ h => h)).tch tF (by intro y hy; have := hn1 y hy; omega)
  have hk2 := (Hk.out.tch tC (fun _ _ h => h)).tch tF (by intro y hy h; have := hkb y hy; rcases h with h | h; (exact hbk (h ▸ hy)); omega)
  have hlt := Hs2.out.lt
  rw [encPs_take] at hs2
  rw [encPs_drop] at hs1
  have hll : (ps.take k).length = k := by rw [List.length_take]; omega
  have hlr : (ps.drop (k + 1)).length = ps.length - (k + 1) := List.length_drop
  unfold SplitPost
  rw [Hkk.out]
  refine ⟨bl2, kb, w1.heap.size, bl1, [], rfl, ⟨_, _, hF1, ?_, hk2⟩, ⟨_, _, hR, ?_, Sl.nil _ _ _⟩, (tC.mono (fun _ _ h => h.elim)).trans tF (fun y hy h => by omega), ?_, fun y hy => .inl hy, ?_⟩
  · rw [hll]; exact hs2
  · rw [hlr]; exact hs1
  · intro y hy
    simp only [List.mem_append, List.mem_cons, List.append_nil] at hy
    rcases hy with h | h | h
    · have := hn2 y h; omega
    · omega
    · have := hn1 y h; omega
  · have e1 := hs2.nodup
    have e2 := hs1.nodup
    have e3 := hk2.nodup
    rw [List.nodup_append, List.nodup_append, List.nodup_cons, List.append_nil]
    refine ⟨⟨e1, e3, fun x hx y hy => ?_⟩, ⟨fun h => ?_, e2⟩, fun x hx y hy => ?_⟩
    · have := hn2 x hx; have := hkb y hy; omega
    · have := hbl1 _ h; omega
    · rcases List.mem_append.1 hx with h | h <;> rcases List.mem_cons.1 hy with h' | h'
      · have := hn2 x h; omega
      · have := hn2 x h; have := hbl1 y h'; omega
      · have := hkb x h; omega
      · have := hkb x h; have := hn1 y h'; omega
set_option maxHeartbeats 1000000 in
theorem split_in {w : World} {b : Nat} {pb : List Nat} {ps : List Pair} {kb ptrs : List Nat} (h : NdAt w b pb ps kb ptrs) (hpt : ptrs.length = ps.length + 1) (h1 : 3 ≤ ps.length) (hn : ps.length ≤ 1000000) (hbp : b ∉ pb) (hbk : b ∉ kb)
    (m : Pair) (hm : ps[ps.length / 2]? = some m) : Calls Try.prog 28 #[.pointer (some ⟨b, 0, none⟩)] w (SplitPost w b ps kb ptrs m) := by
  obtain ⟨pv, kv, hb, hp, hk⟩ := h
  obtain ⟨r, kc, ksp, rfl, rfl, hr, hrl, hrc, hrn⟩ := hk.pos (by omega)
  obtain ⟨q, cap, sp, rfl, rfl, hq, hql, hqc, hqn⟩ := hp.pos (by omega)
  have c0 : w.cell? ⟨b, 0, none⟩ = some (.slice (some ⟨q, 0, none⟩) ps.length cap) := by rw [hb.cell]; rfl
  have c1 : w.cell? ⟨b, 1, none⟩ = some (.slice (some ⟨r, 0, none⟩) ptrs.length kc) := by rw [hb.cell]; rfl
  obtain ⟨e0, e1⟩ := encPs_get hm sp
  have d0 := (hq.cell _).trans e0
  have d1 := (hq.cell _).trans e1
  have l1 := hb.lt
  have l2 := hq.lt
  have hbq : b ≠ q := by simpa using hbp
  have hbr : b ≠ r := by simpa using hbk
  have l3 := hr.lt
  clear e0 e1 hbp hbk hm
  have Hb := Lib.hid hb; have Hp := Lib.hid hp; have Hk := Lib.hid hk; have Hq := Lib.hid hq; have Hql := Lib.hid hql; have Hqc := Lib.hid hqc
  clear hb hp hk hq hql hqc
  have Hr := Lib.hid hr; have Hrl := Lib.hid hrl; have Hrc := Lib.hid hrc
  clear hr hrl hrc
  have hcap : ¬ cap = ps.length / 2 + 1 := by omega
  have hkcap : ¬ kc = ps.length / 2 + 1 := by omega
  have hpz : ((ptrs.length : Int) == 0) = false := by rw [hpt]; simp; omega
  have hpt1 : ps.length + 1 ≤ ptrs.length := by omega
  have hpt2 : ptrs.length ≤ ps.length + 1 := by omega
  have Hpt := Lib.hid hpt; clear hpt
  generalize hkk : ps.length / 2 = k at *
  have hk1 : 2 * k ≤ ps.length := by omega
  have hk2 : ps.length ≤ 2 * k + 1 := by omega
  have hq2 : (ps.length : Int) / 2 = k := by omega
  have Hkk := Lib.hid hkk; clear hkk
  go_enter Try.func28, Try.ntmps28
  go_wp2_with fail
  refine (cloneP_any _ _ _ _ _ (fun w' ht => suf_src (ht.get ((Hq.out.alloc _).alloc _) (fun h => h)) Hql.out Hqc.out hqn (k + 1) (by omega) _) (by omega) (fun u hu => encPs_one ps u (List.mem_of_mem_drop hu))).mono ?_
  rintro e w1 ⟨v1, bl1, rfl, hs1, ht1, hn1⟩
  have c0' : w1.cell? ⟨b, 0, none⟩ = some (.slice (some ⟨q, 0, none⟩) ps.length cap) := (ht1.get ((Hb.out.alloc _).alloc _) (fun h => h)).cell 0
  have lt1 : w.heap.size + 2 ≤ w1.heap.size := by have := ht1.size; simp at this; omega
  have l1' : b < w1.heap.size := by omega
  have l2' : q < w1.heap.size := by omega
  obtain ⟨a1, n1, rfl, _⟩ := hs1.val
  have Ht1 := Lib.hid ht1; have Hs1 := Lib.hid hs1; have Hn1 := Lib.hid hn1
  clear ht1 hs1 hn1
  go_wp2_with fail
  refine (cloneP_any _ _ _ _ _ (fun w' ht => pre_src (ht.get ((Ht1.out.get ((Hq.out.alloc _).alloc _) (fun h => h)).alloc _) (fun h => h)) Hql.out Hqc.out hqn k (by omega) _) (by omega) (fun u hu => encPs_one ps u (List.mem_of_mem_take hu))).mono ?_
  rintro e w2 ⟨v2, bl2, rfl, hs2, ht2, hn2⟩
  have hb2 : Blk w2 b _ 62 := ht2.get ((Ht1.out.get ((Hb.out.alloc _).alloc _) (fun h => h)).alloc _) (fun h => h)
  have c02 : w2.cell? ⟨b, 0, none⟩ = some (.slice (some ⟨q, 0, none⟩) ps.length cap) := hb2.cell 0
  have c12 : w2.cell? ⟨b, 1, none⟩ = some (.slice (some ⟨r, 0, none⟩) ptrs.length kc) := hb2.cell 1
  have f02 : w2.frozen? ⟨b, 0, none⟩ = false := hb2.frozen 0
  have lt2 : w1.heap.size + 1 ≤ w2.heap.size := by have := ht2.size; simp at this; omega
  obtain ⟨a2, n2, rfl, _⟩ := hs2.val
  have hB0 : Blk w2 w.heap.size _ 67 := ht2.get ((Ht1.out.get ((Blk.new w [.string ⟨#[]⟩, .int .i64 0] 67).alloc _) (fun h => h)).alloc _) (fun h => h)
  have hB1 : Blk w2 (w.heap.size + 1) [.string m.1, .int .i64 m.2] 67 := ht2.get ((Ht1.out.get (by have := Blk.new (w.alloc (.cells #[.string ⟨#[]⟩, .int .i64 0] 67)) [.string m.1, .int .i64 m.2] 67; rwa [World.size_alloc] at this) (fun h => h)).alloc _) (fun h => h)
  have x0 : w2.cell? ⟨w.heap.size, 0, none⟩ = some (.string ⟨#[]⟩) := hB0.cell 0
  have x1 : w2.cell? ⟨w.heap.size, 1, none⟩ = some (.int .i64 0) := hB0.cell 1
  have x2 : w2.frozen? ⟨w.heap.size, 0, none⟩ = false := hB0.frozen 0
  have x3 : w2.frozen? ⟨w.heap.size, 1, none⟩ = false := hB0.frozen 1
  have x4 : w2.cell? ⟨w.heap.size + 1, 0, none⟩ = some (.string m.1) := hB1.cell 0
  have x5 : w2.cell? ⟨w.heap.size + 1, 1, none⟩ = some (.int .i64 m.2) := hB1.cell 1
  have Ht2 := Lib.hid ht2; have Hs2 := Lib.hid hs2; have Hn2 := Lib.hid hn2; have Hb2 := Lib.hid hb2
  have HB0 := Lib.hid hB0; have HB1 := Lib.hid hB1
  clear ht2 hs2 hn2 hb2 hB0 hB1
  go_wp2_with fail
  refine (leaf_any _ _ _ _ _ _ (by rw [setCell_putB Hb2.out]; exact Hb2.out.putB_same _ _)).mono ?_
  rintro e w3 ⟨rfl, rfl⟩
  have hb3 := Hb2.out.setC 0 (.slice a2 k n2)
  have tS : Tch (fun y => y = b) w2 _ := Tch.setCell (S := fun y => y = b) w2 (a := ⟨b, 0, none⟩) rfl (.slice a2 k n2)
  have hB0' := HB0.out.setC' (show w.heap.size ≠ b by omega) 0 (.slice a2 k n2)
  have hB1' := HB1.out.setC' (show w.heap.size + 1 ≠ b by omega) 0 (.slice a2 k n2)
  have hR' : Blk _ w1.heap.size _ 62 := (Ht2.out.get (Blk.new w1 [.slice a1 (ps.length - (k + 1)) n1, .slice none 0 0] 62) (fun h => h)).setC' (show w1.heap.size ≠ b by omega) 0 (.slice a2 k n2)
  have hr' := ((Ht2.out.get ((Ht1.out.get ((Hr.out.alloc _).alloc _) (fun h => h)).alloc _) (fun h => h))).setC' hbr.symm 0 (.slice a2 k n2)
  have Hs2' := Hs2.out.tch tS (by intro y hy e; subst e; have := Hn2.out _ hy; simp at this; omega)
  have Hs1' := (Hs1.out.tch ((Tch.alloc (fun _ => False) w1 _).trans Ht2.out (fun _ _ h => h)) (fun _ _ h => h)).tch tS (by intro y hy e; subst e; have := Hn1.out _ hy; simp at this; omega)
  have tC : Tch (fun y => y = b) w _ := ((((Tch.alloc (fun y => y = b) w _).trans (Tch.alloc (fun y => y = b) _ _) (fun _ _ h => h)).trans Ht1.out (fun _ _ h => h.elim)).trans ((Tch.alloc (fun _ => False) w1 _).trans Ht2.out (fun _ _ h => h)) (fun _ _ h => h.elim)).trans tS (fun _ _ h => h)
  have z3 : (w2.setCell ⟨b, 0, none⟩ (.slice a2 k n2)).heap.size = w2.heap.size := World.size_setCell _ _ _
  generalize w2.setCell ⟨b, 0, none⟩ (.slice a2 k n2) = w3 at *
  clear c02 c12 f02 x0 x1 x2 x3 x4 x5 c0' c0 c1 d0 d1 Hb2 HB0 HB1 tS
  have hn1 := Hn1.out
  have hn2 := Hn2.out
  simp only [World.size_alloc] at hn1 hn2
  have hbl1 := Hs1.out.lt
  have hbl2 := Hs2.out.lt
  clear Hs1 Hs2 Hn1 Hn2 Ht1 Ht2
  have v0 : w3.cell? ⟨b, 1, none⟩ = some (.slice (some ⟨r, 0, none⟩) ptrs.length kc) := hb3.cell 1
  have Hb3 := Lib.hid hb3; have HB0 := Lib.hid hB0'; have HB1 := Lib.hid hB1'; have HR := Lib.hid hR'; have Hr3 := Lib.hid hr'
  have HS1 := Lib.hid Hs1'; have HS2 := Lib.hid Hs2'; have HC := Lib.hid tC; have HN1 := Lib.hid hn1; have HN2 := Lib.hid hn2; have HL1 := Lib.hid hbl1; have HL2 := Lib.hid hbl2
  have Z3 := Lib.hid z3
  have l13 : b < w3.heap.size := by omega
  have l33 : r < w3.heap.size := by omega
  have l43 : w1.heap.size < w3.heap.size := by omega
  clear hb3 hB0' hB1' hR' hr' Hs1' Hs2' tC hn1 hn2 hbl1 hbl2 z3
  go_wp2_with fail
  refine (cloneN_any _ _ _ _ _ (fun w' ht => by have := suf_src (P := Try.prog) (ht.get Hr3.out (fun h => h)) Hrl.out Hrc.out hrn (k + 1) (by omega) (kc - (k + 1)); simpa using this) (by omega) (fun u hu => encKs_one ptrs u (List.mem_of_mem_drop hu))).mono ?_
  rintro e w4 ⟨v4, bl4, rfl, hs4, ht4, hn4⟩
  obtain ⟨a4, n4, rfl, _⟩ := hs4.val
  have hR4 := ht4.get HR.out (fun h => h)
  have f40 : w4.cell? ⟨w1.heap.size, 1, none⟩ = some (.slice none 0 0) := hR4.cell 1
  have f41 : w4.frozen? ⟨w1.heap.size, 1, none⟩ = false := hR4.frozen 1
  have hb4 := ht4.get Hb3.out (fun h => h)
  have f42 : w4.cell? ⟨b, 1, none⟩ = some (.slice (some ⟨r, 0, none⟩) ptrs.length kc) := hb4.cell 1
  have hbne : ¬ w1.heap.size = b := by omega
  have HT4 := Lib.hid ht4; have HS4 := Lib.hid hs4; have HN4 := Lib.hid hn4; have HR4 := Lib.hid hR4; have HB4 := Lib.hid hb4
  have l44 : w3.heap.size ≤ w4.heap.size := ht4.size
  clear ht4 hs4 hn4 hR4 hb4
  go_wp2_with fail
  refine (cloneN_any _ _ _ _ _ (fun w' ht => by have := pre_src (P := Try.prog) (ht.get ((HT4.out.get Hr3.out (fun h => h)).setC' (show r ≠ w1.heap.size by omega) 1 _) (fun h => h)) Hrl.out Hrc.out hrn (k + 1) (by omega) kc; simpa using this) (by omega) (fun u hu => encKs_one ptrs u (List.mem_of_mem_take hu))).mono ?_
  rintro e w5 ⟨v5, bl5, rfl, hs5, ht5, hn5⟩
  obtain ⟨a5, n5, rfl, _⟩ := hs5.val
  have hR5 := ht5.get (HR4.out.setC 1 (.slice a4 (ptrs.length - (k + 1)) n4)) (fun h => h)
  have hb5 := ht5.get (HB4.out.setC' (show b ≠ w1.heap.size by omega) 1 (.slice a4 (ptrs.length - (k + 1)) n4)) (fun h => h)
  have hX0 := ht5.get ((HT4.out.get HB0.out (fun h => h)).setC' (show w.heap.size ≠ w1.heap.size by omega) 1 (.slice a4 (ptrs.length - (k + 1)) n4)) (fun h => h)
  have hX1 := ht5.get ((HT4.out.get HB1.out (fun h => h)).setC' (show w.heap.size + 1 ≠ w1.heap.size by omega) 1 (.slice a4 (ptrs.length - (k + 1)) n4)) (fun h => h)
  have f50 : w5.cell? ⟨b, 1, none⟩ = some (.slice (some ⟨r, 0, none⟩) ptrs.length kc) := hb5.cell 1
  have f51 : w5.frozen? ⟨b, 1, none⟩ = false := hb5.frozen 1
  have x0 : w5.cell? ⟨w.heap.size, 0, none⟩ = some (.string ⟨#[]⟩) := hX0.cell 0
  have x1 : w5.cell? ⟨w.heap.size, 1, none⟩ = some (.int .i64 0) := hX0.cell 1
  have x2 : w5.frozen? ⟨w.heap.size, 0, none⟩ = false := hX0.frozen 0
  have x3 : w5.frozen? ⟨w.heap.size, 1, none⟩ = false := hX0.frozen 1
  have x4 : w5.cell? ⟨w.heap.size + 1, 0, none⟩ = some (.string m.1) := hX1.cell 0
  have x5 : w5.cell? ⟨w.heap.size + 1, 1, none⟩ = some (.int .i64 m.2) := hX1.cell 1
  have y0 : ¬ b = w.heap.size := by omega
  have y1 : ¬ b = w.heap.size + 1 := by omega
  have l55 : w4.heap.size ≤ w5.heap.size := by have := ht5.size; simpa using this
  have t35 : Tch (fun y => y = w1.heap.size) w3 w5 := (HT4.out.mono (fun _ _ h => h.elim)).trans ((Tch.setCell (S := fun y => y = w1.heap.size) w4 (a := ⟨w1.heap.size, 1, none⟩) rfl _).trans ht5 (fun _ _ h => h.elim)) (fun _ _ h => h)
  have t45 : Tch (fun y => y = w1.heap.size) w4 w5 := (Tch.setCell (S := fun y => y = w1.heap.size) w4 (a := ⟨w1.heap.size, 1, none⟩) rfl _).trans ht5 (fun _ _ h => h.elim)
  have hn5' := hn5
  simp only [World.size_setCell] at hn5'
  have T35 := Lib.hid t35; have T45 := Lib.hid t45; have HS5 := Lib.hid hs5; have HN5 := Lib.hid hn5'; have HR5 := Lib.hid hR5; have HB5 := Lib.hid hb5; have HX0 := Lib.hid hX0; have HX1 := Lib.hid hX1
  clear t35 t45 ht5 hs5 hn5 hn5' hR5 hb5 hX0 hX1 f40 f41 f42 HT4
  go_wp2_with fail
  have hf0 := ((HX0.out.setC' (show w.heap.size ≠ b by omega) 1 (.slice a5 (k + 1) n5)).setC 0 (.string m.1)).setC 1 (.int .i64 m.2)
  have q0 := hf0.cell 0
  have q1 := hf0.cell 1
  refine bodyPost_ret (v := .tuple #[.agg #[.string m.1, .int .i64 m.2], .pointer (some ⟨w1.heap.size, 0, none⟩)]) (by simp [results, Try.results28, go_sem, q0, q1]) rfl ?_
  have hF1 := ((HB5.out.setC 1 (.slice a5 (k + 1) n5)).setC' y0 0 (.string m.1)).setC' y0 1 (.int .i64 m.2)
  have tF : Tch (fun y => y = b ∨ y = w.heap.size) w5 _ := ((Tch.setCell (S := fun y => y = b ∨ y = w.heap.size) w5 (a := ⟨b, 1, none⟩) (.inl rfl) (.slice a5 (k + 1) n5)).trans (Tch.setCell (S := fun y => y = b ∨ y = w.heap.size) _ (a := ⟨w.heap.size, 0, none⟩) (.inr rfl) (.string m.1)) (fun _ _ h => h)).trans
    (Tch.setCell (S := fun y => y = b ∨ y = w.heap.size) _ (a := ⟨w.heap.size, 1, none⟩) (.inr rfl) (.int .i64 m.2)) (fun _ _ h => h)
  have hRF := tF.get HR5.out (by omega)
  have hn1 := HN1.out
  have hn2 := HN2.out
  have hn4 := HN4.out
  have hn5 := HN5.out
  have hl1 := HL1.out
  have hl2 := HL2.out
  have z3 := Z3.out
  have hl4 := HS4.out.lt
  have hs2 := (HS2.out.tch T35.out (by intro y hy; have := hn2 y hy; omega)).tch tF (by intro y hy; have := hn2 y hy; omega)
  have hs1 := (HS1.out.tch T35.out (by intro y hy; have := hl1 y hy; omega)).tch tF (by intro y hy; have := hn1 y hy; omega)
  have hs4 := (HS4.out.tch T45.out (by intro y hy; have := hn4 y hy; omega)).tch tF (by intro y hy; have := hn4 y hy; omega)
  have hs5 := HS5.out.tch tF (by intro y hy; have := hn5 y hy; omega)
  rw [encPs_take] at hs2
  rw [encPs_drop] at hs1
  rw [encKs_drop] at hs4
  rw [encKs_take] at hs5
  have hll : (ps.take k).length = k := by rw [List.length_take]; omega
  have hlr : (ps.drop (k + 1)).length = ps.length - (k + 1) := List.length_drop
  have hkl : (ptrs.take (k + 1)).length = k + 1 := by rw [List.length_take]; omega
  have hkr : (ptrs.drop (k + 1)).length = ptrs.length - (k + 1) := List.length_drop
  have tA : Tch (fun y => y = b) w w5 := HC.out.trans T35.out (fun y hy h => by omega)
  unfold SplitPost
  rw [Hkk.out]
  refine ⟨bl2, bl5, w1.heap.size, bl1, bl4, rfl, ⟨_, _, hF1, ?_, ?_⟩, ⟨_, _, hRF, ?_, ?_⟩, tA.trans tF (fun y hy h => by omega), ?_, ?_, ?_⟩
  · rw [hll]; exact hs2
  · rw [hkl]; exact hs5
  · rw [hlr]; exact hs1
  · rw [hkr]; exact hs4
  · intro y hy
    simp only [List.mem_append, List.mem_cons] at hy
    rcases hy with h | h | h | h
    · have := hn2 y h; omega
    · omega
    · have := hn1 y h; omega
    · have := hn4 y h; omega
  · intro y hy; right; have := hn5 y hy; omega
  · have e1 := hs2.nodup
    have e2 := hs1.nodup
    have e3 := hs5.nodup
    have e4 := hs4.nodup
    rw [List.nodup_append, List.nodup_append, List.nodup_cons, List.nodup_append]
    refine ⟨⟨e1, e3, fun x hx y hy => ?_⟩, ⟨fun h => ?_, e2, e4, fun x hx y hy => ?_⟩, fun x hx y hy => ?_⟩
    · have := hl2 x hx; have := hn5 y hy; omega
    · rcases List.mem_append.1 h with h | h
      · have := hl1 _ h; omega
      · have := hn4 _ h; omega
    · have := hl1 x hx; have := hn4 y hy; omega
    · rcases List.mem_append.1 hx with h | h <;> rcases List.mem_cons.1 hy with h' | h'
      · have := hn2 x h; omega
      · rcases List.mem_append.1 h' with h' | h'
        · have := hn2 x h; have := hl1 y h'; omega
        · have := hl2 x h; have := hn4 y h'; omega
      · have := hn5 x h; omega
      · rcases List.mem_append.1 h' with h' | h'
        · have := hn5 x h; have := hl1 y h'; omega
        · have := hn5 x h; have := hl4 y h'; omega
end Go.Proofs.Ytkhjhcbmefahkaa
