/-
  Trees in memory, and the cut of a node in two.
-/
import Derived.Test.YtkhjhcbmefahkaaNod
namespace Go.Proofs.Ytkhjhcbmefahkaa
open Go.RowKit Go.Mm Go.Lst

theorem NdAt.tch {w w' : World} {b : Nat} {pb : List Nat} {ps : List Pair} {kb ptrs : List Nat} {S : Nat → Prop} (h : NdAt w b pb ps kb ptrs) (ht : Tch S w w')
    (hb : ¬ S b) (hp : ∀ y ∈ pb, ¬ S y) (hk : ∀ y ∈ kb, ¬ S y) : NdAt w' b pb ps kb ptrs := by
  obtain ⟨pv, kv, h1, h2, h3⟩ := h
  exact ⟨pv, kv, ht.get h1 hb, h2.tch ht hp, h3.tch ht hk⟩
theorem NdAt.lt {w : World} {b : Nat} {pb : List Nat} {ps : List Pair} {kb ptrs : List Nat} (h : NdAt w b pb ps kb ptrs) : b < w.heap.size ∧ (∀ y ∈ pb, y < w.heap.size) ∧ (∀ y ∈ kb, y < w.heap.size) := by
  obtain ⟨pv, kv, h1, h2, h3⟩ := h
  exact ⟨h1.lt, h2.lt, h3.lt⟩

def TAt (w : World) : (h : Nat) → MT h → Prop
  | 0, t => NdAt w t.b t.pb t.ps t.kb []
  | h + 1, t => NdAt w t.b t.pb t.ps t.kb ((kids t).map (·.b)) ∧ ∀ k ∈ kids t, TAt w h k

theorem TAt.tch {w w' : World} {S : Nat → Prop} (ht : Tch S w w') : ∀ (h : Nat) (t : MT h), TAt w h t → (∀ y ∈ foot h t, ¬ S y) → TAt w' h t
  | 0, t, ha, hs => by
    simp only [foot, List.mem_cons, List.mem_append] at hs
    exact NdAt.tch ha ht (hs _ (.inl rfl)) (fun y hy => hs y (.inr (.inl hy))) (fun y hy => hs y (.inr (.inr hy)))
  | h + 1, t, ha, hs => by
    simp only [foot, List.mem_cons, List.mem_append, List.mem_flatMap] at hs
    refine ⟨NdAt.tch ha.1 ht (hs _ (.inl rfl)) (fun y hy => hs y (.inr (.inl (.inl hy)))) (fun y hy => hs y (.inr (.inl (.inr hy)))), fun k hk => ?_⟩
    exact TAt.tch ht h k (ha.2 k hk) (fun y hy => hs y (.inr (.inr ⟨k, hk, hy⟩)))
theorem TAt.lt {w : World} : ∀ (h : Nat) (t : MT h), TAt w h t → ∀ y ∈ foot h t, y < w.heap.size
  | 0, t, ha, y, hy => by
    have := NdAt.lt ha
    simp only [foot, List.mem_cons, List.mem_append] at hy
    rcases hy with rfl | hy | hy
    · exact this.1
    · exact this.2.1 y hy
    · exact this.2.2 y hy
  | h + 1, t, ha, y, hy => by
    have := NdAt.lt ha.1
    simp only [foot, List.mem_cons, List.mem_append, List.mem_flatMap] at hy
    rcases hy with rfl | (hy | hy) | ⟨k, hk, hy⟩
    · exact this.1
    · exact this.2.1 y hy
    · exact this.2.2 y hy
    · exact TAt.lt h k (ha.2 k hk) y hy
theorem TAt.nd {w : World} {h : Nat} {t : MT h} (ha : TAt w h t) : ∃ ptrs, NdAt w t.b t.pb t.ps t.kb ptrs := by
  cases h with
  | zero => exact ⟨_, ha⟩
  | succ h => exact ⟨_, ha.1⟩

theorem cut_nodup {N b rb : Nat} {pb1 kb1 kb rpb rkb F1 F2 : List Nat} (h1 : ∀ y, y ∈ pb1 ∨ y = rb ∨ y ∈ rpb ∨ y ∈ rkb → N ≤ y) (h2 : ∀ y ∈ kb1, y ∈ kb ∨ N ≤ y) (hnd : (pb1 ++ kb1 ++ rb :: (rpb ++ rkb)).Nodup) (hb : b < N)
    (hF : (F1 ++ F2).Nodup) (hFl : ∀ y ∈ F1 ++ F2, y < N) (hFk : ∀ a ∈ kb, ∀ y ∈ F1 ++ F2, a ≠ y) (hbF : b ∉ F1 ++ F2) (hbk : b ∉ kb) : (b :: (pb1 ++ kb1 ++ F1) ++ rb :: (rpb ++ rkb ++ F2)).Nodup := by
  simp only [List.nodup_append, List.nodup_cons, List.mem_append, List.mem_cons, List.cons_append] at *
  grind

/-- what a cut leaves of a tree -/
def CutPost (least most h : Nat) (t : MT h) (w : World) (e : Ending) (w' : World) : Prop :=
  ∃ (L R : MT h) (m : Pair), e = .returned (.tuple #[.agg #[.string m.1, .int .i64 m.2], .pointer (some ⟨R.b, 0, none⟩)]) ∧ TAt w' h L ∧ TAt w' h R ∧ L.b = t.b ∧
    flat h t = flat h L ++ m :: flat h R ∧ L.ps.length = t.ps.length / 2 ∧ R.ps.length = t.ps.length - (t.ps.length / 2 + 1) ∧ Shp least most h L ∧ Shp least most h R ∧
    (foot h L ++ foot h R).Nodup ∧ (∀ y ∈ foot h L ++ foot h R, y ∈ foot h t ∨ w.heap.size ≤ y) ∧ Tch (· = t.b) w w'

theorem cut_any (least most : Nat) {h : Nat} {t : MT h} {w : World} (ha : TAt w h t) (hd : (foot h t).Nodup) (h3 : 3 ≤ t.ps.length) (hn : t.ps.length ≤ 1000000) (hs : Shp least most h t) :
    Calls Try.prog 28 #[.pointer (some ⟨t.b, 0, none⟩)] w (CutPost least most h t w) := by
  have hlt := TAt.lt h t ha
  obtain ⟨m, hm⟩ : ∃ m, t.ps[t.ps.length / 2]? = some m := ⟨t.ps[t.ps.length / 2]'(by omega), by simp⟩
  have hps : t.ps = t.ps.take (t.ps.length / 2) ++ m :: t.ps.drop (t.ps.length / 2 + 1) := by
    conv => lhs; rw [← List.take_append_drop (t.ps.length / 2) t.ps]
    congr 1
    rw [List.drop_eq_getElem_cons (by omega)]
    congr 1
    have := List.getElem?_eq_some_iff.1 hm
    exact this.2
  have hll : (t.ps.take (t.ps.length / 2)).length = t.ps.length / 2 := by rw [List.length_take]; omega
  have hlr : (t.ps.drop (t.ps.length / 2 + 1)).length = t.ps.length - (t.ps.length / 2 + 1) := List.length_drop
  cases h with
  | zero =>
    simp only [foot, List.nodup_cons, List.mem_append, not_or] at hd
    refine (split_leaf ha h3 hn hd.1.1 hd.1.2 m hm).mono ?_
    rintro e w' ⟨pb1, kb1, rb, rpb, rkb, rfl, h1, h2, ht, hn1, hn2, hnd⟩
    rw [List.take_nil] at h1
    rw [List.drop_nil] at h2
    have hb := hlt t.b (foot_b 0 t)
    refine ⟨mk0 t.b pb1 (t.ps.take (t.ps.length / 2)) kb1, mk0 rb rpb (t.ps.drop (t.ps.length / 2 + 1)) rkb, m, rfl, h1, h2, rfl, hps, hll, hlr, trivial, trivial, ?_, ?_, ht⟩
    · simp only [foot, mk0]
      simp only [List.mem_append, List.mem_cons] at hn1
      grind
    · simp only [foot, mk0] at hlt ⊢
      simp only [List.mem_append, List.mem_cons] at hn1 hn2 ⊢
      grind
  | succ h =>
    obtain ⟨hnd0, hka⟩ := ha
    obtain ⟨hkl, hks⟩ := hs
    have hd0 := hd
    simp only [foot, List.nodup_cons, List.mem_append, not_or] at hd
    refine (split_in hnd0 (by rw [List.length_map, hkl]) h3 hn hd.1.1.1 hd.1.1.2 m hm).mono ?_
    rintro e w' ⟨pb1, kb1, rb, rpb, rkb, rfl, h1, h2, ht, hn1, hn2, hnd⟩
    have hb := hlt t.b (foot_b (h + 1) t)
    have hkeep : ∀ k ∈ kids t, TAt w' h k := fun k hk => TAt.tch ht h k (hka k hk) (fun y hy e => by
      subst e
      exact hd.1.2 (List.mem_flatMap.2 ⟨k, hk, hy⟩))
    have hkt : (kids t).take (t.ps.length / 2 + 1) ++ (kids t).drop (t.ps.length / 2 + 1) = kids t := List.take_append_drop _ _
    rw [← List.map_take] at h1
    rw [← List.map_drop] at h2
    have htl : ((kids t).take (t.ps.length / 2 + 1)).length = t.ps.length / 2 + 1 := by rw [List.length_take]; omega
    have hdl : ((kids t).drop (t.ps.length / 2 + 1)).length = t.ps.length - (t.ps.length / 2 + 1) + 1 := by rw [List.length_drop]; omega
    refine ⟨mkT t.b pb1 (t.ps.take (t.ps.length / 2)) kb1 ((kids t).take (t.ps.length / 2 + 1)), mkT rb rpb (t.ps.drop (t.ps.length / 2 + 1)) rkb ((kids t).drop (t.ps.length / 2 + 1)), m, rfl,
      ⟨h1, fun k hk => hkeep k (List.mem_of_mem_take hk)⟩, ⟨h2, fun k hk => hkeep k (List.mem_of_mem_drop hk)⟩, rfl, ?_, hll, hlr,
      ⟨(show ((kids t).take (t.ps.length / 2 + 1)).length = (t.ps.take (t.ps.length / 2)).length + 1 from by rw [htl, hll]), fun k hk => hks k (List.mem_of_mem_take hk)⟩,
      ⟨(show ((kids t).drop (t.ps.length / 2 + 1)).length = (t.ps.drop (t.ps.length / 2 + 1)).length + 1 from by rw [hdl, hlr]), fun k hk => hks k (List.mem_of_mem_drop hk)⟩, ?_, ?_, ht⟩
    · show weave t.ps ((kids t).map (flat h)) = weave _ (List.map (flat h) (List.take _ _)) ++ m :: weave _ (List.map (flat h) (List.drop _ _))
      conv => lhs; rw [hps, ← hkt]
      rw [List.map_append]
      generalize hK : (kids t).take (t.ps.length / 2 + 1) = K at *
      have hKne : K ≠ [] := by intro e; rw [e] at htl; simp at htl
      rw [← List.dropLast_concat_getLast hKne, List.map_append, List.append_assoc]
      exact weave_cut (by rw [List.length_map, List.length_dropLast, htl, hll]; omega) _ _ _ _
    · have hnk := (List.nodup_append.1 hd.2).2.1
      have hdis := (List.nodup_append.1 hd.2).2.2
      have hd1 := hd.1
      rw [← hkt, List.flatMap_append] at hnk hdis hd1
      have hlt2 : ∀ y ∈ ((kids t).take (t.ps.length / 2 + 1)).flatMap (foot h) ++ ((kids t).drop (t.ps.length / 2 + 1)).flatMap (foot h), y < w.heap.size := by
        intro y hy
        rw [← List.flatMap_append, hkt] at hy
        exact hlt y (by simp only [foot, List.mem_cons, List.mem_append]; exact .inr (.inr hy))
      have hn1' : ∀ y, y ∈ pb1 ∨ y = rb ∨ y ∈ rpb ∨ y ∈ rkb → w.heap.size ≤ y := fun y hy => hn1 y (by simpa [List.mem_append, List.mem_cons] using hy)
      exact cut_nodup hn1' hn2 hnd hb hnk hlt2 (fun a ha y hy => hdis a (List.mem_append_right _ ha) y hy) hd1.2 hd1.1.2
    · intro y hy
      simp only [foot, mkT, kids, List.mem_cons, List.mem_append] at hy ⊢
      have hn1' : ∀ y, y ∈ pb1 ∨ y = rb ∨ y ∈ rpb ∨ y ∈ rkb → w.heap.size ≤ y := fun y hy => hn1 y (by simpa [List.mem_append, List.mem_cons] using hy)
      have hm1 : ∀ y ∈ ((kids t).take (t.ps.length / 2 + 1)).flatMap (foot h), y ∈ (kids t).flatMap (foot h) := by
        intro y hy
        rw [← hkt, List.flatMap_append]; exact List.mem_append_left _ hy
      have hm2 : ∀ y ∈ ((kids t).drop (t.ps.length / 2 + 1)).flatMap (foot h), y ∈ (kids t).flatMap (foot h) := by
        intro y hy
        rw [← hkt, List.flatMap_append]; exact List.mem_append_right _ hy
      rcases hy with (rfl | (hy | hy) | hy) | (rfl | (hy | hy) | hy)
      · exact .inl (.inl rfl)
      · exact .inr (hn1' y (.inl hy))
      · rcases hn2 y hy with h | h
        · exact .inl (.inr (.inl (.inr h)))
        · exact .inr h
      · exact .inl (.inr (.inr (hm1 y hy)))
      · exact .inr (hn1' _ (.inr (.inl rfl)))
      · exact .inr (hn1' y (.inr (.inr (.inl hy))))
      · exact .inr (hn1' y (.inr (.inr (.inr hy))))
      · exact .inl (.inr (.inr (hm2 y hy)))
end Go.Proofs.Ytkhjhcbmefahkaa
