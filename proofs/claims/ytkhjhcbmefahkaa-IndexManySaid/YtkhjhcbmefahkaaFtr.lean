/-
  fill at trees: a child that may have one too few is filled; what the tree holds stays.
-/
import Derived.Test.YtkhjhcbmefahkaaDat
import Derived.Test.YtkhjhcbmefahkaaFir
import Derived.Test.YtkhjhcbmefahkaaFim
namespace Go.Proofs.Ytkhjhcbmefahkaa
open Go.RowKit Go.Mm Go.Lst

def FillPost (least most h : Nat) (d : MT (h + 1)) (w : World) (e : Ending) (w' : World) : Prop :=
  (∃ v, e = .returned v) ∧ ∃ d' : MT (h + 1), TAt w' (h + 1) d' ∧ d'.b = d.b ∧ (foot (h + 1) d').Nodup ∧ (∀ y ∈ foot (h + 1) d', y ∈ foot (h + 1) d ∨ w.heap.size ≤ y) ∧ Tch (· ∈ foot (h + 1) d) w w' ∧
    flat (h + 1) d' = flat (h + 1) d ∧ Shp least most (h + 1) d' ∧ d'.ps.length ≤ d.ps.length ∧ d.ps.length ≤ d'.ps.length + 1

section
variable {h : Nat} {w w' : World} {d : MT (h + 1)} {K1 K2 : List (MT h)} {l r : MT h} {D L R : NR} {dpv dkv lpv lkv rpv rkv : Value}

/-- two kids side by side, as three nodes apart from all else -/
structure Two (w : World) (d : MT (h + 1)) (K1 K2 : List (MT h)) (l r : MT h) (D L R : NR) : Prop where
  kk : kids d = K1 ++ l :: r :: K2
  here : TAt w (h + 1) d
  nds : Nds w [D, L, R]
  hD : ∃ pv kv, D = NR.of d pv kv
  hL : ∃ pv kv, L = NR.of l pv kv
  hR : ∃ pv kv, R = NR.of r pv kv
  perm : (foot (h + 1) d).Perm ([D, L, R].flatMap NR.bs ++ beside K1 l.ks r.ks K2)
  nd : ([D, L, R].flatMap NR.bs ++ beside K1 l.ks r.ks K2).Nodup
  lt : ∀ y ∈ [D, L, R].flatMap NR.bs ++ beside K1 l.ks r.ks K2, y < w.heap.size

theorem Two.mk' (hkk : kids d = K1 ++ l :: r :: K2) (ha : TAt w (h + 1) d) (hn : (foot (h + 1) d).Nodup) : ∃ D L R, Two w d K1 K2 l r D L R := by
  obtain ⟨dpv, dkv, hD⟩ := NR.of_at ha
  obtain ⟨lpv, lkv, hL⟩ := NR.of_at (ha.2 l (by rw [hkk]; simp))
  obtain ⟨rpv, rkv, hR⟩ := NR.of_at (ha.2 r (by rw [hkk]; simp))
  have hde : d = mkT d.b d.pb d.ps d.kb (K1 ++ l :: r :: K2) := by rw [← hkk]; rfl
  have hp : (foot (h + 1) d).Perm ([NR.of d dpv dkv, NR.of l lpv lkv, NR.of r rpv rkv].flatMap NR.bs ++ beside K1 l.ks r.ks K2) := by
    have := foot_three d.b d.pb d.kb d.ps K1 K2 l r dpv dkv lpv lkv rpv rkv
    rw [← hde] at this
    exact this
  have hnd := hp.nodup_iff.1 hn
  refine ⟨_, _, _, hkk, ha, ⟨?_, (List.nodup_append.1 hnd).1⟩, ⟨_, _, rfl⟩, ⟨_, _, rfl⟩, ⟨_, _, rfl⟩, hp, hnd, fun y hy => TAt.lt _ _ ha y (hp.mem_iff.2 hy)⟩
  intro n hn
  simp only [List.mem_cons, List.not_mem_nil, or_false] at hn
  rcases hn with rfl | rfl | rfl
  · exact hD
  · exact hL
  · exact hR

theorem Two.apart (I : Two w d K1 K2 l r D L R) {y : Nat} (hy : y ∈ beside K1 l.ks r.ks K2) : y ∉ [D, L, R].flatMap NR.bs := fun e => (List.nodup_append.1 I.nd).2.2 y e y hy rfl

/-- what lies beside is as it was -/
theorem Two.keep (I : Two w d K1 K2 l r D L R) (ht : Tch (· ∈ [D, L, R].flatMap NR.bs) w w') : (∀ k ∈ K1, TAt w' h k) ∧ (∀ k ∈ K2, TAt w' h k) ∧ (∀ k ∈ l.ks ++ r.ks, KAt w' h k) := by
  refine ⟨fun k hk => TAt.tch ht h k (I.here.2 k (by rw [I.kk]; simp [hk])) (fun y hy => I.apart ?_), fun k hk => TAt.tch ht h k (I.here.2 k (by rw [I.kk]; simp [hk])) (fun y hy => I.apart ?_), fun k hk => KAt.tch ht h k ?_ (fun y hy => I.apart ?_)⟩
  · unfold beside; simp only [List.mem_append, List.mem_flatMap]; exact .inl (.inl ⟨k, hk, hy⟩)
  · unfold beside; simp only [List.mem_append, List.mem_flatMap]; exact .inr ⟨k, hk, hy⟩
  · rcases List.mem_append.1 hk with hk | hk
    · exact ((TAt_eq w h l).1 (I.here.2 l (by rw [I.kk]; simp))).2 k hk
    · exact ((TAt_eq w h r).1 (I.here.2 r (by rw [I.kk]; simp))).2 k hk
  · unfold beside; simp only [List.mem_append, List.mem_flatMap]
    rcases List.mem_append.1 hk with hk | hk
    · exact .inl (.inr (.inl ⟨k, hk, hy⟩))
    · exact .inl (.inr (.inr ⟨k, hk, hy⟩))

/-- the three nodes laid anew: two kids again -/
theorem Two.fin (I : Two w d K1 K2 l r D L R) {D' L' R' : NR} (hf : From w [D, L, R] w' [D', L', R']) (hDb : D'.b = D.b) (hLb : L'.b = L.b) (hRb : R'.b = R.b) (hDp : D'.ptrs = D.ptrs) {lk rk : List (KT h)}
    (hLp : L'.ptrs = lk.map (kptr h)) (hRp : R'.ptrs = rk.map (kptr h)) (hks : (lk ++ rk).Perm (l.ks ++ r.ks)) :
    ∃ d' : MT (h + 1), TAt w' (h + 1) d' ∧ d'.b = d.b ∧ (foot (h + 1) d').Nodup ∧ (∀ y ∈ foot (h + 1) d', y ∈ foot (h + 1) d ∨ w.heap.size ≤ y) ∧ Tch (· ∈ foot (h + 1) d) w w' ∧
      d'.ps = D'.ps ∧ kids d' = K1 ++ (⟨L'.b, L'.pb, L'.ps, L'.kb, lk⟩ : MT h) :: (⟨R'.b, R'.pb, R'.ps, R'.kb, rk⟩ : MT h) :: K2 := by
  obtain ⟨k1, k2, k3⟩ := I.keep hf.2.1
  obtain ⟨dpv, dkv, eD⟩ := I.hD
  obtain ⟨lpv, lkv, eL⟩ := I.hL
  obtain ⟨rpv, rkv, eR⟩ := I.hR
  have hp' := foot_three D'.b D'.pb D'.kb D'.ps K1 K2 (⟨L'.b, L'.pb, L'.ps, L'.kb, lk⟩ : MT h) (⟨R'.b, R'.pb, R'.ps, R'.kb, rk⟩ : MT h) D'.pv D'.kv L'.pv L'.kv R'.pv R'.kv
  have hrest : (beside K1 lk rk K2).Perm (beside K1 l.ks r.ks K2) := by
    unfold beside
    refine ((List.Perm.append_left _ ?_).append_right _)
    rw [← List.flatMap_append, ← List.flatMap_append]
    exact hks.flatMap_right _
  have hbs : ([NR.of (mkT D'.b D'.pb D'.ps D'.kb (K1 ++ (⟨L'.b, L'.pb, L'.ps, L'.kb, lk⟩ : MT h) :: (⟨R'.b, R'.pb, R'.ps, R'.kb, rk⟩ : MT h) :: K2)) D'.pv D'.kv, NR.of (⟨L'.b, L'.pb, L'.ps, L'.kb, lk⟩ : MT h) L'.pv L'.kv, NR.of (⟨R'.b, R'.pb, R'.ps, R'.kb, rk⟩ : MT h) R'.pv R'.kv].flatMap NR.bs) = [D', L', R'].flatMap NR.bs := rfl
  rw [hbs] at hp'
  have hp2 := hp'.trans (List.Perm.append_left _ hrest)
  refine ⟨mkT D'.b D'.pb D'.ps D'.kb (K1 ++ (⟨L'.b, L'.pb, L'.ps, L'.kb, lk⟩ : MT h) :: (⟨R'.b, R'.pb, R'.ps, R'.kb, rk⟩ : MT h) :: K2), ?_, ?_, ?_, ?_, ?_, rfl, rfl⟩
  · refine at_of (h := h + 1) (hf.1.1 D' (by simp)) ?_ ?_
    · have e : D'.ptrs = (K1 ++ (⟨L'.b, L'.pb, L'.ps, L'.kb, lk⟩ : MT h) :: (⟨R'.b, R'.pb, R'.ps, R'.kb, rk⟩ : MT h) :: K2).map (fun k : MT h => k.b) := by
        rw [hDp, eD]
        show (kids d).map (·.b) = _
        rw [I.kk]
        simp only [List.map_append, List.map_cons]
        rw [hLb, hRb, eL, eR]
        rfl
      exact e
    · intro k hk
      rcases List.mem_append.1 hk with hk | hk
      · exact k1 k hk
      · rcases List.mem_cons.1 hk with rfl | hk
        · exact at_of (hf.1.1 L' (by simp)) hLp (fun k hk => k3 k (hks.mem_iff.1 (List.mem_append_left _ hk)))
        · rcases List.mem_cons.1 hk with rfl | hk
          · exact at_of (hf.1.1 R' (by simp)) hRp (fun k hk => k3 k (hks.mem_iff.1 (List.mem_append_right _ hk)))
          · exact k2 k hk
  · show D'.b = d.b
    rw [hDb, eD]; rfl
  · exact hp2.nodup_iff.2 (nodup_beside I.nd I.lt hf.1.2 hf.2.2)
  · intro y hy
    rcases List.mem_append.1 (hp2.mem_iff.1 hy) with hy | hy
    · rcases hf.2.2 y hy with h | h
      · exact .inl (I.perm.mem_iff.2 (List.mem_append_left _ h))
      · exact .inr h
    · exact .inl (I.perm.mem_iff.2 (List.mem_append_right _ hy))
  · exact hf.2.1.mono (fun y _ hy => I.perm.mem_iff.2 (List.mem_append_left _ hy))

/-- .. one kid of two -/
theorem Two.fin1 (I : Two w d K1 K2 l r D L R) {D' L' R' : NR} (hf : From w [D, L, R] w' [D', L', R']) (hDb : D'.b = D.b) (hLb : L'.b = L.b) (hDp : D'.ptrs = K1.map (·.b) ++ L.b :: K2.map (·.b)) {lk : List (KT h)}
    (hLp : L'.ptrs = lk.map (kptr h)) (hks : lk.Perm (l.ks ++ r.ks)) :
    ∃ d' : MT (h + 1), TAt w' (h + 1) d' ∧ d'.b = d.b ∧ (foot (h + 1) d').Nodup ∧ (∀ y ∈ foot (h + 1) d', y ∈ foot (h + 1) d ∨ w.heap.size ≤ y) ∧ Tch (· ∈ foot (h + 1) d) w w' ∧
      d'.ps = D'.ps ∧ kids d' = K1 ++ (⟨L'.b, L'.pb, L'.ps, L'.kb, lk⟩ : MT h) :: K2 := by
  obtain ⟨k1, k2, k3⟩ := I.keep hf.2.1
  obtain ⟨dpv, dkv, eD⟩ := I.hD
  have hp' : (foot (h + 1) (mkT D'.b D'.pb D'.ps D'.kb (K1 ++ (⟨L'.b, L'.pb, L'.ps, L'.kb, lk⟩ : MT h) :: K2))).Perm ([D', L'].flatMap NR.bs ++ beside K1 lk [] K2) := by
    refine List.perm_iff_count.2 (fun a => ?_)
    simp only [foot, mkT, kids, beside, NR.bs, List.flatMap_cons, List.flatMap_nil, List.flatMap_append, List.count_append, List.count_cons, foot_eq h (⟨L'.b, L'.pb, L'.ps, L'.kb, lk⟩ : MT h), List.append_nil]
    omega
  have hrest : (beside K1 lk [] K2).Perm (beside K1 l.ks r.ks K2) := by
    unfold beside
    refine ((List.Perm.append_left _ ?_).append_right _)
    rw [List.flatMap_nil, List.append_nil, ← List.flatMap_append]
    exact hks.flatMap_right _
  have hp2 := hp'.trans (List.Perm.append_left _ hrest)
  have hsub : ∀ y ∈ [D', L'].flatMap NR.bs, y ∈ [D', L', R'].flatMap NR.bs := fun y hy => by
    simp only [List.flatMap_cons, List.flatMap_nil, List.mem_append, List.append_nil] at hy ⊢
    exact hy.imp id .inl
  have hnd2 : ([D', L'].flatMap NR.bs).Nodup := by
    have := hf.1.2
    simp only [List.flatMap_cons, List.flatMap_nil, List.append_nil] at this ⊢
    rw [← List.append_assoc] at this
    exact (List.nodup_append.1 this).1
  refine ⟨mkT D'.b D'.pb D'.ps D'.kb (K1 ++ (⟨L'.b, L'.pb, L'.ps, L'.kb, lk⟩ : MT h) :: K2), ?_, ?_, ?_, ?_, ?_, rfl, rfl⟩
  · refine at_of (h := h + 1) (hf.1.1 D' (by simp)) ?_ ?_
    · have e : D'.ptrs = (K1 ++ (⟨L'.b, L'.pb, L'.ps, L'.kb, lk⟩ : MT h) :: K2).map (fun k : MT h => k.b) := by
        rw [hDp]
        simp only [List.map_append, List.map_cons]
        rw [hLb]
      exact e
    · intro k hk
      rcases List.mem_append.1 hk with hk | hk
      · exact k1 k hk
      · rcases List.mem_cons.1 hk with rfl | hk
        · exact at_of (hf.1.1 L' (by simp)) hLp (fun k hk => k3 k (hks.mem_iff.1 hk))
        · exact k2 k hk
  · show D'.b = d.b
    rw [hDb, eD]; rfl
  · exact hp2.nodup_iff.2 (nodup_beside I.nd I.lt hnd2 (fun y hy => hf.2.2 y (hsub y hy)))
  · intro y hy
    rcases List.mem_append.1 (hp2.mem_iff.1 hy) with hy | hy
    · rcases hf.2.2 y (hsub y hy) with h | h
      · exact .inl (I.perm.mem_iff.2 (List.mem_append_left _ h))
      · exact .inr h
    · exact .inl (I.perm.mem_iff.2 (List.mem_append_right _ hy))
  · exact hf.2.1.mono (fun y _ hy => I.perm.mem_iff.2 (List.mem_append_left _ hy))
end

theorem flat_two {h : Nat} {d : MT (h + 1)} {K1 K2 : List (MT h)} {l r : MT h} {A C : List Pair} {m : Pair} (hk : kids d = K1 ++ l :: r :: K2) (hp : d.ps = A ++ m :: C) (hl : K1.length = A.length) :
    flat (h + 1) d = wl A (K1.map (flat h)) ++ (flat h l ++ m :: flat h r) ++ wr C (K2.map (flat h)) := by
  show weave d.ps ((kids d).map (flat h)) = _
  rw [hk, hp, List.map_append, List.map_cons, List.map_cons]
  exact weave_two (by rw [List.length_map, hl]) _ _ _ _ _
theorem flat_one {h : Nat} {d : MT (h + 1)} {K1 K2 : List (MT h)} {l : MT h} {A C : List Pair} (hk : kids d = K1 ++ l :: K2) (hp : d.ps = A ++ C) (hl : K1.length = A.length) :
    flat (h + 1) d = wl A (K1.map (flat h)) ++ flat h l ++ wr C (K2.map (flat h)) := by
  show weave d.ps ((kids d).map (flat h)) = _
  rw [hk, hp, List.map_append, List.map_cons]
  exact weave_at (by rw [List.length_map, hl]) _ _ _

theorem ks_cases {least most h : Nat} {t : MT h} (hs : Shp least most h t) : (h = 0 ∧ t.ks = []) ∨ (h ≠ 0 ∧ t.ks.length = t.ps.length + 1) := by
  cases h with
  | zero => exact .inl ⟨rfl, ks_zero t⟩
  | succ h => exact .inr ⟨by omega, hs.1⟩
theorem split_list {α : Type} {l : List α} {i : Nat} (h : i < l.length) : ∃ A m C, l = A ++ m :: C ∧ A.length = i :=
  ⟨l.take i, l[i], l.drop (i + 1), by rw [← List.drop_eq_getElem_cons h, List.take_append_drop], by rw [List.length_take]; omega⟩
theorem ptr_at {h : Nat} {d : MT (h + 1)} {K1 K2 : List (MT h)} {k : MT h} (hk : kids d = K1 ++ k :: K2) {i : Nat} (hi : K1.length = i) (pv kv : Value) : (NR.of d pv kv).ptrs[i]? = some k.b := by
  show ((kids d).map (·.b))[i]? = _
  rw [hk, List.map_append, List.map_cons, List.getElem?_append_right (by rw [List.length_map]; omega), List.length_map, hi]
  simp
theorem ptr_at2 {h : Nat} {d : MT (h + 1)} {K1 K2 : List (MT h)} {l r : MT h} (hk : kids d = K1 ++ l :: r :: K2) {i : Nat} (hi : K1.length = i) (pv kv : Value) : (NR.of d pv kv).ptrs[i + 1]? = some r.b :=
  ptr_at (K1 := K1 ++ [l]) (K2 := K2) (by rw [hk]; simp) (by simp [hi]) pv kv
theorem len_ptrs {h : Nat} (t : MT h) (pv kv : Value) : (NR.of t pv kv).ptrs.length = t.ks.length := by simp [NR.of]
theorem ks_len {least most h : Nat} {t : MT h} (hs : Shp least most h t) : t.ks.length ≤ t.ps.length + 1 := by
  rcases ks_cases hs with ⟨_, h⟩ | ⟨_, h⟩
  · rw [h]; simp
  · omega

theorem shp_two {least most h : Nat} {d' : MT (h + 1)} {K1 K2 : List (MT h)} {l r : MT h} (hk : kids d' = K1 ++ l :: r :: K2) (hlen : (kids d').length = d'.ps.length + 1) (h1 : ∀ k ∈ K1 ++ K2, least ≤ k.ps.length ∧ k.ps.length ≤ most ∧ Shp least most h k)
    (hl : least ≤ l.ps.length ∧ l.ps.length ≤ most ∧ Shp least most h l) (hr : least ≤ r.ps.length ∧ r.ps.length ≤ most ∧ Shp least most h r) : Shp least most (h + 1) d' := by
  refine ⟨hlen, fun k hkm => ?_⟩
  rw [hk] at hkm
  simp only [List.mem_append, List.mem_cons] at hkm h1
  rcases hkm with h | rfl | rfl | h
  · exact h1 k (.inl h)
  · exact hl
  · exact hr
  · exact h1 k (.inr h)

section
variable {least most h : Nat} {d : MT (h + 1)} {w : World} {xb : Nat} {rv lv : Value} {K1 K2 : List (MT h)} {l r : MT h}

/-- .. by a pair of the left neighbour -/
theorem fill_treeL (hlm : 2 * least ≤ most) (hm : most ≤ 64) (hx : Blk w xb [.int .i64 most, .int .i64 least, rv, lv] 64) (hkk : kids d = K1 ++ l :: r :: K2) (ha : TAt w (h + 1) d) (hn : (foot (h + 1) d).Nodup) (hkl : (kids d).length = d.ps.length + 1) (hdm : d.ps.length ≤ most)
    (hoth : ∀ k ∈ K1 ++ K2, least ≤ k.ps.length ∧ k.ps.length ≤ most ∧ Shp least most h k) (hl : least < l.ps.length ∧ l.ps.length ≤ most ∧ Shp least most h l) (hr : r.ps.length < least ∧ least ≤ r.ps.length + 1 ∧ Shp least most h r) :
    Calls Try.prog 45 #[.pointer (some ⟨xb, 0, none⟩), .pointer (some ⟨d.b, 0, none⟩), .int .i64 ((K1.length : Int) + 1)] w (FillPost least most h d w) := by
  obtain ⟨D, L, R, I⟩ := Two.mk' hkk ha hn
  obtain ⟨dpv, dkv, eD⟩ := I.hD
  obtain ⟨lpv, lkv, eL⟩ := I.hL
  obtain ⟨rpv, rkv, eR⟩ := I.hR
  have hlen : K1.length + 1 + K2.length = d.ps.length := by rw [hkk] at hkl; simp at hkl; omega
  obtain ⟨A, m, C, hd, hA⟩ := split_list (show K1.length < d.ps.length by omega)
  have hlne : l.ps ≠ [] := by intro e; rw [e] at hl; simp at hl
  have hls : l.ps = l.ps.dropLast ++ [l.ps.getLast hlne] := (List.dropLast_concat_getLast hlne).symm
  generalize l.ps.dropLast = lps at hls
  generalize l.ps.getLast hlne = x at hls
  have hksl := ks_len hl.2.2
  have hksr := ks_len hr.2.2
  have hk : L.ptrs = [] ∨ ∃ lk c, L.ptrs = lk ++ [c] ∧ lk.length = L.ps.length := by
    rw [eL]
    rcases ks_cases hl.2.2 with ⟨_, h⟩ | ⟨_, h⟩
    · exact .inl (by simp [NR.of, h])
    · have hne : l.ks ≠ [] := by intro e; rw [e] at h; simp at h
      refine .inr ⟨l.ks.dropLast.map (kptr _), kptr _ (l.ks.getLast hne), ?_, ?_⟩
      · show l.ks.map _ = _
        conv => lhs; rw [← List.dropLast_concat_getLast hne]
        simp
      · rw [List.length_map, List.length_dropLast, h]; rfl
  have hcall := fill_left hx (d := D) (l := L) (r := R) I.nds (i := K1.length) (by rw [eD, eL]; exact ptr_at hkk rfl _ _) (by rw [eD, eR]; exact ptr_at2 hkk rfl _ _) hA (by rw [eD]; exact hd) (by rw [eL]; exact hls)
    (by rw [eR]; exact hr.1) (by rw [eL]; exact hl.1) (by rw [eD]; show d.ps.length ≤ 1000; omega) (by rw [eL]; show l.ps.length ≤ 1000; omega) (by rw [eR, len_ptrs]; omega) hk
  rw [eD] at hcall
  refine hcall.mono ?_
  rintro e w' ⟨hv, D', L', R', hf, b1, b2, b3, p1, p2, p3, p4, p5⟩
  rw [← eD] at hf b1 p2
  have hkids : ∃ lk rk : List (KT h), L'.ptrs = lk.map (kptr h) ∧ R'.ptrs = rk.map (kptr h) ∧ (lk ++ rk).Perm (l.ks ++ r.ks) ∧ ((l.ks = [] ∧ lk = [] ∧ r.ks = rk) ∨ ∃ c, l.ks = lk ++ [c] ∧ rk = c :: r.ks) := by
    rw [eL, eR] at p5
    rcases p5 with ⟨q1, q2, q3⟩ | ⟨lk, c, q1, q2, q3⟩
    · have : l.ks = [] := by simpa [NR.of] using q1
      exact ⟨[], r.ks, q2, q3, by rw [this], .inl ⟨this, rfl, rfl⟩⟩
    · obtain ⟨lk', c', e1, e2, e3⟩ := List.map_eq_append_iff.1 (show l.ks.map (kptr h) = lk ++ [c] from q1)
      obtain ⟨c'', rfl, e4⟩ : ∃ c'', c' = [c''] ∧ kptr h c'' = c := by
        match c', e3 with
        | [a], e3 => exact ⟨a, rfl, by simpa using e3⟩
      refine ⟨lk', c'' :: r.ks, q2.trans e2.symm, ?_, ?_, .inr ⟨c'', e1, rfl⟩⟩
      · rw [q3, List.map_cons, e4]; rfl
      · rw [e1]; simp
  obtain ⟨lk, rk, hLp, hRp, hperm, hks⟩ := hkids
  obtain ⟨d', t1, t2, t3, t4, t5, t6, t7⟩ := I.fin hf b1 b2 b3 p2 hLp hRp hperm
  rw [p1] at t6
  have hL' := (Shp_eq least most h l).1 hl.2.2
  have hR' := (Shp_eq least most h r).1 hr.2.2
  have hR'ps : R'.ps = m :: r.ps := by rw [p4, eR]; rfl
  have hllen : l.ps.length = lps.length + 1 := by rw [hls]; simp
  have hAl : A.length + 1 + C.length = d.ps.length := by rw [hd]; simp; omega
  refine ⟨hv, d', t1, t2, t3, t4, t5, ?_, ?_, by rw [t6]; simp; omega, by rw [t6]; simp; omega⟩
  · rw [flat_two t7 t6 hA.symm, flat_two hkk hd hA.symm]
    congr 2
    refine (flat_loan_left (l := l) (r := r) (by show l.ps = L'.ps ++ [x]; rw [p3]; exact hls) (by show R'.ps = m :: r.ps; exact hR'ps) ?_).symm
    rcases hks with ⟨e1, e2, e3⟩ | ⟨c, e1, e2⟩
    · rcases ks_cases hl.2.2 with ⟨h0, _⟩ | ⟨_, h0⟩
      · subst h0
        exact .inl ⟨e1, e2, ks_zero r, e3 ▸ ks_zero r⟩
      · rw [e1] at h0; simp at h0
    · rcases ks_cases hl.2.2 with ⟨h0, h1⟩ | ⟨_, h0⟩
      · rw [h1] at e1; simp at e1
      · exact .inr ⟨c, e1, e2, h0⟩
  · refine shp_two t7 (by rw [t7, t6]; simp; omega) hoth ⟨by show least ≤ L'.ps.length; rw [p3]; omega, by show L'.ps.length ≤ most; rw [p3]; omega, ?_⟩ ⟨by show least ≤ R'.ps.length; rw [hR'ps]; simp; omega, by show R'.ps.length ≤ most; rw [hR'ps]; simp; omega, ?_⟩
    · rw [Shp_eq]
      refine ⟨fun h0 => ?_, fun k hk => ?_⟩
      · show lk.length = L'.ps.length + 1
        rcases hks with ⟨e1, e2, e3⟩ | ⟨c, e1, e2⟩
        · have := hL'.1 h0; rw [e1] at this; simp at this
        · have := hL'.1 h0; rw [e1] at this; simp at this; rw [p3]; omega
      · have hk' : k ∈ l.ks ++ r.ks := hperm.mem_iff.1 (List.mem_append_left _ hk)
        rcases List.mem_append.1 hk' with h | h
        · exact hL'.2 k h
        · exact hR'.2 k h
    · rw [Shp_eq]
      refine ⟨fun h0 => ?_, fun k hk => ?_⟩
      · show rk.length = R'.ps.length + 1
        rcases hks with ⟨e1, e2, e3⟩ | ⟨c, e1, e2⟩
        · have := hL'.1 h0; rw [e1] at this; simp at this
        · have := hR'.1 h0; rw [e2, hR'ps]; simp; omega
      · have hk' : k ∈ l.ks ++ r.ks := hperm.mem_iff.1 (List.mem_append_right _ hk)
        rcases List.mem_append.1 hk' with h | h
        · exact hL'.2 k h
        · exact hR'.2 k h

/-- .. by a pair of the right neighbour -/
theorem fill_treeR (hlm : 2 * least ≤ most) (hm : most ≤ 64) (hx : Blk w xb [.int .i64 most, .int .i64 least, rv, lv] 64) (hkk : kids d = K1 ++ l :: r :: K2) (ha : TAt w (h + 1) d) (hn : (foot (h + 1) d).Nodup) (hkl : (kids d).length = d.ps.length + 1) (hdm : d.ps.length ≤ most)
    (hoth : ∀ k ∈ K1 ++ K2, least ≤ k.ps.length ∧ k.ps.length ≤ most ∧ Shp least most h k) (hr : least < r.ps.length ∧ r.ps.length ≤ most ∧ Shp least most h r) (hl : l.ps.length < least ∧ least ≤ l.ps.length + 1 ∧ Shp least most h l)
    (hz : K1 = [] ∨ ∃ z, K1.getLast? = some z ∧ z.ps.length ≤ least) :
    Calls Try.prog 45 #[.pointer (some ⟨xb, 0, none⟩), .pointer (some ⟨d.b, 0, none⟩), .int .i64 (K1.length : Int)] w (FillPost least most h d w) := by
  obtain ⟨D, L, R, I⟩ := Two.mk' hkk ha hn
  obtain ⟨dpv, dkv, eD⟩ := I.hD
  obtain ⟨lpv, lkv, eL⟩ := I.hL
  obtain ⟨rpv, rkv, eR⟩ := I.hR
  have hlen : K1.length + 1 + K2.length = d.ps.length := by rw [hkk] at hkl; simp at hkl; omega
  obtain ⟨A, m, C, hd, hA⟩ := split_list (show K1.length < d.ps.length by omega)
  obtain ⟨x, rps, hrs⟩ : ∃ x rps, r.ps = x :: rps := by
    match hq : r.ps with
    | [] => rw [hq] at hr; simp at hr
    | x :: rps => exact ⟨x, rps, rfl⟩
  have hksl := ks_len hl.2.2
  have hksr := ks_len hr.2.2
  have hk : R.ptrs = [] ∨ ∃ c rk, R.ptrs = c :: rk := by
    match R.ptrs with
    | [] => exact .inl rfl
    | c :: rk => exact .inr ⟨c, rk, rfl⟩
  have hz' : K1.length = 0 ∨ ∃ zb za zn zc, 0 < K1.length ∧ D.ptrs[K1.length - 1]? = some zb ∧ w.cell? ⟨zb, 0, none⟩ = some (.slice za zn zc) ∧ zn ≤ least := by
    rcases hz with h | ⟨z, hz, hzl⟩
    · exact .inl (by rw [h]; rfl)
    · obtain ⟨K, rfl⟩ := List.getLast?_eq_some_iff.1 hz
      obtain ⟨zpv, zkv, hz1⟩ := NR.of_at (ha.2 z (by rw [hkk]; simp))
      obtain ⟨za, zc, e, _⟩ := hz1.2.1.val
      have hc := hz1.1.cell 0
      rw [show (NR.of z zpv zkv).pv = .slice za z.ps.length zc from e] at hc
      exact .inr ⟨z.b, za, z.ps.length, zc, by simp, by rw [eD]; exact ptr_at (K1 := K) (K2 := l :: r :: K2) (by rw [hkk]; simp) (by simp) _ _, hc, hzl⟩
  have hcall := fill_right hx (d := D) (l := L) (r := R) I.nds (i := K1.length) (by rw [eD, eL]; exact ptr_at hkk rfl _ _) (by rw [eD, eR]; exact ptr_at2 hkk rfl _ _) hz' hA (by rw [eD]; exact hd) (by rw [eR]; exact hrs)
    (by rw [eL]; exact hl.1) (by rw [eR]; exact hr.1) (by rw [eD]; show d.ps.length ≤ 1000; omega) (by rw [eR]; show r.ps.length ≤ 1000; omega) (by rw [eR, len_ptrs]; omega) (by rw [eL, len_ptrs]; omega) hk
  rw [eD] at hcall
  refine hcall.mono ?_
  rintro e w' ⟨hv, D', L', R', hf, b1, b2, b3, p1, p2, p3, p4, p5⟩
  rw [← eD] at hf b1 p2
  have hkids : ∃ lk rk : List (KT h), L'.ptrs = lk.map (kptr h) ∧ R'.ptrs = rk.map (kptr h) ∧ (lk ++ rk).Perm (l.ks ++ r.ks) ∧ ((r.ks = [] ∧ rk = [] ∧ l.ks = lk) ∨ ∃ c, lk = l.ks ++ [c] ∧ r.ks = c :: rk) := by
    rw [eL, eR] at p5
    rcases p5 with ⟨q1, q2, q3⟩ | ⟨c, rk, q1, q2, q3⟩
    · have : r.ks = [] := by simpa [NR.of] using q1
      exact ⟨l.ks, [], q3, q2, by rw [this], .inl ⟨this, rfl, rfl⟩⟩
    · obtain ⟨c'', rk', e1, e2, e3⟩ := List.map_eq_cons_iff.1 (show r.ks.map (kptr h) = c :: rk from q1)
      refine ⟨l.ks ++ [c''], rk', ?_, q3.trans e3.symm, ?_, .inr ⟨c'', rfl, e1⟩⟩
      · rw [q2, List.map_append, List.map_singleton, e2]; rfl
      · rw [e1]; simp
  obtain ⟨lk, rk, hLp, hRp, hperm, hks⟩ := hkids
  obtain ⟨d', t1, t2, t3, t4, t5, t6, t7⟩ := I.fin hf b1 b2 b3 p2 hLp hRp hperm
  rw [p1] at t6
  have hL' := (Shp_eq least most h l).1 hl.2.2
  have hR' := (Shp_eq least most h r).1 hr.2.2
  have hL'ps : L'.ps = l.ps ++ [m] := by rw [p3, eL]; rfl
  have hrlen : r.ps.length = rps.length + 1 := by rw [hrs]; simp
  have hAl : A.length + 1 + C.length = d.ps.length := by rw [hd]; simp; omega
  refine ⟨hv, d', t1, t2, t3, t4, t5, ?_, ?_, by rw [t6]; simp; omega, by rw [t6]; simp; omega⟩
  · rw [flat_two t7 t6 hA.symm, flat_two hkk hd hA.symm]
    congr 2
    refine (flat_loan_right (l := l) (r := r) (by show L'.ps = l.ps ++ [m]; exact hL'ps) (by show r.ps = x :: R'.ps; rw [p4]; exact hrs) ?_).symm
    rcases hks with ⟨e1, e2, e3⟩ | ⟨c, e1, e2⟩
    · rcases ks_cases hr.2.2 with ⟨h0, _⟩ | ⟨_, h0⟩
      · subst h0
        exact .inl ⟨ks_zero l, e3 ▸ ks_zero l, e1, e2⟩
      · rw [e1] at h0; simp at h0
    · rcases ks_cases hl.2.2 with ⟨h0, h1⟩ | ⟨_, h0⟩
      · subst h0
        have := ks_zero r
        rw [e2] at this; cases this
      · exact .inr ⟨c, e1, e2, h0⟩
  · refine shp_two t7 (by rw [t7, t6]; simp; omega) hoth ⟨by show least ≤ L'.ps.length; rw [hL'ps]; simp; omega, by show L'.ps.length ≤ most; rw [hL'ps]; simp; omega, ?_⟩ ⟨by show least ≤ R'.ps.length; rw [p4]; omega, by show R'.ps.length ≤ most; rw [p4]; omega, ?_⟩
    · rw [Shp_eq]
      refine ⟨fun h0 => ?_, fun k hk => ?_⟩
      · show lk.length = L'.ps.length + 1
        rcases hks with ⟨e1, e2, e3⟩ | ⟨c, e1, e2⟩
        · have := hR'.1 h0; rw [e1] at this; simp at this
        · have := hL'.1 h0; rw [e1, hL'ps]; simp; omega
      · have hk' : k ∈ l.ks ++ r.ks := hperm.mem_iff.1 (List.mem_append_left _ hk)
        rcases List.mem_append.1 hk' with h | h
        · exact hL'.2 k h
        · exact hR'.2 k h
    · rw [Shp_eq]
      refine ⟨fun h0 => ?_, fun k hk => ?_⟩
      · show rk.length = R'.ps.length + 1
        rcases hks with ⟨e1, e2, e3⟩ | ⟨c, e1, e2⟩
        · have := hR'.1 h0; rw [e1] at this; simp at this
        · have := hR'.1 h0; rw [e2] at this; simp at this; rw [p4]; omega
      · have hk' : k ∈ l.ks ++ r.ks := hperm.mem_iff.1 (List.mem_append_right _ hk)
        rcases List.mem_append.1 hk' with h | h
        · exact hL'.2 k h
        · exact hR'.2 k h

/-- .. both are made one -/
theorem fill_treeM (hlm : 2 * least ≤ most) (hm : most ≤ 64) (hx : Blk w xb [.int .i64 most, .int .i64 least, rv, lv] 64) (hkk : kids d = K1 ++ l :: r :: K2) (ha : TAt w (h + 1) d) (hn : (foot (h + 1) d).Nodup) (hkl : (kids d).length = d.ps.length + 1) (hdm : d.ps.length ≤ most)
    (hoth : ∀ k ∈ K1 ++ K2, least ≤ k.ps.length ∧ k.ps.length ≤ most ∧ Shp least most h k) (hl : Shp least most h l) (hr : Shp least most h r) (hlr : l.ps.length + r.ps.length + 1 = 2 * least) {i : Nat}
    (hi : (i = K1.length ∧ l.ps.length < least ∧ r.ps.length ≤ least ∧ (K1 = [] ∨ ∃ z, K1.getLast? = some z ∧ z.ps.length ≤ least)) ∨ (i = K1.length + 1 ∧ K2 = [] ∧ l.ps.length ≤ least ∧ r.ps.length < least)) :
    Calls Try.prog 45 #[.pointer (some ⟨xb, 0, none⟩), .pointer (some ⟨d.b, 0, none⟩), .int .i64 (i : Int)] w (FillPost least most h d w) := by
  obtain ⟨D, L, R, I⟩ := Two.mk' hkk ha hn
  obtain ⟨dpv, dkv, eD⟩ := I.hD
  obtain ⟨lpv, lkv, eL⟩ := I.hL
  obtain ⟨rpv, rkv, eR⟩ := I.hR
  have hlen : K1.length + 1 + K2.length = d.ps.length := by rw [hkk] at hkl; simp at hkl; omega
  obtain ⟨A, m, C, hd, hA⟩ := split_list (show K1.length < d.ps.length by omega)
  have hksl := ks_len hl
  have hksr := ks_len hr
  have cellof : ∀ z : MT h, z ∈ kids d → ∃ za zc, w.cell? ⟨z.b, 0, none⟩ = some (.slice za z.ps.length zc) := by
    intro z hz
    obtain ⟨zpv, zkv, hz1⟩ := NR.of_at (ha.2 z hz)
    obtain ⟨za, zc, e, _⟩ := hz1.2.1.val
    have hc := hz1.1.cell 0
    rw [show (NR.of z zpv zkv).pv = .slice za z.ps.length zc from e] at hc
    exact ⟨za, zc, hc⟩
  have hPt : D.ptrs = K1.map (·.b) ++ L.b :: R.b :: K2.map (·.b) := by
    rw [eD, eL, eR]
    show (kids d).map (·.b) = _
    rw [hkk]
    simp only [List.map_append, List.map_cons]
    rfl
  have hpl : D.ptrs.length = d.ps.length + 1 := by rw [eD, len_ptrs]; exact hkl
  obtain ⟨la, lc, hcl⟩ := cellof l (by rw [hkk]; simp)
  obtain ⟨ra, rc, hcr⟩ := cellof r (by rw [hkk]; simp)
  have hcall : Calls Try.prog 45 #[.pointer (some ⟨xb, 0, none⟩), .pointer (some ⟨D.b, 0, none⟩), .int .i64 (i : Int)] w (FillMerge w D L R A C (K1.map (·.b)) (K2.map (·.b)) m) := by
    rcases hi with ⟨rfl, h1, h2, hz⟩ | ⟨rfl, h1, h2, h3⟩
    · have hz' : K1.length = 0 ∨ ∃ zb za zn zc, 0 < K1.length ∧ D.ptrs[K1.length - 1]? = some zb ∧ w.cell? ⟨zb, 0, none⟩ = some (.slice za zn zc) ∧ zn ≤ least := by
        rcases hz with h | ⟨z, hz, hzl⟩
        · exact .inl (by rw [h]; rfl)
        · obtain ⟨K, rfl⟩ := List.getLast?_eq_some_iff.1 hz
          obtain ⟨za, zc, hc⟩ := cellof z (by rw [hkk]; simp)
          exact .inr ⟨z.b, za, z.ps.length, zc, by simp, by rw [eD]; exact ptr_at (K1 := K) (K2 := l :: r :: K2) (by rw [hkk]; simp) (by simp) _ _, hc, hzl⟩
      exact fill_merge hx I.nds hPt (by simp) hA (by rw [eD]; exact hd) (by rw [eD]; exact ptr_at hkk rfl _ _) hcl h1 hz'
        (.inr ⟨by rw [eD]; show K1.length < d.ps.length; omega, rfl, r.b, ra, r.ps.length, rc, by rw [eD]; exact ptr_at2 hkk rfl _ _, hcr, h2⟩) (by omega) (by rw [eD]; show d.ps.length ≤ 1000; omega) (by rw [eL]; show l.ps.length ≤ 1000; omega) (by rw [eR]; show r.ps.length ≤ 1000; omega) (by rw [eL, len_ptrs]; omega) (by rw [eR, len_ptrs]; omega)
    · subst h1
      exact fill_merge hx I.nds hPt (by simp) hA (by rw [eD]; exact hd) (by rw [eD]; exact ptr_at2 hkk rfl _ _) hcr h3 (.inr ⟨l.b, la, l.ps.length, lc, by omega, by rw [eD]; exact ptr_at hkk (by omega) _ _, hcl, h2⟩)
        (.inl ⟨by rw [eD]; show K1.length + 1 = d.ps.length; simp at hlen; omega, rfl⟩) (by omega) (by rw [eD]; show d.ps.length ≤ 1000; omega) (by rw [eL]; show l.ps.length ≤ 1000; omega) (by rw [eR]; show r.ps.length ≤ 1000; omega) (by rw [eL, len_ptrs]; omega) (by rw [eR, len_ptrs]; omega)
  rw [eD] at hcall
  refine hcall.mono ?_
  rintro e w' ⟨hv, D', L', hf, b1, b2, p1, p2, p3, p4⟩
  rw [← eD] at hf b1
  have hLp : L'.ptrs = (l.ks ++ r.ks).map (kptr h) := by rw [p4, eL, eR, List.map_append]; rfl
  obtain ⟨d', t1, t2, t3, t4, t5, t6, t7⟩ := I.fin1 hf b1 b2 p2 hLp (List.Perm.refl _)
  rw [p1] at t6
  have hL' := (Shp_eq least most h l).1 hl
  have hR' := (Shp_eq least most h r).1 hr
  have hL'ps : L'.ps = l.ps ++ m :: r.ps := by rw [p3, eL, eR]; rfl
  have hAl : A.length + 1 + C.length = d.ps.length := by rw [hd]; simp; omega
  refine ⟨hv, d', t1, t2, t3, t4, t5, ?_, ?_, by rw [t6]; simp; omega, by rw [t6]; simp; omega⟩
  · rw [flat_one t7 t6 hA.symm, flat_two hkk hd hA.symm]
    congr 2
    refine (flat_union (l := l) (r := r) (by show L'.ps = _; exact hL'ps) rfl ?_).symm
    rcases ks_cases hl with ⟨h0, h1⟩ | ⟨_, h1⟩
    · subst h0
      exact .inl ⟨h1, ks_zero r⟩
    · exact .inr h1
  · refine ⟨by rw [t7, t6]; simp; omega, fun k hkm => ?_⟩
    rw [t7] at hkm
    simp only [List.mem_append, List.mem_cons] at hkm hoth
    rcases hkm with h | rfl | h
    · exact hoth k (.inl h)
    · refine ⟨by show least ≤ L'.ps.length; rw [hL'ps]; simp; omega, by show L'.ps.length ≤ most; rw [hL'ps]; simp; omega, ?_⟩
      rw [Shp_eq]
      refine ⟨fun h0 => ?_, fun k hk => ?_⟩
      · show (l.ks ++ r.ks).length = L'.ps.length + 1
        have h1 := hL'.1 h0
        have h2 := hR'.1 h0
        rw [hL'ps]; simp; omega
      · rcases List.mem_append.1 hk with h | h
        · exact hL'.2 k h
        · exact hR'.2 k h
    · exact hoth k (.inr h)

/-- fill, whatever is needed -/
theorem fill_any (hlm : 2 * least ≤ most) (hm : most ≤ 64) (hx : Blk w xb [.int .i64 most, .int .i64 least, rv, lv] 64) {kid : MT h} (hkk : kids d = K1 ++ kid :: K2) (ha : TAt w (h + 1) d) (hn : (foot (h + 1) d).Nodup) (hkl : (kids d).length = d.ps.length + 1) (h1 : 1 ≤ d.ps.length) (hdm : d.ps.length ≤ most)
    (hoth : ∀ k ∈ K1 ++ K2, least ≤ k.ps.length ∧ k.ps.length ≤ most ∧ Shp least most h k) (hkid : least ≤ kid.ps.length + 1 ∧ kid.ps.length ≤ most ∧ Shp least most h kid) :
    Calls Try.prog 45 #[.pointer (some ⟨xb, 0, none⟩), .pointer (some ⟨d.b, 0, none⟩), .int .i64 (K1.length : Int)] w (FillPost least most h d w) := by
  by_cases hen : least ≤ kid.ps.length
  · obtain ⟨dpv, dkv, hD⟩ := NR.of_at ha
    obtain ⟨kpv, kkv, hK⟩ := NR.of_at (ha.2 kid (by rw [hkk]; simp))
    refine (fill_enough hx hD hK (i := K1.length) (ptr_at hkk rfl _ _) hen).mono ?_
    rintro e w' ⟨hv, ht⟩
    refine ⟨hv, d, TAt.tch ht _ d ha (fun _ _ h => h), rfl, hn, fun y hy => .inl hy, ht.mono (fun _ _ h => h.elim), rfl, ⟨hkl, fun k hk => ?_⟩, Nat.le_refl _, by omega⟩
    rw [hkk] at hk
    simp only [List.mem_append, List.mem_cons] at hk hoth
    rcases hk with h | rfl | h
    · exact hoth k (.inl h)
    · exact ⟨hen, hkid.2⟩
    · exact hoth k (.inr h)
  by_cases hL : ∃ l, K1.getLast? = some l ∧ least < l.ps.length
  · obtain ⟨l, hl, hll⟩ := hL
    obtain ⟨K, rfl⟩ := List.getLast?_eq_some_iff.1 hl
    have := fill_treeL (K1 := K) (l := l) (r := kid) (K2 := K2) hlm hm hx (by rw [hkk]; simp) ha hn hkl hdm (fun k hk => hoth k (by simp only [List.mem_append] at hk ⊢; exact hk.imp .inl id)) ⟨hll, (hoth l (by simp)).2⟩ ⟨by omega, hkid.1, hkid.2.2⟩
    rw [List.length_append]
    exact this
  have hz : K1 = [] ∨ ∃ z, K1.getLast? = some z ∧ z.ps.length ≤ least := by
    cases hg : K1.getLast? with
    | none => exact .inl (List.getLast?_eq_none_iff.1 hg)
    | some z => exact .inr ⟨z, rfl, Nat.le_of_not_lt (fun h => hL ⟨z, hg, h⟩)⟩
  cases K2 with
  | cons r K2 =>
    have hr := hoth r (by simp)
    by_cases hR : least < r.ps.length
    · exact fill_treeR hlm hm hx hkk ha hn hkl hdm (fun k hk => hoth k (by simp only [List.mem_append, List.mem_cons] at hk ⊢; exact hk.imp id .inr)) ⟨hR, hr.2⟩ ⟨by omega, hkid.1, hkid.2.2⟩ hz
    · exact fill_treeM hlm hm hx hkk ha hn hkl hdm (fun k hk => hoth k (by simp only [List.mem_append, List.mem_cons] at hk ⊢; exact hk.imp id .inr)) hkid.2.2 hr.2.2 (by omega) (.inl ⟨rfl, by omega, by omega, hz⟩)
  | nil =>
    rcases hz with h0 | ⟨l, hl, hll⟩
    · have : (kids d).length = 1 := by rw [hkk, h0]; rfl
      omega
    · obtain ⟨K, rfl⟩ := List.getLast?_eq_some_iff.1 hl
      have hlo := hoth l (by simp)
      exact fill_treeM (K1 := K) (K2 := []) hlm hm hx (by rw [hkk]; simp) ha hn hkl hdm (fun k hk => hoth k (by simp only [List.mem_append] at hk ⊢; rcases hk with h | h; (exact .inl (.inl h)); cases h)) hlo.2.2 hkid.2.2 (by omega) (.inr ⟨by simp, rfl, hll, by omega⟩)
end
end Go.Proofs.Ytkhjhcbmefahkaa
