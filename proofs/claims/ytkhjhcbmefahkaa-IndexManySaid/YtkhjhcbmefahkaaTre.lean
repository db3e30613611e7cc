/-
  B-trees as plain data: nodes with blocks, what they hold in order, their shape. No program in sight.
-/
import Derived.Test.YtkhjhcbmefahkaaLst
namespace Go.Lst
open Go

/-! ### Pairs and kids, one between the other -/
def weave : List Pair → List (List Pair) → List Pair
  | [], [] => []
  | [], k :: _ => k
  | p :: ps, [] => p :: weave ps []
  | p :: ps, k :: ks => k ++ p :: weave ps ks
def wl : List Pair → List (List Pair) → List Pair
  | [], _ => []
  | p :: ps, [] => p :: wl ps []
  | p :: ps, k :: ks => k ++ p :: wl ps ks
def wr : List Pair → List (List Pair) → List Pair
  | [], _ => []
  | p :: ps, ks => p :: weave ps ks

theorem weave_nil (ps : List Pair) : weave ps [] = ps := by
  induction ps with
  | nil => rfl
  | cons p ps ih => simp [weave, ih]
theorem weave_append {ps1 : List Pair} {ks1 : List (List Pair)} (h : ks1.length = ps1.length) (ps2 : List Pair) (ks2 : List (List Pair)) :
    weave (ps1 ++ ps2) (ks1 ++ ks2) = wl ps1 ks1 ++ weave ps2 ks2 := by
  induction ps1 generalizing ks1 with
  | nil =>
    obtain rfl : ks1 = [] := List.eq_nil_of_length_eq_zero h
    rfl
  | cons p ps1 ih =>
    cases ks1 with
    | nil => simp at h
    | cons k ks1 =>
      simp only [List.length_cons, Nat.add_right_cancel_iff] at h
      simp [weave, wl, ih h]
theorem wl_append {ps1 : List Pair} {ks1 : List (List Pair)} (h : ks1.length = ps1.length) (ps2 : List Pair) (ks2 : List (List Pair)) :
    wl (ps1 ++ ps2) (ks1 ++ ks2) = wl ps1 ks1 ++ wl ps2 ks2 := by
  induction ps1 generalizing ks1 with
  | nil =>
    obtain rfl : ks1 = [] := List.eq_nil_of_length_eq_zero h
    rfl
  | cons p ps1 ih =>
    cases ks1 with
    | nil => simp at h
    | cons k ks1 =>
      simp only [List.length_cons, Nat.add_right_cancel_iff] at h
      simp [wl, ih h]
theorem weave_kid (ps : List Pair) (k : List Pair) (ks : List (List Pair)) : weave ps (k :: ks) = k ++ wr ps ks := by
  cases ps <;> simp [weave, wr]
/-- a node around its kid -/
theorem weave_at {ps1 : List Pair} {ks1 : List (List Pair)} (h : ks1.length = ps1.length) (ps2 : List Pair) (k : List Pair) (ks2 : List (List Pair)) :
    weave (ps1 ++ ps2) (ks1 ++ k :: ks2) = wl ps1 ks1 ++ k ++ wr ps2 ks2 := by
  rw [weave_append h, weave_kid, List.append_assoc]
/-- two kids and the pair between -/
theorem weave_two {ps1 : List Pair} {ks1 : List (List Pair)} (h : ks1.length = ps1.length) (m : Pair) (ps2 : List Pair) (l r : List Pair) (ks2 : List (List Pair)) :
    weave (ps1 ++ m :: ps2) (ks1 ++ l :: r :: ks2) = wl ps1 ks1 ++ (l ++ m :: r) ++ wr ps2 ks2 := by
  rw [weave_at h]
  simp [wr, weave_kid]
/-- a node cut in two -/
theorem weave_cut {ps1 : List Pair} {ks1 : List (List Pair)} (h : ks1.length = ps1.length) (m : Pair) (ps2 : List Pair) (k : List Pair) (ks2 : List (List Pair)) :
    weave (ps1 ++ m :: ps2) (ks1 ++ k :: ks2) = weave ps1 (ks1 ++ [k]) ++ m :: weave ps2 ks2 := by
  have e : weave ps1 (ks1 ++ [k]) = wl ps1 ks1 ++ k := by
    have := weave_append h [] [k]
    rw [List.append_nil] at this
    exact this
  rw [weave_at h, e]
  rfl

theorem mem_wl_ps {ps : List Pair} {ks : List (List Pair)} {p : Pair} (h : p ∈ ps) : p ∈ wl ps ks := by
  induction ps generalizing ks with
  | nil => cases h
  | cons q ps ih =>
    cases ks with
    | nil =>
      simp only [wl, List.mem_cons]
      rcases List.mem_cons.1 h with h | h
      · exact .inl h
      · exact .inr (ih h)
    | cons k ks =>
      simp only [wl, List.mem_append, List.mem_cons]
      rcases List.mem_cons.1 h with h | h
      · exact .inr (.inl h)
      · exact .inr (.inr (ih h))
theorem mem_weave_ps {ps : List Pair} {ks : List (List Pair)} {p : Pair} (h : p ∈ ps) : p ∈ weave ps ks := by
  induction ps generalizing ks with
  | nil => cases h
  | cons q ps ih =>
    cases ks with
    | nil =>
      simp only [weave, List.mem_cons]
      rcases List.mem_cons.1 h with h | h
      · exact .inl h
      · exact .inr (ih h)
    | cons k ks =>
      simp only [weave, List.mem_append, List.mem_cons]
      rcases List.mem_cons.1 h with h | h
      · exact .inr (.inl h)
      · exact .inr (.inr (ih h))
theorem srt_ps {ps : List Pair} {ks : List (List Pair)} (h : Srt (weave ps ks)) : Srt ps := by
  induction ps generalizing ks with
  | nil => exact List.Pairwise.nil
  | cons q ps ih =>
    cases ks with
    | nil => rw [weave_nil] at h; exact h
    | cons k ks =>
      have h2 := (Srt.append.1 (show Srt (k ++ (q :: weave ps ks)) from h)).2.1
      have h3 := List.pairwise_cons.1 h2
      exact List.pairwise_cons.2 ⟨fun p hp => h3.1 p (mem_weave_ps hp), ih h3.2⟩
theorem blw_wl {ps : List Pair} {ks : List (List Pair)} {k : ByteArray} (hs : Srt (wl ps ks)) (h : Blw ps k) : Blw (wl ps ks) k := by
  induction ps generalizing ks with
  | nil => intro p hp; cases hp
  | cons q ps ih =>
    have hq := h q (by simp)
    cases ks with
    | nil =>
      intro p hp
      rcases List.mem_cons.1 hp with e | hp
      · rw [e]; exact hq
      · exact ih (List.pairwise_cons.1 hs).2 (fun p hp => h p (by simp [hp])) p hp
    | cons l ks =>
      have h1 := Srt.append.1 (show Srt (l ++ (q :: wl ps ks)) from hs)
      intro p hp
      rcases List.mem_append.1 hp with hp | hp
      · exact cmp_trans (h1.2.2 p hp q (by simp)) hq
      · rcases List.mem_cons.1 hp with e | hp
        · rw [e]; exact hq
        · exact ih (List.pairwise_cons.1 h1.2.1).2 (fun p hp => h p (by simp [hp])) p hp
theorem abv_wr {ps : List Pair} {ks : List (List Pair)} {k : ByteArray} (hs : Srt (wr ps ks)) (h : Abv ps k) : Abv (wr ps ks) k := by
  cases ps with
  | nil => intro p hp; cases hp
  | cons q ps =>
    have hq := h q (by simp)
    intro p hp
    rcases List.mem_cons.1 hp with e | hp
    · rw [e]; exact hq
    · exact cmp_trans hq ((List.pairwise_cons.1 hs).1 p hp)

/-! ### Trees -/
structure Nd (K : Type) where
  b : Nat
  pb : List Nat
  ps : List Pair
  kb : List Nat
  ks : List K
def KT : Nat → Type
  | 0 => Empty
  | h + 1 => Nd (KT h)
abbrev MT (h : Nat) : Type := Nd (KT h)
/-- the kids of a node that is no lowest one -/
def kids {h : Nat} (t : MT (h + 1)) : List (MT h) := t.ks
def mkT {h : Nat} (b : Nat) (pb : List Nat) (ps : List Pair) (kb : List Nat) (ks : List (MT h)) : MT (h + 1) := ⟨b, pb, ps, kb, ks⟩
def mk0 (b : Nat) (pb : List Nat) (ps : List Pair) (kb : List Nat) : MT 0 := ⟨b, pb, ps, kb, []⟩

def flat : (h : Nat) → MT h → List Pair
  | 0, t => t.ps
  | h + 1, t => weave t.ps ((kids t).map (flat h))
def foot : (h : Nat) → MT h → List Nat
  | 0, t => t.b :: (t.pb ++ t.kb)
  | h + 1, t => t.b :: (t.pb ++ t.kb ++ (kids t).flatMap (foot h))
/-- each node but the uppermost one has 'least' to 'most' pairs, and one kid more (or none) -/
def Shp (least most : Nat) : (h : Nat) → MT h → Prop
  | 0, _ => True
  | h + 1, t => (kids t).length = t.ps.length + 1 ∧ ∀ k ∈ kids t, least ≤ k.ps.length ∧ k.ps.length ≤ most ∧ Shp least most h k

theorem foot_b (h : Nat) (t : MT h) : t.b ∈ foot h t := by cases h <;> simp [foot]
theorem srt_node {h : Nat} {t : MT h} (hs : Srt (flat h t)) : Srt t.ps := by
  cases h with
  | zero => exact hs
  | succ h => exact srt_ps hs
end Go.Lst
