/-
  Trees, their nodes all alike (a lowest one has no kids), and what a loan between neighbours, or their union, leaves. No program in sight.
-/
import Derived.Test.YtkhjhcbmefahkaaTre
namespace Go.Lst
open Go

def kflat : (h : Nat) → KT h → List Pair
  | 0, e => nomatch e
  | h + 1, k => flat h k
def kfoot : (h : Nat) → KT h → List Nat
  | 0, e => nomatch e
  | h + 1, k => foot h k
def kptr : (h : Nat) → KT h → Nat
  | 0, e => nomatch e
  | _ + 1, k => k.b
def KShp (least most : Nat) : (h : Nat) → KT h → Prop
  | 0, e => nomatch e
  | h + 1, k => least ≤ k.ps.length ∧ k.ps.length ≤ most ∧ Shp least most h k

theorem ks_zero (t : MT 0) : t.ks = [] := by
  match hk : t.ks with
  | [] => rfl
  | e :: _ => exact nomatch e

theorem flat_eq (h : Nat) (t : MT h) : flat h t = weave t.ps (t.ks.map (kflat h)) := by
  cases h with
  | zero => rw [ks_zero, List.map_nil, weave_nil]; rfl
  | succ h => rfl
theorem foot_eq (h : Nat) (t : MT h) : foot h t = t.b :: (t.pb ++ t.kb ++ t.ks.flatMap (kfoot h)) := by
  cases h with
  | zero => rw [ks_zero]; simp [foot]
  | succ h => rfl
theorem Shp_eq (least most h : Nat) (t : MT h) : Shp least most h t ↔ (h ≠ 0 → t.ks.length = t.ps.length + 1) ∧ ∀ k ∈ t.ks, KShp least most h k := by
  cases h with
  | zero => rw [ks_zero]; simp [Shp]
  | succ h => exact ⟨fun h => ⟨fun _ => h.1, h.2⟩, fun h => ⟨h.1 (by omega), h.2⟩⟩

/-- the last pair of a woven row -/
theorem weave_snoc {ps : List Pair} {ks : List (List Pair)} (h : ks.length = ps.length) (x : Pair) (k : List Pair) : weave (ps ++ [x]) (ks ++ [k]) = weave ps ks ++ k ++ [x] := by
  have h1 := weave_append h [x] [k]
  have h2 := weave_append h [] []
  rw [List.append_nil, List.append_nil] at h2
  rw [h1, h2]
  simp [weave]
theorem weave_last {ps : List Pair} {ks : List (List Pair)} (h : ks.length = ps.length + 1) (x : Pair) (c : List Pair) : weave (ps ++ [x]) (ks ++ [c]) = weave ps ks ++ x :: c := by
  have hne : ks ≠ [] := by intro e; rw [e] at h; simp at h
  have e := weave_cut (ps1 := ps) (ks1 := ks.dropLast) (by rw [List.length_dropLast]; omega) x [] (ks.getLast hne) [c]
  rw [List.dropLast_concat_getLast] at e
  have e2 : ks.dropLast ++ [ks.getLast hne, c] = ks ++ [c] := by
    conv => rhs; rw [← List.dropLast_concat_getLast hne]
    simp
  rw [e2] at e
  exact e
theorem weave_cons (p : Pair) (ps : List Pair) (c : List Pair) (ks : List (List Pair)) : weave (p :: ps) (c :: ks) = c ++ p :: weave ps ks := rfl

section
variable {h : Nat}
/-- the left neighbour's last pair goes up, the one between comes down -/
theorem flat_loan_left {l r l' r' : MT h} {m x : Pair} (hl : l.ps = l'.ps ++ [x]) (hr : r'.ps = m :: r.ps)
    (hk : (l.ks = [] ∧ l'.ks = [] ∧ r.ks = [] ∧ r'.ks = []) ∨ ∃ c, l.ks = l'.ks ++ [c] ∧ r'.ks = c :: r.ks ∧ l.ks.length = l.ps.length + 1) : flat h l ++ m :: flat h r = flat h l' ++ x :: flat h r' := by
  simp only [flat_eq, hl, hr]
  rcases hk with ⟨h1, h2, h3, h4⟩ | ⟨c, h1, h2, h3⟩
  · simp [h1, h2, h3, h4, weave_nil]
  · rw [h1, h2, List.map_append, List.map_singleton, List.map_cons, weave_last, weave_cons]
    · simp
    · rw [List.length_map]
      have := congrArg List.length h1
      rw [h3, hl] at this
      simp at this; omega
/-- the right neighbour's first one -/
theorem flat_loan_right {l r l' r' : MT h} {m x : Pair} (hl : l'.ps = l.ps ++ [m]) (hr : r.ps = x :: r'.ps)
    (hk : (l.ks = [] ∧ l'.ks = [] ∧ r.ks = [] ∧ r'.ks = []) ∨ ∃ c, l'.ks = l.ks ++ [c] ∧ r.ks = c :: r'.ks ∧ l.ks.length = l.ps.length + 1) : flat h l ++ m :: flat h r = flat h l' ++ x :: flat h r' := by
  simp only [flat_eq, hl, hr]
  rcases hk with ⟨h1, h2, h3, h4⟩ | ⟨c, h1, h2, h3⟩
  · simp [h1, h2, h3, h4, weave_nil]
  · rw [h1, h2, List.map_append, List.map_singleton, List.map_cons, weave_last, weave_cons]
    · simp
    · rw [List.length_map, h3]
/-- both are one -/
theorem flat_union {l r l' : MT h} {m : Pair} (hl : l'.ps = l.ps ++ m :: r.ps) (hk : l'.ks = l.ks ++ r.ks) (hz : (l.ks = [] ∧ r.ks = []) ∨ l.ks.length = l.ps.length + 1) : flat h l ++ m :: flat h r = flat h l' := by
  simp only [flat_eq, hl, hk]
  rcases hz with ⟨h1, h2⟩ | h1
  · simp [h1, h2, weave_nil]
  · have hne : l.ks ≠ [] := by intro e; rw [e] at h1; simp at h1
    have e := weave_cut (ps1 := l.ps) (ks1 := (l.ks.dropLast).map (kflat h)) (by rw [List.length_map, List.length_dropLast]; omega) m r.ps (kflat h (l.ks.getLast hne)) (r.ks.map (kflat h))
    have e2 : (l.ks.dropLast).map (kflat h) ++ [kflat h (l.ks.getLast hne)] = l.ks.map (kflat h) := by
      rw [← List.map_singleton, ← List.map_append, List.dropLast_concat_getLast]
    rw [e2] at e
    rw [← e, List.map_append, ← e2]
    simp
end

/-- blocks that are laid anew beside others that stay -/
theorem nodup_beside {own own' rest : List Nat} {N : Nat} (h : (own ++ rest).Nodup) (hlt : ∀ y ∈ own ++ rest, y < N) (hn : own'.Nodup) (hs : ∀ y ∈ own', y ∈ own ∨ N ≤ y) : (own' ++ rest).Nodup := by
  simp only [List.nodup_append, List.mem_append] at *
  grind
end Go.Lst
