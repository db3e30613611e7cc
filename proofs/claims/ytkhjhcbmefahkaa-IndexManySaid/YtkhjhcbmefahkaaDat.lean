/-
  Trees in memory, their nodes all alike; the nodes of a row of trees laid beside one another.
-/
import Derived.Test.YtkhjhcbmefahkaaNds
import Derived.Test.YtkhjhcbmefahkaaDtr
namespace Go.Proofs.Ytkhjhcbmefahkaa
open Go.RowKit Go.Mm Go.Lst

def KAt (w : World) : (h : Nat) → KT h → Prop
  | 0, e => nomatch e
  | h + 1, k => TAt w h k

theorem TAt_eq (w : World) (h : Nat) (t : MT h) : TAt w h t ↔ NdAt w t.b t.pb t.ps t.kb (t.ks.map (kptr h)) ∧ ∀ k ∈ t.ks, KAt w h k := by
  cases h with
  | zero =>
    rw [ks_zero]
    exact ⟨fun h => ⟨h, fun k hk => by cases hk⟩, fun h => h.1⟩
  | succ h => exact Iff.rfl

theorem KAt.tch {w w' : World} {S : Nat → Prop} (ht : Tch S w w') : ∀ (h : Nat) (k : KT h), KAt w h k → (∀ y ∈ kfoot h k, ¬ S y) → KAt w' h k
  | 0, e, _, _ => nomatch e
  | h + 1, k, ha, hs => TAt.tch ht h k ha hs

/-- a tree's uppermost node as a record -/
def NR.of {h : Nat} (t : MT h) (pv kv : Value) : NR := ⟨t.b, pv, kv, t.pb, t.kb, t.ps, t.ks.map (kptr h)⟩
theorem NR.of_at {w : World} {h : Nat} {t : MT h} (ha : TAt w h t) : ∃ pv kv, (NR.of t pv kv).At w := by
  obtain ⟨pv, kv, h1, h2, h3⟩ := ((TAt_eq w h t).1 ha).1
  exact ⟨pv, kv, h1, h2, h3⟩
/-- back: the record and the kids make a tree -/
theorem at_of {w : World} {h : Nat} {n : NR} {ks : List (KT h)} (hn : n.At w) (hk : n.ptrs = ks.map (kptr h)) (ha : ∀ k ∈ ks, KAt w h k) : TAt w h (⟨n.b, n.pb, n.ps, n.kb, ks⟩ : MT h) := by
  rw [TAt_eq]
  exact ⟨⟨n.pv, n.kv, hn.1, hn.2.1, hk ▸ hn.2.2⟩, ha⟩
theorem foot_of {h : Nat} {n : NR} {ks : List (KT h)} : foot h (⟨n.b, n.pb, n.ps, n.kb, ks⟩ : MT h) = n.bs ++ ks.flatMap (kfoot h) := by
  rw [foot_eq]; simp [NR.bs]
theorem foot_NR {h : Nat} (t : MT h) (pv kv : Value) : foot h t = (NR.of t pv kv).bs ++ t.ks.flatMap (kfoot h) := by
  rw [foot_eq]; simp [NR.bs, NR.of]

/-- a node with its kids, two of them side by side: what lies beside the three -/
def beside {h : Nat} (K1 : List (MT h)) (L R : List (KT h)) (K2 : List (MT h)) : List Nat := K1.flatMap (foot h) ++ (L.flatMap (kfoot h) ++ R.flatMap (kfoot h)) ++ K2.flatMap (foot h)

theorem foot_three {h : Nat} (b : Nat) (pb kb : List Nat) (ps : List Pair) (K1 K2 : List (MT h)) (l r : MT h) (pv kv lpv lkv rpv rkv : Value) :
    (foot (h + 1) (mkT b pb ps kb (K1 ++ l :: r :: K2))).Perm (([NR.of (mkT b pb ps kb (K1 ++ l :: r :: K2)) pv kv, NR.of l lpv lkv, NR.of r rpv rkv].flatMap NR.bs) ++ beside K1 l.ks r.ks K2) := by
  refine List.perm_iff_count.2 (fun a => ?_)
  simp only [foot, mkT, kids, beside, NR.of, NR.bs, List.flatMap_cons, List.flatMap_nil, List.flatMap_append, List.count_append, List.count_cons, foot_eq h l, foot_eq h r, List.append_nil]
  omega
end Go.Proofs.Ytkhjhcbmefahkaa
