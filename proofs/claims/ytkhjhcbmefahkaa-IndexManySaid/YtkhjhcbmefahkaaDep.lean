/-
  Depth, and how many keys a tree of a height has at least.
-/
import Derived.Test.YtkhjhcbmefahkaaIdx
namespace Go.Proofs.Ytkhjhcbmefahkaa
open Go.RowKit Go.Mm Go.Lst

theorem weave_length : ∀ (ps : List Pair) (ks : List (List Pair)), ks.length ≤ ps.length + 1 → (weave ps ks).length = ps.length + (ks.map List.length).sum
  | [], [], _ => rfl
  | [], [k], _ => by simp [weave]
  | [], _ :: _ :: _, h => by simp at h
  | p :: ps, [], h => by simp [weave, weave_nil]
  | p :: ps, k :: ks, h => by
    simp only [List.length_cons] at h
    simp [weave, weave_length ps ks (by omega)]
    omega

theorem sum_ge (m : Nat) : ∀ (l : List (List Pair)), (∀ x ∈ l, m ≤ x.length + 1) → l.length * m ≤ (l.map List.length).sum + l.length
  | [], _ => by simp
  | x :: l, h => by
    have h1 := h x (by simp)
    have h2 := sum_ge m l (fun y hy => h y (by simp [hy]))
    simp only [List.length_cons, List.map_cons, List.sum_cons, Nat.succ_mul]
    omega

/-- a node that is no root -/
theorem many_low (least most : Nat) : ∀ (h : Nat) (t : MT h), Shp least most h t → least ≤ t.ps.length → (least + 1) ^ (h + 1) ≤ (flat h t).length + 1
  | 0, t, _, hl => by simp [flat]; omega
  | h + 1, t, hs, hl => by
    have hw : (flat (h + 1) t).length = t.ps.length + (((kids t).map (flat h)).map List.length).sum := weave_length _ _ (by rw [List.length_map, hs.1]; omega)
    have hsum := sum_ge ((least + 1) ^ (h + 1)) ((kids t).map (flat h)) (by
      intro x hx
      obtain ⟨k, hk, rfl⟩ := List.mem_map.1 hx
      exact many_low least most h k (hs.2 k hk).2.2 (hs.2 k hk).1)
    rw [List.length_map, hs.1] at hsum
    rw [hw, Nat.pow_succ]
    have : (least + 1) ^ (h + 1) * (least + 1) ≤ (t.ps.length + 1) * (least + 1) ^ (h + 1) := by
      rw [Nat.mul_comm]; exact Nat.mul_le_mul_right _ (by omega)
    omega
theorem many_root (least most : Nat) (h : Nat) (t : MT h) (hs : Shp least most h t) (h1 : h ≠ 0 → 1 ≤ t.ps.length) (hne : flat h t ≠ []) : 2 * (least + 1) ^ h ≤ (flat h t).length + 1 := by
  cases h with
  | zero =>
    have := List.length_pos_iff.2 hne
    simp; omega
  | succ h =>
    have h1 := h1 (by omega)
    have hw : (flat (h + 1) t).length = t.ps.length + (((kids t).map (flat h)).map List.length).sum := weave_length _ _ (by rw [List.length_map, hs.1]; omega)
    have hsum := sum_ge ((least + 1) ^ (h + 1)) ((kids t).map (flat h)) (by
      intro x hx
      obtain ⟨k, hk, rfl⟩ := List.mem_map.1 hx
      exact many_low least most h k (hs.2 k hk).2.2 (hs.2 k hk).1)
    rw [List.length_map, hs.1] at hsum
    rw [hw]
    have : 2 * (least + 1) ^ (h + 1) ≤ (t.ps.length + 1) * (least + 1) ^ (h + 1) := Nat.mul_le_mul_right _ (by omega)
    omega

/-- what a depth tells of the keys -/
def DepthOk (order : Nat) (L : List Pair) (d : Nat) : Prop :=
  (L = [] ∧ d = 0) ∨ (L ≠ [] ∧ 1 ≤ d ∧ 2 * (order / 2 + 1) ^ (d - 1) ≤ L.length + 1 ∧ (d = 1 → L.length ≤ order))

theorem DepthOk.small {order : Nat} (h2 : 2 ≤ order) {L : List Pair} {d : Nat} (h : DepthOk order L d) (hl : L.length ≤ 1000000) : d ≤ 20 := by
  rcases h with ⟨_, rfl⟩ | ⟨_, h1, h3, _⟩
  · omega
  · apply Classical.byContradiction
    intro hd
    have h4 : 2 ^ 20 ≤ (order / 2 + 1) ^ (d - 1) := Nat.le_trans (Nat.pow_le_pow_right (by omega) (by omega)) (Nat.pow_le_pow_left (by omega) _)
    have : (2 : Nat) ^ 20 = 1048576 := by decide
    omega

def DepRel (least most h : Nat) (w : World) (k : Nat) (n p : Value) (wr : World) : Prop :=
  ∃ t : MT k, n = .int .i64 ((h - k + 1 : Nat) : Int) ∧ k ≤ h ∧ p = .pointer (some ⟨t.b, 0, none⟩) ∧ TAt w k t ∧ Shp least most k t ∧ wr = w

def DepthPost (order : Nat) (L : List Pair) (w : World) (e : Ending) (w' : World) : Prop := ∃ d : Nat, e = .returned (.int .i64 d) ∧ DepthOk order L d ∧ w' = w

set_option maxHeartbeats 1000000 in
theorem depth_any {w : World} {xb order : Nat} {L : List Pair} {F : List Nat} (hI : Ix w xb order L F) (hlen : L.length ≤ 1000000) :
    Calls Try.prog 21 #[.pointer (some ⟨xb, 0, none⟩)] w (DepthPost order L w) := by
  obtain ⟨h, t, rfl, rfl, hx, ha, hnd, hxn, hsh, hps, h1, hs, h2, h64⟩ := hI
  have r3 : w.cell? ⟨xb, 3, none⟩ = some (.int .i64 (flat h t).length) := hx.cell 3
  have r2 : w.cell? ⟨xb, 2, none⟩ = some (.pointer (some ⟨t.b, 0, none⟩)) := hx.cell 2
  by_cases he : flat h t = []
  · have hz : (((flat h t).length : Int) == 0) = true := by rw [he]; rfl
    have hfin : Hid (DepthPost order (flat h t) w (.returned (.int .i64 0)) w) := ⟨0, rfl, .inl ⟨he, rfl⟩, rfl⟩
    generalize (flat h t).length = n at *
    clear he hx ha hnd hxn hsh hps h1 hs r2
    go_enter Try.func21, Try.ntmps21
    go_wp2_with fail
    go_ret
    exact hfin.out
  · have hz : (((flat h t).length : Int) == 0) = false := by
      have := List.length_pos_iff.2 he
      simp; omega
    have hmr := many_root (order / 2) order h t hsh h1 he
    have hd : DepthOk order (flat h t) (h + 1) := by
      refine .inr ⟨he, by omega, by simpa using hmr, fun e => ?_⟩
      obtain rfl : h = 0 := by omega
      exact hps
    have hsm := hd.small h2 hlen
    have hfin : Hid (DepthPost order (flat h t) w (.returned (.int .i64 ((h : Int) + 1))) w) := ⟨h + 1, by simp, hd, rfl⟩
    have hrel0 : Hid (DepRel (order / 2) order h w h (.int .i64 1) (.pointer (some ⟨t.b, 0, none⟩)) w) := ⟨t, by simp, Nat.le_refl _, rfl, ha, hsh, rfl⟩
    generalize (flat h t).length = n at *
    clear he hx ha hnd hxn hsh hps h1 hs hmr hd
    go_enter Try.func21, Try.ntmps21
    go_wp2_with fail
    go_loopg [3, 4] h (fun k n p wr => DepRel (order / 2) order h w k n p wr)
    case atStart => exact hrel0.out
    case round =>
      obtain ⟨t', rfl, hkh, rfl, ha, hsh, rfl⟩ := hrel
      cases gk with
      | zero =>
        obtain ⟨pv, kv, hb, hp, hk⟩ := (show NdAt _ _ _ _ _ _ from ha)
        obtain ⟨ka, kc, rfl, _⟩ := hk.val
        have Hb := Lib.hid hb
        clear hb hp hk ha hsh
        go_wp2_with (go_at_call 30; refine (leaf_any _ _ _ _ _ _ Hb.out).mono ?_; rintro e w3 ⟨rfl, rfl⟩)
        go_ret
        exact hfin.out
      | succ k =>
        obtain ⟨pv, kv, hb, hp, hk⟩ := ha.1
        obtain ⟨r, kc, ksp, rfl, hkb, hr, hrl, hrc, hrn⟩ := hk.pos (by rw [List.length_map, hsh.1]; omega)
        have hpz : ((((kids t').map (·.b)).length : Int) == 0) = false := by rw [List.length_map, hsh.1]; simp; omega
        obtain ⟨kid, kr, hkid⟩ : ∃ kid kr, kids t' = kid :: kr := by
          cases e : kids t' with
          | nil => have := hsh.1; rw [e] at this; simp at this
          | cons a b => exact ⟨a, b, rfl⟩
        have d0 : wr.cell? ⟨r, 0, none⟩ = some (.pointer (some ⟨kid.b, 0, none⟩)) := (hr.cell 0).trans (encKs_get (by rw [hkid]; rfl) ksp)
        have hpos : (0 : Int) < (((kids t').map (·.b)).length : Int) := by rw [List.length_map, hsh.1]; omega
        have hmem : kid ∈ kids t' := by rw [hkid]; simp
        obtain ⟨c, hc⟩ : ∃ c : Nat, h - (k + 1) + 1 = c := ⟨_, rfl⟩
        have hc2 : c ≤ 21 := by omega
        have hrel : Hid (DepRel (order / 2) order h wr k (.int .i64 ((c : Int) + 1)) (.pointer (some ⟨kid.b, 0, none⟩)) wr) :=
          ⟨kid, by rw [show h - k + 1 = c + 1 by omega]; simp, by omega, rfl, ha.2 kid hmem, (hsh.2 kid hmem).2.2, rfl⟩
        rw [hc]
        have c1 : wr.cell? ⟨t'.b, 1, none⟩ = some (.slice (some ⟨r, 0, none⟩) ((kids t').map (·.b)).length kc) := hb.cell 1
        have Hb := Lib.hid hb
        generalize ((kids t').map (·.b)).length = pl at *
        clear hb hp hk ha hsh hkid hmem hr hrl hrc hkb hkh hc
        go_wp2_with (go_at_call 30; refine (leaf_any _ _ _ _ _ _ Hb.out).mono ?_; rintro e w3 ⟨rfl, rfl⟩)
        go_roundg k
        case measure => omega
        case rel => exact hrel.out

end Go.Proofs.Ytkhjhcbmefahkaa
