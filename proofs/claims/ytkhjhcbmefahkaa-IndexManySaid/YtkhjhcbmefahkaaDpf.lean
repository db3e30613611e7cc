/-
  Depth, its answer named ahead of the call.
-/
import Derived.Test.YtkhjhcbmefahkaaDee
namespace Go.Proofs.Ytkhjhcbmefahkaa
open Go.RowKit Go.Mm Go.Lst

set_option maxHeartbeats 1000000 in
theorem depth_at {w : World} {xb order h : Nat} {t : MT h} {o0 o1 : Value} (hx : Blk w xb [o0, o1, .pointer (some ⟨t.b, 0, none⟩), .int .i64 (flat h t).length] 64) (ha : TAt w h t) (hsh : Shp (order / 2) order h t) (h20 : h ≤ 20) :
    Calls Try.prog 21 #[.pointer (some ⟨xb, 0, none⟩)] w fun e w' => e = .returned (.int .i64 ((if flat h t = [] then 0 else h + 1 : Nat) : Int)) ∧ w' = w := by
  have r3 : w.cell? ⟨xb, 3, none⟩ = some (.int .i64 (flat h t).length) := hx.cell 3
  have r2 : w.cell? ⟨xb, 2, none⟩ = some (.pointer (some ⟨t.b, 0, none⟩)) := hx.cell 2
  by_cases he : flat h t = []
  · have hz : (((flat h t).length : Int) == 0) = true := by rw [he]; rfl
    rw [if_pos he, show ((0 : Nat) : Int) = 0 from rfl]
    generalize (flat h t).length = n at *
    clear he hx ha hsh r2
    go_enter Try.func21, Try.ntmps21
    go_wp2_with fail
    go_ret
    exact ⟨rfl, rfl⟩
  · have hz : (((flat h t).length : Int) == 0) = false := by
      have := List.length_pos_iff.2 he
      rw [beq_eq_false_iff_ne]; omega
    rw [if_neg he, show ((h + 1 : Nat) : Int) = (h : Int) + 1 by omega]
    have hsm : h + 1 ≤ 21 := by omega
    have hrel0 : Hid (DepRel (order / 2) order h w h (.int .i64 1) (.pointer (some ⟨t.b, 0, none⟩)) w) := ⟨t, by simp, Nat.le_refl _, rfl, ha, hsh, rfl⟩
    generalize (flat h t).length = n at *
    clear he hx ha hsh
    go_enter Try.func21, Try.ntmps21
    go_wp2_with fail
    go_loopg [3, 4] h (fun k n p wr => DepRel (order / 2) order h w k n p wr)
    case atStart => exact hrel0.out
    case round =>
      obtain ⟨t', rfl, hkh, rfl, ha, hsh, rfl⟩ := hrel
      cases gk with
      | zero =>
        obtain ⟨pv, kv, hb, hp, hk⟩ := (show NdAt _ _ _ _ _ _ from ha)
        obtain ⟨ka, kc, rfl, _⟩ := hk.val
        have Hb := Lib.hid hb
        clear hb hp hk ha hsh
        go_wp2_with (go_at_call 30; refine (leaf_any _ _ _ _ _ _ Hb.out).mono ?_; rintro e w3 ⟨rfl, rfl⟩)
        go_ret
        exact ⟨rfl, rfl⟩
      | succ k =>
        obtain ⟨pv, kv, hb, hp, hk⟩ := ha.1
        obtain ⟨r, kc, ksp, rfl, hkb, hr, hrl, hrc, hrn⟩ := hk.pos (by rw [List.length_map, hsh.1]; omega)
        have hpz : ((((kids t').map (·.b)).length : Int) == 0) = false := by rw [List.length_map, hsh.1]; simp; omega
        obtain ⟨kid, kr, hkid⟩ : ∃ kid kr, kids t' = kid :: kr := by
          cases e : kids t' with
          | nil => have := hsh.1; rw [e] at this; simp at this
          | cons a b => exact ⟨a, b, rfl⟩
        have d0 : wr.cell? ⟨r, 0, none⟩ = some (.pointer (some ⟨kid.b, 0, none⟩)) := (hr.cell 0).trans (encKs_get (by rw [hkid]; rfl) ksp)
        have hpos : (0 : Int) < (((kids t').map (·.b)).length : Int) := by rw [List.length_map, hsh.1]; omega
        have hmem : kid ∈ kids t' := by rw [hkid]; simp
        obtain ⟨c, hc⟩ : ∃ c : Nat, h - (k + 1) + 1 = c := ⟨_, rfl⟩
        have hc2 : c ≤ 21 := by omega
        have hrel : Hid (DepRel (order / 2) order h wr k (.int .i64 ((c : Int) + 1)) (.pointer (some ⟨kid.b, 0, none⟩)) wr) :=
          ⟨kid, by rw [show h - k + 1 = c + 1 by omega]; simp, by omega, rfl, ha.2 kid hmem, (hsh.2 kid hmem).2.2, rfl⟩
        rw [hc]
        have c1 : wr.cell? ⟨t'.b, 1, none⟩ = some (.slice (some ⟨r, 0, none⟩) ((kids t').map (·.b)).length kc) := hb.cell 1
        have Hb := Lib.hid hb
        generalize ((kids t').map (·.b)).length = pl at *
        clear hb hp hk ha hsh hkid hmem hr hrl hrc hkb hkh hc
        go_wp2_with (go_at_call 30; refine (leaf_any _ _ _ _ _ _ Hb.out).mono ?_; rintro e w3 ⟨rfl, rfl⟩)
        go_roundg k
        case measure => omega
        case rel => exact hrel.out

theorem depth_fix {w : World} {xb order : Nat} {L : List Pair} {F : List Nat} (hI : Ix w xb order L F) (hlen : L.length ≤ 1000000) :
    ∃ d : Nat, DepthOk order L d ∧ ∀ w', Tch (fun _ => False) w w' → Calls Try.prog 21 #[.pointer (some ⟨xb, 0, none⟩)] w' fun e w'' => e = .returned (.int .i64 d) ∧ w'' = w' := by
  obtain ⟨h, t, rfl, rfl, hx, ha, hnd, hxn, hsh, hps, h1, hs, h2, h64⟩ := hI
  have hd : DepthOk order (flat h t) (if flat h t = [] then 0 else h + 1) := by
    by_cases he : flat h t = []
    · rw [if_pos he]; exact .inl ⟨he, rfl⟩
    · rw [if_neg he]
      have hmr := many_root (order / 2) order h t hsh h1 he
      refine .inr ⟨he, by omega, by simpa using hmr, fun e => ?_⟩
      obtain rfl : h = 0 := by omega
      exact hps
  refine ⟨_, hd, fun w' ht => ?_⟩
  by_cases he : flat h t = []
  · have hh : h ≤ 20 := by
      apply Classical.byContradiction
      intro hn
      have h3 := h1 (by omega)
      have : t.ps ≠ [] := by intro e; rw [e] at h3; simp at h3
      obtain ⟨p, hp⟩ := List.exists_mem_of_ne_nil _ this
      have := mem_flat_ps (h := h) hp
      rw [he] at this; cases this
    exact depth_at (ht.get hx (fun h => h)) (TAt.tch ht _ _ ha (fun _ _ h => h)) hsh hh
  · have hsm := hd.small h2 hlen
    rw [if_neg he] at hsm
    exact depth_at (ht.get hx (fun h => h)) (TAt.tch ht _ _ ha (fun _ _ h => h)) hsh (by omega)

end Go.Proofs.Ytkhjhcbmefahkaa
