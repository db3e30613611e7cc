/-
  A slice of calls that came in, opened.
-/
import Derived.Test.YtkhjhcbmefahkaaOps
import Derived.Deep.Slices
import Derived.Deep.Fields
import Derived.ChangeSame
namespace Go.Proofs.Ytkhjhcbmefahkaa
open Go.ChangeShapes Go.WideShapes Go.RowKit Go.Mm

theorem cells43 : Try.prog.cellsOf 43 = 4 := by kernel_rfl
theorem wf64 {n : Int} (h : (Lit.int .i64 n).wf = true) : -9223372036854775808 ≤ n ∧ n ≤ 9223372036854775807 := by
  have e0 : IntKind.i64.min = -9223372036854775808 := by decide
  have e1 : IntKind.i64.max = 9223372036854775807 := by decide
  simp only [Lit.wf, Bool.and_eq_true, decide_eq_true_eq, e0, e1] at h
  exact h
theorem spot_none {w : World} {a : Addr} {v : Value} (h : w.cell? a = some v) : a = ⟨a.block, a.off, none⟩ := by
  unfold World.cell? at h
  split at h
  · split at h
    · cases h
    · rename_i hs
      cases a with
      | mk b o s => cases s with
        | none => rfl
        | some x => simp at hs
  · cases h

theorem ops_of {H : Type} {enc : TypeId × Value → H} {W : World} {a0 : Option Addr} {len cap fuel : Nat} {x : DataW H × List MemPlace} (hf : DataW.trod enc Try.prog W 0 (fun _ => true) true fuel 38 [.slice a0 len cap] = some x) : Ops W a0 len := by
  rcases Go.Deep.open_slice Try.underlying38 hf with ⟨hcs, _⟩ | ⟨a, len', cap', m, n, D, Pl, hcs, _, hl, _, hm, _, hi⟩
  · simp at hcs
    obtain ⟨rfl, rfl, rfl⟩ := hcs
    intro i hi; omega
  · simp at hcs
    obtain ⟨rfl, rfl, rfl⟩ := hcs
    intro i hil
    obtain ⟨cs, hc, ht⟩ := hi i (by simp at hm; omega)
    rw [cells43] at hc
    obtain ⟨_, hcl, hat⟩ := World.cells?_some hc
    obtain ⟨ys, n', _, _, _, hyl, hfd⟩ := DataW.trod_struct Try.underlying43 ht
    have hyl : ys.length = 4 := hyl
    match cs, hcl with
    | [v0, v1, v2, v3], _ =>
      have k3 : Try.prog.cellsOf 3 = 1 := by kernel_rfl
      have k9 : Try.prog.cellsOf 9 = 1 := by kernel_rfl
      have f0 : DataW.trod enc Try.prog W 0 (fun _ => true) true n' 3 (([v0, v1, v2, v3].drop 0).take (Try.prog.cellsOf 3)) = ys[0]? := hfd 0 _ rfl
      rw [k3] at f0
      have f1 : DataW.trod enc Try.prog W 0 (fun _ => true) true n' 3 (([v0, v1, v2, v3].drop 1).take (Try.prog.cellsOf 3)) = ys[1]? := hfd 1 _ rfl
      rw [k3] at f1
      have f2 : DataW.trod enc Try.prog W 0 (fun _ => true) true n' 9 (([v0, v1, v2, v3].drop 2).take (Try.prog.cellsOf 9)) = ys[2]? := hfd 2 _ rfl
      rw [k9] at f2
      have f3 : DataW.trod enc Try.prog W 0 (fun _ => true) true n' 9 (([v0, v1, v2, v3].drop 3).take (Try.prog.cellsOf 9)) = ys[3]? := hfd 3 _ rfl
      rw [k9] at f3
      have hc0 : W.cell? (a.add (i * 4)) = some v0 := by have := hat 0 (by omega); simpa [Addr.add] using this
      have hcell : ∀ j, j < 4 → W.cell? ((a.add (i * 4)).add j) = [v0, v1, v2, v3][j]? := fun j hj => hat j hj
      have hsp := spot_none hc0
      have hae : a = ⟨a.block, a.off, none⟩ := by
        unfold Addr.add at hsp
        split at hsp
        · exact hsp
        · have h00 : 0 < len := by omega
          obtain ⟨cs0, hcc, _⟩ := hi 0 (by simp at hm; omega)
          rw [cells43] at hcc
          obtain ⟨_, hcl0, hat0⟩ := World.cells?_some hcc
          match cs0, hcl0 with
          | [u0, u1, u2, u3], _ =>
            have := hat0 0 (by omega)
            simp [Addr.add] at this
            exact spot_none this
      generalize a.block = b at hae
      generalize a.off = o at hae
      subst hae
      simp only [add_lit] at hcell
      have g0 := hcell 0 (by omega)
      have g1 := hcell 1 (by omega)
      have g2 := hcell 2 (by omega)
      have g3 := hcell 3 (by omega)
      simp only [Nat.add_zero, List.getElem?_cons_zero, List.getElem?_cons_succ] at g0 g1 g2 g3
      obtain ⟨y0, hy0⟩ : ∃ y, ys[0]? = some y := ⟨ys[0]'(by omega), by simp⟩
      obtain ⟨y1, hy1⟩ : ∃ y, ys[1]? = some y := ⟨ys[1]'(by omega), by simp⟩
      obtain ⟨y2, hy2⟩ : ∃ y, ys[2]? = some y := ⟨ys[2]'(by omega), by simp⟩
      obtain ⟨y3, hy3⟩ : ∃ y, ys[3]? = some y := ⟨ys[3]'(by omega), by simp⟩
      obtain ⟨k, e0, _, w0⟩ := DataW.trod_int Try.underlying3 (f0.trans hy0)
      obtain ⟨m', e1, _, w1⟩ := DataW.trod_int Try.underlying3 (f1.trans hy1)
      obtain ⟨s, e2, _, _⟩ := DataW.trod_string Try.underlying9 (f2.trans hy2)
      obtain ⟨t, e3, _, _⟩ := DataW.trod_string Try.underlying9 (f3.trans hy3)
      obtain rfl : v0 = .int .i64 k := by simpa using e0
      obtain rfl : v1 = .int .i64 m' := by simpa using e1
      obtain rfl : v2 = .string s := by simpa using e2
      obtain rfl : v3 = .string t := by simpa using e3
      exact ⟨b, o, k, m', s, t, rfl, (wf64 w0).1, (wf64 w0).2, (wf64 w1).1, (wf64 w1).2, g0, g1, g2, g3⟩
end Go.Proofs.Ytkhjhcbmefahkaa
