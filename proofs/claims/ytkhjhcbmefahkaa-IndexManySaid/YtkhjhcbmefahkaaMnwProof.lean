/- For every input IndexMany answers true, and each argument reads behind the call as it read before. No conditions. -/
import Derived.Test.YtkhjhcbmefahkaaRows
import Derived.Test.YtkhjhcbmefahkaaMnw
import Derived.ProofKit
namespace Go.Proofs.Ytkhjhcbmefahkaa
open Go.ChangeShapes Go.WideShapes Go.ChangeAt Go.RowKit

theorem Try.own : ownKnob Try.prog.godebug = none := by kernel_rfl
theorem Try.laidOut : laidOutB Try.prog = true := by kernel_rfl
theorem Try.cells3 : Try.prog.cellsOf 3 = 1 := by kernel_rfl
theorem Try.cells49 : Try.prog.cellsOf 49 = 2 := by kernel_rfl

theorem list2 {α : Type} (l : List α) (h : (⟨l⟩ : Array α).size = 2) : ∃ a b, l = [a, b] := by
  match l, h with
  | [a, b], _ => exact ⟨a, b, rfl⟩

theorem wf64 {n : Int} (hwf : (Lit.int .i64 n : Lit).wf = true) : -9223372036854775808 ≤ n ∧ n ≤ 9223372036854775807 := by
  have e0 : IntKind.i64.min = -9223372036854775808 := by decide
  have e1 : IntKind.i64.max = 9223372036854775807 := by decide
  simp only [Lit.wf, Bool.and_eq_true, decide_eq_true_eq, e0, e1] at hwf
  exact hwf

/-- two numbers side by side -/
theorem two_ints {H : Type} {enc : TypeId × Value → H} {W : World} {c0 c1 : Value} {fuel : Nat} {x : DataW H × List MemPlace} (h : DataW.trod enc Try.prog W 0 (fun _ => true) true fuel 49 [c0, c1] = some x) :
    ∃ s0 s1, c0 = .int .i64 s0 ∧ c1 = .int .i64 s1 ∧ (-9223372036854775808 ≤ s0 ∧ s0 ≤ 9223372036854775807) ∧ (-9223372036854775808 ≤ s1 ∧ s1 ≤ 9223372036854775807) := by
  cases fuel with
  | zero => simp [DataW.trod] at h
  | succ n =>
    unfold DataW.trod at h
    rw [Try.underlying49] at h
    have r2 : List.range 2 = [0, 1] := rfl
    simp [r2, Try.cells3] at h
    obtain ⟨_, h⟩ := h
    cases h0 : DataW.trod enc Try.prog W 0 (fun _ => true) true n 3 [c0] with
    | none => simp [h0] at h
    | some y0 =>
      cases h1 : DataW.trod enc Try.prog W 0 (fun _ => true) true n 3 [c1] with
      | none => simp [h0, h1] at h
      | some y1 =>
        obtain ⟨s0, e0, _, w0⟩ := DataW.trod_int Try.underlying3 h0
        obtain ⟨s1, e1, _, w1⟩ := DataW.trod_int Try.underlying3 h1
        simp at e0 e1
        exact ⟨s0, s1, e0, e1, wf64 w0, wf64 w1⟩

set_option maxRecDepth 100000 in
set_option maxHeartbeats 1000000 in
theorem many_lifted (os : Os) (started : os.Started) (H : Type) (enc : TypeId × Value → H) :
    ReturnsInHanded {} Try.checked os 5 .any (Rows.indexManySpec.pre6 enc Try.prog Try.f5 Rows.indexManyRow.domain false) (Rows.indexManySpec.post enc Try.prog Try.f5 false true false false) := by
  refine returnsInHanded_of_change (C := Try.checked) Try.own started (by kernel_rfl) Try.func5
    (ChangeSpec.witness6 (enc := enc) (C := Try.checked) false ⟨#[], #[.int .i64 0, .int .i64 0, .agg #[.int .i64 0, .int .i64 0]], []⟩ 8 (by kernel_rfl) (by kernel_rfl) (by kernel_rfl) (by kernel_rfl)) ?_
  intro W base args ds gs before hval0 hW hcnd _
  have hval : ∀ (j : Nat) t v, Try.f5.params[j]? = some t → args[j]? = some v → Value.okWide Try.prog W .any base t v := hval0
  have hW' := hW
  obtain ⟨p, q, hA0, hV, rfl, hfz, hnd⟩ := hW
  have hA : DataW.TrodAll enc Try.prog W 0 (fun _ => true) true Try.f5.params.toList args.toList ds p := hA0
  rw [Try.params5] at hA hval
  obtain ⟨v0, v1, v2, d0, d1, d2, p0, p1, p2, rfl, rfl, rfl, h0, h1, h2⟩ := trodAll_three hA
  obtain ⟨rfl, rfl⟩ := trodVars_none hV
  obtain ⟨order, rfl, rfl, rfl, hwf⟩ := open_int Try.underlying3 (hval 0 3 v0 rfl rfl) h0
  obtain ⟨keys, rfl, rfl, rfl, hwk⟩ := open_int Try.underlying3 (hval 1 3 v1 rfl rfl) h1
  obtain ⟨cs, rfl, hsz, _⟩ : ∃ cs, v2 = .agg cs ∧ cs.size = Try.prog.cellsOf 49 ∧ Row.okWide Try.prog W .any base 49 cs := by
    have := hval 2 49 v2 rfl rfl
    simpa [Value.okWide, Try.underlying49] using this
  rw [Try.cells49] at hsz
  obtain ⟨l⟩ := cs
  obtain ⟨c0, c1, rfl⟩ := list2 l hsz
  have h0k := h0
  have h1k := h1
  have h2k := h2
  obtain ⟨fuel2, hf2⟩ := h2
  obtain ⟨x0, x1, rfl, rfl, hx0, hx1⟩ := two_ints hf2
  clear hA0 hval0
  simp only [List.append_nil] at hW'
  have hlt : ∀ x ∈ [] ++ [] ++ p2, x.block < W.heap.size := fun x hx => by simpa using hW'.lt x hx
  have ho := wf64 hwf
  have hk := wf64 hwk
  refine (many_any W order keys x0 x1 ho.1 ho.2 hk.1 hk.2 hx0.1 hx0.2 hx1.1 hx1.2).mono fun e W' ⟨he, hw⟩ => ?_
  subst he
  have hb := hw.below
  refine ⟨_, rfl, _, _, _, [], [] ++ [] ++ p2, [], hW', trodAll_mk1 (shut_bool Try.underlying4 true), ?_, rfl, hb.frame _, fun h => by cases h⟩
  rw [List.append_assoc]
  exact trodAll_mk3 (Below.trod Try.laidOut (by kernel_rfl) (of_decide_eq_true (by kernel_rfl)) h0k hb (fun x hx => by cases hx)) (Below.trod Try.laidOut (by kernel_rfl) (of_decide_eq_true (by kernel_rfl)) h1k hb (fun x hx => by cases hx))
    (Below.trod Try.laidOut (by kernel_rfl) (of_decide_eq_true (by kernel_rfl)) h2k hb (fun x hx => hlt x (by simp [hx])))

theorem many_holds : Rows.IndexManySaid :=
  OpenClaim.holds_of_wide 5 Try.f5 rfl rfl rfl rfl rfl rfl rfl ⟨rfl, rfl, rfl, rfl, rfl⟩ rfl rfl rfl rfl rfl (by kernel_rfl) Try.func5 (by kernel_rfl)
    (of_decide_eq_true (by kernel_rfl)) (by unfold Func.isWrapper; first | (rw [if_pos (by decide +kernel)]; kernel_rfl) | (rw [if_neg (by decide +kernel)]; exact ⟨rfl, rfl⟩))
    (fun os started H enc _ => many_lifted os started H enc)

#print axioms many_holds

end Go.Proofs.Ytkhjhcbmefahkaa
