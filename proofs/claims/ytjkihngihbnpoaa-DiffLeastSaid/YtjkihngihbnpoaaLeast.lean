/-
  For any lines and any hunks DiffLeast returns true and changes neither; no condition.
-/
import Derived.Test.YtjkihngihbnpoaaRows
import Derived.Test.YtjkihngihbnpoaaB
import Derived.Test.YtjkihngihbnpoaaD
import Derived.WalkKit
import Derived.ProofKit
import Derived.OpenShut
import Derived.ShutString
import Derived.ChangeOld
import Derived.Below
import Derived.SizedLaws
set_option linter.unusedSimpArgs false
set_option linter.unusedVariables false
namespace Go.Proofs.Ytjkihngihbnpoaa
open Go.ChangeShapes Go.WideShapes Go.ChangeAt Go.RowKit Go.Ev
theorem own : ownKnob Try.prog.godebug = none := by kernel_rfl
theorem laidOut : laidOutB Try.prog = true := by kernel_rfl

namespace diffLeast
set_option maxRecDepth 100000 in
theorem lifted (os : Os) (started : os.Started) (H : Type) (enc : TypeId × Value → H) :
    ReturnsInHanded {} Try.checked os 4 .any (Rows.diffLeastSpec.pre6 enc Try.prog Try.f4 Rows.diffLeastRow.domain false) (Rows.diffLeastSpec.post enc Try.prog Try.f4 false true false false) := by
  refine returnsInHanded_of_change_sized (C := Try.checked) own started (by kernel_rfl) Try.func4
    (ChangeSpec.witness6 (enc := enc) (C := Try.checked) false ⟨#[], #[.slice none 0 0, .slice none 0 0], []⟩ 8 (by kernel_rfl) (by kernel_rfl) (by kernel_rfl) (by kernel_rfl)) ?_
  intro W base args ds gs before hval0 hW hcnd hsz0 _
  have hval : ∀ (j : Nat) t v, Try.f4.params[j]? = some t → args[j]? = some v → Value.okWide Try.prog W .any base t v := hval0
  have hW' := hW
  obtain ⟨p, q, hA0, hV, rfl, hfz, hnd⟩ := hW
  have hA : DataW.TrodAll enc Try.prog W 0 (fun _ => true) true Try.f4.params.toList args.toList ds p := hA0
  rw [Try.params4] at hA hval
  obtain ⟨v0, vs0, d0, ds0, p0, q0, hargs, rfl, rfl, h0, r0⟩ := trodAll_cons hA
  obtain ⟨v1, vs1, d1, ds1, p1, q1, rfl, rfl, rfl, h1, r1⟩ := trodAll_cons r0
  obtain ⟨rfl, rfl, rfl⟩ := trodAll_nil r1
  obtain rfl : args = #[v0, v1] := by cases args; simp_all
  obtain ⟨rfl, rfl⟩ := trodVars_none hV
  have hok0 : okTy Try.prog (.slice .str) 22 = true := (tab.ctxOK tab_ok {}).ty 22 (by decide)
  obtain ⟨x0, e0, f0⟩ := trod_val (τ := (.slice .str)) rfl hok0 (hval 0 22 v0 rfl rfl) h0
  have hok1 : okTy Try.prog (.slice (.agg (.cons (.int .i64) (.cons (.slice .str) (.cons (.slice .str) .unit))))) 25 = true := (tab.ctxOK tab_ok {}).ty 25 (by decide)
  obtain ⟨x1, e1, f1⟩ := trod_val (τ := (.slice (.agg (.cons (.int .i64) (.cons (.slice .str) (.cons (.slice .str) .unit)))))) rfl hok1 (hval 1 25 v1 rfl rfl) h1
  have lt0 : ∀ x ∈ p0, x.block < W.heap.size := by obtain ⟨m, hm⟩ := h0; exact DataW.trod_lt m _ _ _ hm
  have lt1 : ∀ x ∈ p1, x.block < W.heap.size := by obtain ⟨m, hm⟩ := h1; exact DataW.trod_lt m _ _ _ hm
  clear hA0 hval0 hsz0
  obtain ⟨N, hN⟩ := Pl.law4 x0 x1 f0 f1
  refine ((pure4 N).calls (x0, x1, ()) _ hN (allOf W) W [v0, v1] (fun _ _ h => h) ⟨v0, _, rfl, e0, v1, _, rfl, e1, rfl⟩).mono ?_
  rintro e W' ⟨vals, com', rfl, bel, _, _, v, vs', rfl, hv, hvs⟩
  have hvs : vs' = [] := hvs
  subst hvs
  have hv : v = .bool true := val_bool hv
  subst hv
  exact ⟨_, rfl, _, _, _, [], _, [], hW', trodAll_mk1 (shut_bool Try.underlying4 _), (trodAll_cons_mk (Below.trod laidOut (by kernel_rfl) (of_decide_eq_true (by kernel_rfl)) h0 bel lt0) (trodAll_cons_mk (Below.trod laidOut (by kernel_rfl) (of_decide_eq_true (by kernel_rfl)) h1 bel lt1) trodAll_mk0)), rfl, bel.frame _, fun h => by cases h⟩
end diffLeast

theorem diffLeast_holds : Rows.DiffLeastSaid :=
  OpenClaim.holds_of_wide 4 Try.f4 rfl rfl rfl rfl rfl rfl rfl ⟨rfl, rfl, rfl, rfl, rfl⟩ rfl rfl rfl rfl rfl (by kernel_rfl) Try.func4 (by kernel_rfl)
    (of_decide_eq_true (by kernel_rfl)) (by unfold Func.isWrapper; first | (rw [if_pos (by decide +kernel)]; kernel_rfl) | (rw [if_neg (by decide +kernel)]; exact ⟨rfl, rfl⟩))
    (fun os started H enc _ => diffLeast.lifted os started H enc)
end Go.Proofs.Ytjkihngihbnpoaa
