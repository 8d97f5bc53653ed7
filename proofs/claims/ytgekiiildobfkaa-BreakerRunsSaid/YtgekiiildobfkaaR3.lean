/- BreakerRuns returns true for all settings and slices of acts, and changes nothing; no condition. -/
import Derived.Test.YtgekiiildobfkaaF2
import Derived.Test.YtgekiiildobfkaaB5
import Derived.Test.YtgekiiildobfkaaRows
set_option linter.unusedVariables false
namespace Go.Proofs.Ytgekiiildobfkaa.BreakerRuns
open Go.ChangeShapes Go.WideShapes Go.ChangeAt Go.RowKit Go.Proofs.E

theorem own : ownKnob Try.prog.godebug = none := by kernel_rfl
theorem stays : Stays Try.prog Try.f4.params.toList := ⟨by kernel_rfl, by kernel_rfl⟩

set_option maxRecDepth 100000 in
theorem lifted (os : Os) (started : os.Started) (H : Type) (enc : TypeId × Value → H) :
    ReturnsInHanded {} Try.checked os 4 .any (Rows.breakerRunsSpec.pre6 enc Try.prog Try.f4 Rows.breakerRunsRow.domain false) (Rows.breakerRunsSpec.post enc Try.prog Try.f4 false true false false) := by
  refine returnsInHanded_of_change (C := Try.checked) own started (by kernel_rfl) Try.func4
    (ChangeSpec.witness6 (enc := enc) (C := Try.checked) false ⟨#[], #[.agg #[.int .i64 0, .int .i64 0, .int .i64 0], .slice none 0 0], []⟩ 8 (by kernel_rfl) (by kernel_rfl) (by kernel_rfl) (by kernel_rfl)) ?_
  intro W base args ds gs before hval0 hW hcnd _
  have hval : ∀ (j : Nat) t v, Try.f4.params[j]? = some t → args[j]? = some v → Value.okWide Try.prog W .any base t v := hval0
  have hW' := hW
  obtain ⟨p, q, hA0, hV, rfl, hfz, hnd⟩ := hW
  have hA : DataW.TrodAll enc Try.prog W 0 (fun _ => true) true Try.f4.params.toList args.toList ds p := hA0
  rw [Try.params4] at hA hval
  obtain ⟨v0, vs0, d0, ds0, p0, q0, hargs, rfl, rfl, h0, r0⟩ := trodAll_cons hA
  obtain ⟨v1, vs1, d1, ds1, p1, q1, rfl, rfl, rfl, h1, r1⟩ := trodAll_cons r0
  obtain ⟨rfl, rfl, rfl⟩ := trodAll_nil r1
  obtain rfl : args = #[v0, v1] := by cases args; simp_all
  obtain ⟨s, rfl, hg_s⟩ := open_agg Try.underlying33 elBSet (hval 0 33 v0 rfl rfl) h0
  obtain ⟨l, hr_l, hg_l⟩ := open_rd (E := actE) Try.underlying34 (by kernel_rfl) elAct (okWide_slice Try.underlying34 (hval 1 34 v1 rfl rfl)) h1
  refine (runs15_law v1 s l W hr_l).mono fun e W' ⟨he, hf⟩ => ⟨_, he, ?_⟩
  exact law_post stays rfl Try.underlying4 rfl ⟨rfl, rfl, rfl⟩ hW' hf

theorem over : Rows.breakerRunsRow.holds Try.pinned (OpenSpec.ofChange Rows.breakerRunsSpec) :=
  OpenClaim.holds_of_wide 4 Try.f4 rfl rfl rfl rfl rfl rfl rfl ⟨rfl, rfl, rfl, rfl, rfl⟩ rfl rfl rfl rfl rfl (by kernel_rfl) Try.func4 (by kernel_rfl)
    (of_decide_eq_true (by kernel_rfl)) (by unfold Func.isWrapper; first | (rw [if_pos (by decide +kernel)]; kernel_rfl) | (rw [if_neg (by decide +kernel)]; exact ⟨rfl, rfl⟩))
    (fun os started H enc _ => lifted os started H enc)
theorem proved : Rows.BreakerRunsSaid := over
#print axioms proved
end Go.Proofs.Ytgekiiildobfkaa.BreakerRuns
