/- RingOwn returns true for all numbers and slices of backends, and changes nothing; no condition. -/
import Derived.Test.YtgekiiildobfkabbF7
import Derived.Test.YtgekiiildobfkabbQ8
import Derived.Test.YtgekiiildobfkabRows
set_option linter.unusedVariables false
namespace Go.Proofs.Ytgekiiildobfkab.RingOwn
open Go.ChangeShapes Go.WideShapes Go.ChangeAt Go.RowKit Go.Proofs.E

theorem own : ownKnob Try.prog.godebug = none := by kernel_rfl
theorem stays : Stays Try.prog Try.f3.params.toList := ⟨by kernel_rfl, by kernel_rfl⟩

set_option maxRecDepth 100000 in
theorem lifted (os : Os) (started : os.Started) (H : Type) (enc : TypeId × Value → H) :
    ReturnsInHanded {} Try.checked os 3 .any (Rows.ringOwnSpec.pre6 enc Try.prog Try.f3 Rows.ringOwnRow.domain false) (Rows.ringOwnSpec.post enc Try.prog Try.f3 false true false false) := by
  refine returnsInHanded_of_change (C := Try.checked) own started (by kernel_rfl) Try.func3
    (ChangeSpec.witness6 (enc := enc) (C := Try.checked) false ⟨#[], #[.int .i64 0, .slice none 0 0], []⟩ 8 (by kernel_rfl) (by kernel_rfl) (by kernel_rfl) (by kernel_rfl)) ?_
  intro W base args ds gs before hval0 hW hcnd _
  have hval : ∀ (j : Nat) t v, Try.f3.params[j]? = some t → args[j]? = some v → Value.okWide Try.prog W .any base t v := hval0
  have hW' := hW
  obtain ⟨p, q, hA0, hV, rfl, hfz, hnd⟩ := hW
  have hA : DataW.TrodAll enc Try.prog W 0 (fun _ => true) true Try.f3.params.toList args.toList ds p := hA0
  rw [Try.params3] at hA hval
  obtain ⟨v0, vs0, d0, ds0, p0, q0, hargs, rfl, rfl, h0, r0⟩ := trodAll_cons hA
  obtain ⟨v1, vs1, d1, ds1, p1, q1, rfl, rfl, rfl, h1, r1⟩ := trodAll_cons r0
  obtain ⟨rfl, rfl, rfl⟩ := trodAll_nil r1
  obtain rfl : args = #[v0, v1] := by cases args; simp_all
  obtain ⟨points, rfl, rfl, rfl, w_points⟩ := open_int Try.underlying3 (hval 0 3 v0 rfl rfl) h0
  obtain ⟨backends, hr_backends, hg_backends⟩ := open_rd (E := timE) Try.underlying22 (by kernel_rfl) elBk (okWide_slice Try.underlying22 (hval 1 22 v1 rfl rfl)) h1
  refine (ringown_law points v1 backends W hr_backends).mono fun e W' ⟨he, hf⟩ => ⟨_, he, ?_⟩
  exact law_post stays rfl Try.underlying4 rfl ⟨rfl, rfl, rfl⟩ hW' hf

theorem over : Rows.ringOwnRow.holds Try.pinned (OpenSpec.ofChange Rows.ringOwnSpec) :=
  OpenClaim.holds_of_wide 3 Try.f3 rfl rfl rfl rfl rfl rfl rfl ⟨rfl, rfl, rfl, rfl, rfl⟩ rfl rfl rfl rfl rfl (by kernel_rfl) Try.func3 (by kernel_rfl)
    (of_decide_eq_true (by kernel_rfl)) (by unfold Func.isWrapper; first | (rw [if_pos (by decide +kernel)]; kernel_rfl) | (rw [if_neg (by decide +kernel)]; exact ⟨rfl, rfl⟩))
    (fun os started H enc _ => lifted os started H enc)
theorem proved : Rows.RingOwnSaid := over
#print axioms proved
end Go.Proofs.Ytgekiiildobfkab.RingOwn
