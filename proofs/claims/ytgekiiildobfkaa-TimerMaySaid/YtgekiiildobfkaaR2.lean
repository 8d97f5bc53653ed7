/- TimerMay returns true for all slices of timers, numbers and slices of numbers, and changes nothing; no condition. -/
import Derived.Test.YtgekiiildobfkaaF1
import Derived.Test.YtgekiiildobfkaaT13
import Derived.Test.YtgekiiildobfkaaRows
set_option linter.unusedVariables false
namespace Go.Proofs.Ytgekiiildobfkaa.TimerMay
open Go.ChangeShapes Go.WideShapes Go.ChangeAt Go.RowKit Go.Proofs.E

theorem own : ownKnob Try.prog.godebug = none := by kernel_rfl
theorem stays : Stays Try.prog Try.f5.params.toList := ⟨by kernel_rfl, by kernel_rfl⟩

set_option maxRecDepth 100000 in
theorem lifted (os : Os) (started : os.Started) (H : Type) (enc : TypeId × Value → H) :
    ReturnsInHanded {} Try.checked os 5 .any (Rows.timerMaySpec.pre6 enc Try.prog Try.f5 Rows.timerMayRow.domain false) (Rows.timerMaySpec.post enc Try.prog Try.f5 false true false false) := by
  refine returnsInHanded_of_change (C := Try.checked) own started (by kernel_rfl) Try.func5
    (ChangeSpec.witness6 (enc := enc) (C := Try.checked) false ⟨#[], #[.slice none 0 0, .slice none 0 0, .int .i64 0, .slice none 0 0], []⟩ 8 (by kernel_rfl) (by kernel_rfl) (by kernel_rfl) (by kernel_rfl)) ?_
  intro W base args ds gs before hval0 hW hcnd _
  have hval : ∀ (j : Nat) t v, Try.f5.params[j]? = some t → args[j]? = some v → Value.okWide Try.prog W .any base t v := hval0
  have hW' := hW
  obtain ⟨p, q, hA0, hV, rfl, hfz, hnd⟩ := hW
  have hA : DataW.TrodAll enc Try.prog W 0 (fun _ => true) true Try.f5.params.toList args.toList ds p := hA0
  rw [Try.params5] at hA hval
  obtain ⟨v0, vs0, d0, ds0, p0, q0, hargs, rfl, rfl, h0, r0⟩ := trodAll_cons hA
  obtain ⟨v1, vs1, d1, ds1, p1, q1, rfl, rfl, rfl, h1, r1⟩ := trodAll_cons r0
  obtain ⟨v2, vs2, d2, ds2, p2, q2, rfl, rfl, rfl, h2, r2⟩ := trodAll_cons r1
  obtain ⟨v3, vs3, d3, ds3, p3, q3, rfl, rfl, rfl, h3, r3⟩ := trodAll_cons r2
  obtain ⟨rfl, rfl, rfl⟩ := trodAll_nil r3
  obtain rfl : args = #[v0, v1, v2, v3] := by cases args; simp_all
  obtain ⟨l, hr_l, hg_l⟩ := open_rd (E := timE) Try.underlying22 (by kernel_rfl) elT (okWide_slice Try.underlying22 (hval 0 22 v0 rfl rfl)) h0
  obtain ⟨more, hr_more, hg_more⟩ := open_rd (E := timE) Try.underlying22 (by kernel_rfl) elT (okWide_slice Try.underlying22 (hval 1 22 v1 rfl rfl)) h1
  obtain ⟨tick, rfl, rfl, rfl, w_tick⟩ := open_int Try.underlying3 (hval 2 3 v2 rfl rfl) h2
  obtain ⟨ids, hr_ids, hg_ids⟩ := open_rd (E := intE) Try.underlying37 (by kernel_rfl) elI (okWide_slice Try.underlying37 (hval 3 37 v3 rfl rfl)) h3
  refine (may20_law v0 v1 v3 l more tick ids W hr_l hr_more hr_ids).mono fun e W' ⟨he, hf⟩ => ⟨_, he, ?_⟩
  exact law_post stays rfl Try.underlying4 rfl ⟨rfl, rfl, rfl⟩ hW' hf

theorem over : Rows.timerMayRow.holds Try.pinned (OpenSpec.ofChange Rows.timerMaySpec) :=
  OpenClaim.holds_of_wide 5 Try.f5 rfl rfl rfl rfl rfl rfl rfl ⟨rfl, rfl, rfl, rfl, rfl⟩ rfl rfl rfl rfl rfl (by kernel_rfl) Try.func5 (by kernel_rfl)
    (of_decide_eq_true (by kernel_rfl)) (by unfold Func.isWrapper; first | (rw [if_pos (by decide +kernel)]; kernel_rfl) | (rw [if_neg (by decide +kernel)]; exact ⟨rfl, rfl⟩))
    (fun os started H enc _ => lifted os started H enc)
theorem proved : Rows.TimerMaySaid := over
#print axioms proved
end Go.Proofs.Ytgekiiildobfkaa.TimerMay
