/- CallTells returns true for all calls, settings, ticks, attempts, draws and places, and changes nothing; no condition. -/
import Derived.Test.YtgekiiildobfkaaF6
import Derived.Test.YtgekiiildobfkaaC13
import Derived.Test.YtgekiiildobfkaaRows
set_option linter.unusedVariables false
namespace Go.Proofs.Ytgekiiildobfkaa.CallTells
open Go.ChangeShapes Go.WideShapes Go.ChangeAt Go.RowKit Go.Proofs.E

theorem own : ownKnob Try.prog.godebug = none := by kernel_rfl
theorem stays : Stays Try.prog Try.f8.params.toList := ⟨by kernel_rfl, by kernel_rfl⟩

theorem wfu {x : Int} (h : (Lit.int .u64 x).wf = true) : 0 ≤ x ∧ x < 18446744073709551616 := by
  simp [Lit.wf, IntKind.min, IntKind.max, IntKind.signed, IntKind.bits] at h
  exact ⟨by omega, by omega⟩
set_option maxRecDepth 100000 in
theorem lifted (os : Os) (started : os.Started) (H : Type) (enc : TypeId × Value → H) :
    ReturnsInHanded {} Try.checked os 8 .any (Rows.callTellsSpec.pre6 enc Try.prog Try.f8 Rows.callTellsRow.domain false) (Rows.callTellsSpec.post enc Try.prog Try.f8 false true false false) := by
  refine returnsInHanded_of_change_sized (C := Try.checked) own started (by kernel_rfl) Try.func8
    (ChangeSpec.witness6 (enc := enc) (C := Try.checked) false ⟨#[], #[.agg #[.int .i64 0, .int .i64 0, .int .i64 0, .int .i64 0, .int .i64 0, .bool false, .int .i64 0, .int .i64 0, .int .i64 0, .slice none 0 0], .agg #[.int .i64 0, .int .i64 0, .int .i64 0, .int .i64 0, .int .i64 0, .int .i64 0, .int .i64 0, .int .i64 0], .int .i64 0, .int .i64 0, .agg #[.int .i64 0, .int .i64 0, .int .i64 0, .int .i64 0, .int .i64 0, .bool false, .bool false, .bool false], .agg #[.int .i64 0, .int .i64 0, .int .i64 0, .int .i64 0, .int .i64 0, .bool false, .bool false, .bool false], .int .u64 0, .slice none 0 0], []⟩ 8 (by kernel_rfl) (by kernel_rfl) (by kernel_rfl) (by kernel_rfl)) ?_
  intro W base args ds gs before hval0 hW hcnd hsz0 _
  have hval : ∀ (j : Nat) t v, Try.f8.params[j]? = some t → args[j]? = some v → Value.okWide Try.prog W .any base t v := hval0
  have hW' := hW
  obtain ⟨p, q, hA0, hV, rfl, hfz, hnd⟩ := hW
  have hA : DataW.TrodAll enc Try.prog W 0 (fun _ => true) true Try.f8.params.toList args.toList ds p := hA0
  rw [Try.params8] at hA hval
  obtain ⟨v0, vs0, d0, ds0, p0, q0, hargs, rfl, rfl, h0, r0⟩ := trodAll_cons hA
  obtain ⟨v1, vs1, d1, ds1, p1, q1, rfl, rfl, rfl, h1, r1⟩ := trodAll_cons r0
  obtain ⟨v2, vs2, d2, ds2, p2, q2, rfl, rfl, rfl, h2, r2⟩ := trodAll_cons r1
  obtain ⟨v3, vs3, d3, ds3, p3, q3, rfl, rfl, rfl, h3, r3⟩ := trodAll_cons r2
  obtain ⟨v4, vs4, d4, ds4, p4, q4, rfl, rfl, rfl, h4, r4⟩ := trodAll_cons r3
  obtain ⟨v5, vs5, d5, ds5, p5, q5, rfl, rfl, rfl, h5, r5⟩ := trodAll_cons r4
  obtain ⟨v6, vs6, d6, ds6, p6, q6, rfl, rfl, rfl, h6, r6⟩ := trodAll_cons r5
  obtain ⟨v7, vs7, d7, ds7, p7, q7, rfl, rfl, rfl, h7, r7⟩ := trodAll_cons r6
  obtain ⟨rfl, rfl, rfl⟩ := trodAll_nil r7
  obtain rfl : args = #[v0, v1, v2, v3, v4, v5, v6, v7] := by cases args; simp_all
  obtain ⟨⟨c, vc, l⟩, rfl, hr_l⟩ := open_agg (f := fun x : CallH × Value × List Att => callE x.1 x.2.1) Try.underlying56 elCall (hval 0 56 v0 rfl rfl) h0
  obtain ⟨s, rfl, hg_s⟩ := open_agg Try.underlying60 elCSet (hval 1 60 v1 rfl rfl) h1
  obtain ⟨tick, rfl, rfl, rfl, w_tick⟩ := open_int Try.underlying3 (hval 2 3 v2 rfl rfl) h2
  obtain ⟨wait, rfl, rfl, rfl, w_wait⟩ := open_int Try.underlying3 (hval 3 3 v3 rfl rfl) h3
  obtain ⟨x, rfl, hg_x⟩ := open_agg Try.underlying65 elAtt (hval 4 65 v4 rfl rfl) h4
  obtain ⟨y, rfl, hg_y⟩ := open_agg Try.underlying65 elAtt (hval 5 65 v5 rfl rfl) h5
  obtain ⟨draw, rfl, rfl, rfl, w_draw⟩ := open_int Try.underlying61 (hval 6 61 v6 rfl rfl) h6
  obtain ⟨places, hr_places, hg_places⟩ := open_rd (E := intE) Try.underlying37 (by kernel_rfl) elI (okWide_slice Try.underlying37 (hval 7 37 v7 rfl rfl)) h7
  have hz_l : l.length * 48 ≤ 140737488355328 := by
    obtain ⟨A, cp, hv, _⟩ := id hr_l
    exact agg_len (j := 0) (t := 56) (d := d0) hsz0 rfl rfl Try.underlying56 h0 (i := 6) rfl rfl (by kernel_rfl) Try.underlying54 (by kernel_rfl) (by rw [hv]; rfl)
  refine (tells27_law c vc v7 s x y l tick wait draw (wfu w_draw) places W hr_l hr_places hz_l).mono fun e W' ⟨he, hf⟩ => ⟨_, he, ?_⟩
  exact law_post stays rfl Try.underlying4 rfl ⟨rfl, rfl, rfl⟩ hW' hf

theorem over : Rows.callTellsRow.holds Try.pinned (OpenSpec.ofChange Rows.callTellsSpec) :=
  OpenClaim.holds_of_wide 8 Try.f8 rfl rfl rfl rfl rfl rfl rfl ⟨rfl, rfl, rfl, rfl, rfl⟩ rfl rfl rfl rfl rfl (by kernel_rfl) Try.func8 (by kernel_rfl)
    (of_decide_eq_true (by kernel_rfl)) (by unfold Func.isWrapper; first | (rw [if_pos (by decide +kernel)]; kernel_rfl) | (rw [if_neg (by decide +kernel)]; exact ⟨rfl, rfl⟩))
    (fun os started H enc _ => lifted os started H enc)
theorem proved : Rows.CallTellsSaid := over
#print axioms proved
end Go.Proofs.Ytgekiiildobfkaa.CallTells
