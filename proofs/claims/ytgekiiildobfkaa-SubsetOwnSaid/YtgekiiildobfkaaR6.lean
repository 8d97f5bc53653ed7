/- SubsetOwn returns true for all slices of numbers, numbers and seeds, and changes nothing; no condition. -/
import Derived.Test.YtgekiiildobfkaaF1
import Derived.Test.YtgekiiildobfkaaE21
import Derived.Test.YtgekiiildobfkaaS12
import Derived.Test.YtgekiiildobfkaaRows
set_option linter.unusedVariables false
namespace Go.Proofs.Ytgekiiildobfkaa.SubsetOwn
open Go.ChangeShapes Go.WideShapes Go.ChangeAt Go.RowKit Go.Proofs.E

theorem own : ownKnob Try.prog.godebug = none := by kernel_rfl
theorem stays : Stays Try.prog Try.f11.params.toList := ⟨by kernel_rfl, by kernel_rfl⟩

set_option maxRecDepth 100000 in
theorem lifted (os : Os) (started : os.Started) (H : Type) (enc : TypeId × Value → H) :
    ReturnsInHanded {} Try.checked os 11 .any (Rows.subsetOwnSpec.pre6 enc Try.prog Try.f11 Rows.subsetOwnRow.domain false) (Rows.subsetOwnSpec.post enc Try.prog Try.f11 false true false false) := by
  refine returnsInHanded_of_change_sized (C := Try.checked) own started (by kernel_rfl) Try.func11
    (ChangeSpec.witness6 (enc := enc) (C := Try.checked) false ⟨#[], #[.slice none 0 0, .int .i64 0, .int .i64 0, .int .u64 0], []⟩ 8 (by kernel_rfl) (by kernel_rfl) (by kernel_rfl) (by kernel_rfl)) ?_
  intro W base args ds gs before hval0 hW hcnd hsz0 _
  have hval : ∀ (j : Nat) t v, Try.f11.params[j]? = some t → args[j]? = some v → Value.okWide Try.prog W .any base t v := hval0
  have hW' := hW
  obtain ⟨p, q, hA0, hV, rfl, hfz, hnd⟩ := hW
  have hA : DataW.TrodAll enc Try.prog W 0 (fun _ => true) true Try.f11.params.toList args.toList ds p := hA0
  rw [Try.params11] at hA hval
  obtain ⟨v0, vs0, d0, ds0, p0, q0, hargs, rfl, rfl, h0, r0⟩ := trodAll_cons hA
  obtain ⟨v1, vs1, d1, ds1, p1, q1, rfl, rfl, rfl, h1, r1⟩ := trodAll_cons r0
  obtain ⟨v2, vs2, d2, ds2, p2, q2, rfl, rfl, rfl, h2, r2⟩ := trodAll_cons r1
  obtain ⟨v3, vs3, d3, ds3, p3, q3, rfl, rfl, rfl, h3, r3⟩ := trodAll_cons r2
  obtain ⟨rfl, rfl, rfl⟩ := trodAll_nil r3
  obtain rfl : args = #[v0, v1, v2, v3] := by cases args; simp_all
  obtain ⟨ids, hr_ids, hg_ids⟩ := open_rd (E := intE) Try.underlying37 (by kernel_rfl) elI (okWide_slice Try.underlying37 (hval 0 37 v0 rfl rfl)) h0
  obtain ⟨client, rfl, rfl, rfl, w_client⟩ := open_int Try.underlying3 (hval 1 3 v1 rfl rfl) h1
  obtain ⟨size, rfl, rfl, rfl, w_size⟩ := open_int Try.underlying3 (hval 2 3 v2 rfl rfl) h2
  obtain ⟨seed, rfl, rfl, rfl, w_seed⟩ := open_int Try.underlying61 (hval 3 61 v3 rfl rfl) h3
  have hz_ids : ids.length * 8 ≤ 140737488355328 := by
    obtain ⟨A, c, hv, _⟩ := id hr_ids
    exact sized_len (j := 0) (t := 37) (e := 3) (x := d0) hsz0 rfl rfl Try.underlying37 (by kernel_rfl) (open_sz Try.underlying37 h0 hv)
  refine (own13_law v0 ids client size seed W hr_ids hz_ids).mono fun e W' ⟨he, hf⟩ => ⟨_, he, ?_⟩
  exact law_post stays rfl Try.underlying4 rfl ⟨rfl, rfl, rfl⟩ hW' hf

theorem over : Rows.subsetOwnRow.holds Try.pinned (OpenSpec.ofChange Rows.subsetOwnSpec) :=
  OpenClaim.holds_of_wide 11 Try.f11 rfl rfl rfl rfl rfl rfl rfl ⟨rfl, rfl, rfl, rfl, rfl⟩ rfl rfl rfl rfl rfl (by kernel_rfl) Try.func11 (by kernel_rfl)
    (of_decide_eq_true (by kernel_rfl)) (by unfold Func.isWrapper; first | (rw [if_pos (by decide +kernel)]; kernel_rfl) | (rw [if_neg (by decide +kernel)]; exact ⟨rfl, rfl⟩))
    (fun os started H enc _ => lifted os started H enc)
theorem proved : Rows.SubsetOwnSaid := over
#print axioms proved
end Go.Proofs.Ytgekiiildobfkaa.SubsetOwn
