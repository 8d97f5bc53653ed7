/- TimerFirst returns true for every slice of timers and every number, and changes nothing; no condition. -/
import Derived.Test.YtgekiiildobfkaaE14
import Derived.Test.YtgekiiildobfkaaT9
import Derived.Test.YtgekiiildobfkaaRows
set_option linter.unusedVariables false
namespace Go.Proofs.Ytgekiiildobfkaa.TimerFirst
open Go.ChangeShapes Go.WideShapes Go.ChangeAt Go.RowKit Go.Proofs.E

theorem own : ownKnob Try.prog.godebug = none := by kernel_rfl
theorem stays : Stays Try.prog Try.f3.params.toList := ⟨by kernel_rfl, by kernel_rfl⟩
theorem elT {H : Type} {enc : TypeId × Value → H} {W : World} (n : Nat) (cs : List Value) (y : DataW H × List MemPlace) (h : DataW.trod enc Try.prog W 0 (fun _ => true) true n 25 cs = some y) : ∃ x, cs = timE.enc x ∧ In64 x.1 ∧ In64 x.2 := by
  obtain ⟨hl, k, hf⟩ := trod_flds Try.underlying25 (by kernel_rfl) (m := 2) (by kernel_rfl) h
  obtain ⟨_, h0⟩ := hf 0 _ rfl
  obtain ⟨_, h1⟩ := hf 1 _ rfl
  obtain ⟨a, ha, wa⟩ := cell_int Try.underlying3 h0
  obtain ⟨b, hb, wb⟩ := cell_int Try.underlying3 h1
  match cs, hl with
  | [u, v], _ =>
    simp at ha hb
    exact ⟨(a, b), by rw [ha, hb]; rfl, wf64 wa, wf64 wb⟩

set_option maxRecDepth 100000 in
theorem lifted (os : Os) (started : os.Started) (H : Type) (enc : TypeId × Value → H) :
    ReturnsInHanded {} Try.checked os 3 .any (Rows.timerFirstSpec.pre6 enc Try.prog Try.f3 Rows.timerFirstRow.domain false) (Rows.timerFirstSpec.post enc Try.prog Try.f3 false true false false) := by
  refine returnsInHanded_of_change (C := Try.checked) own started (by kernel_rfl) Try.func3
    (ChangeSpec.witness6 (enc := enc) (C := Try.checked) false ⟨#[], #[.slice none 0 0, .int .i64 0], []⟩ 8 (by kernel_rfl) (by kernel_rfl) (by kernel_rfl) (by kernel_rfl)) ?_
  intro W base args ds gs before hval0 hW hcnd _
  have hval : ∀ (j : Nat) t v, Try.f3.params[j]? = some t → args[j]? = some v → Value.okWide Try.prog W .any base t v := hval0
  have hW' := hW
  obtain ⟨p, q, hA0, hV, rfl, hfz, hnd⟩ := hW
  have hA : DataW.TrodAll enc Try.prog W 0 (fun _ => true) true Try.f3.params.toList args.toList ds p := hA0
  rw [Try.params3] at hA hval
  obtain ⟨v0, vs0, d0, ds0, p0, q0, hargs, rfl, rfl, h0, r0⟩ := trodAll_cons hA
  obtain ⟨v1, vs1, d1, ds1, p1, q1, rfl, rfl, rfl, h1, r1⟩ := trodAll_cons r0
  obtain ⟨rfl, rfl, rfl⟩ := trodAll_nil r1
  obtain rfl : args = #[v0, v1] := by cases args; simp_all
  obtain ⟨l, hr, _⟩ := open_rd (E := timE) Try.underlying22 (by kernel_rfl) elT (okWide_slice Try.underlying22 (hval 0 22 v0 rfl rfl)) h0
  obtain ⟨a1, rfl, rfl, rfl, w1⟩ := open_int Try.underlying3 (hval 1 3 v1 rfl rfl) h1
  refine (first20_law v0 l a1 W hr).mono fun e W' ⟨he, hf⟩ => ⟨_, he, ?_⟩
  exact law_post stays rfl Try.underlying4 rfl ⟨rfl, rfl, rfl⟩ hW' hf

theorem over : Rows.timerFirstRow.holds Try.pinned (OpenSpec.ofChange Rows.timerFirstSpec) :=
  OpenClaim.holds_of_wide 3 Try.f3 rfl rfl rfl rfl rfl rfl rfl ⟨rfl, rfl, rfl, rfl, rfl⟩ rfl rfl rfl rfl rfl (by kernel_rfl) Try.func3 (by kernel_rfl)
    (of_decide_eq_true (by kernel_rfl)) (by unfold Func.isWrapper; first | (rw [if_pos (by decide +kernel)]; kernel_rfl) | (rw [if_neg (by decide +kernel)]; exact ⟨rfl, rfl⟩))
    (fun os started H enc _ => lifted os started H enc)
theorem proved : Rows.TimerFirstSaid := over
#print axioms proved
end Go.Proofs.Ytgekiiildobfkaa.TimerFirst
