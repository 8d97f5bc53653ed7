/- What a backend that is handed in is. -/
import Derived.Test.YtgekiiildobfkabbT
set_option linter.unusedVariables false
namespace Go.Proofs.E
open Go.ChangeShapes Go.WideShapes Go.ChangeAt Go.RowKit
theorem elBk {H : Type} {enc : TypeId × Value → H} {W : World} (n : Nat) (cs : List Value) (y : DataW H × List MemPlace) (h : DataW.trod enc Try.prog W 0 (fun _ => true) true n 54 cs = some y) : ∃ x, cs = timE.enc x ∧ In64 x.1 ∧ In64 x.2 := by
  obtain ⟨hl, k, hf⟩ := trod_flds Try.underlying54 (by kernel_rfl) (m := 2) (by kernel_rfl) h
  obtain ⟨_, h0⟩ := hf 0 _ rfl
  obtain ⟨_, h1⟩ := hf 1 _ rfl
  obtain ⟨a, ha, wa⟩ := cell_int Try.underlying3 h0
  obtain ⟨b, hb, wb⟩ := cell_int Try.underlying3 h1
  match cs, hl with
  | [u, v], _ =>
    simp at ha hb
    exact ⟨(a, b), by rw [ha, hb]; rfl, wf64 wa, wf64 wb⟩
end Go.Proofs.E
