/- What the elements of the arguments' slices are. -/
import Derived.Test.YtgekiiildobfkaaE14
import Derived.Test.YtgekiiildobfkaaT4
set_option linter.unusedVariables false
namespace Go.Proofs.E
open Go.ChangeShapes Go.WideShapes Go.ChangeAt Go.RowKit
theorem elT {H : Type} {enc : TypeId × Value → H} {W : World} (n : Nat) (cs : List Value) (y : DataW H × List MemPlace) (h : DataW.trod enc Try.prog W 0 (fun _ => true) true n 25 cs = some y) : ∃ x, cs = timE.enc x ∧ In64 x.1 ∧ In64 x.2 := by
  obtain ⟨hl, k, hf⟩ := trod_flds Try.underlying25 (by kernel_rfl) (m := 2) (by kernel_rfl) h
  obtain ⟨_, h0⟩ := hf 0 _ rfl
  obtain ⟨_, h1⟩ := hf 1 _ rfl
  obtain ⟨a, ha, wa⟩ := cell_int Try.underlying3 h0
  obtain ⟨b, hb, wb⟩ := cell_int Try.underlying3 h1
  match cs, hl with
  | [u, v], _ =>
    simp at ha hb
    exact ⟨(a, b), by rw [ha, hb]; rfl, wf64 wa, wf64 wb⟩
theorem elI {H : Type} {enc : TypeId × Value → H} {W : World} (n : Nat) (cs : List Value) (y : DataW H × List MemPlace) (h : DataW.trod enc Try.prog W 0 (fun _ => true) true n 3 cs = some y) : ∃ x, cs = intE.enc x ∧ In64 x := by
  obtain ⟨i, h1, _, h2⟩ := DataW.trod_int Try.underlying3 h
  exact ⟨i, h1, wf64 h2⟩
end Go.Proofs.E
