/- What the breaker's arguments are. -/
import Derived.Test.YtgekiiildobfkaaF1
import Derived.Test.YtgekiiildobfkaaB1
set_option linter.unusedVariables false
namespace Go.Proofs.E
open Go.ChangeShapes Go.WideShapes Go.ChangeAt Go.RowKit
theorem open_agg {α : Type} {H : Type} {enc : TypeId × Value → H} {P : Program} {W : World} {base : Nat} {f : α → List Value} {Gd : α → Prop} {t : TypeId} {fs : Array Field} {v : Value} {d : DataW H} {ps : List MemPlace} (hu : P.underlying t = some (.struct fs))
    (hel : ∀ n cs y, DataW.trod enc P W 0 (fun _ => true) true n t cs = some y → ∃ x, cs = f x ∧ Gd x) (hv : Value.okWide P W .any base t v) (h : DataW.Trod enc P W 0 (fun _ => true) true t v d ps) : ∃ x, v = .agg (f x).toArray ∧ Gd x := by
  obtain ⟨cs, rfl, _⟩ := okWide_struct hu hv
  obtain ⟨fuel, hf⟩ := h
  obtain ⟨x, h1, h2⟩ := hel _ _ _ hf
  refine ⟨x, ?_, h2⟩
  have h1 : cs.toList = f x := by simpa [Value.cells] using h1
  rw [← h1]
theorem elAct {H : Type} {enc : TypeId × Value → H} {W : World} (n : Nat) (cs : List Value) (y : DataW H × List MemPlace) (h : DataW.trod enc Try.prog W 0 (fun _ => true) true n 106 cs = some y) : ∃ x, cs = actE.enc x ∧ In64 x.what ∧ In64 x.tick := by
  obtain ⟨hl, k, hf⟩ := trod_flds Try.underlying106 (by kernel_rfl) (m := 4) (by kernel_rfl) h
  obtain ⟨_, h0⟩ := hf 0 _ rfl
  obtain ⟨a0, e0, w0⟩ := cell_int Try.underlying3 h0
  obtain ⟨_, h1⟩ := hf 1 _ rfl
  obtain ⟨a1, e1, w1⟩ := cell_int Try.underlying3 h1
  obtain ⟨_, h2⟩ := hf 2 _ rfl
  obtain ⟨a2, e2⟩ := cell_bool Try.underlying4 h2
  obtain ⟨_, h3⟩ := hf 3 _ rfl
  obtain ⟨a3, e3⟩ := cell_bool Try.underlying4 h3
  match cs, hl with
  | [u0, u1, u2, u3], _ =>
    simp at e0 e1 e2 e3
    exact ⟨⟨a0, a1, a2, a3⟩, by rw [e0, e1, e2, e3]; rfl, ⟨wf64 w0, wf64 w1⟩⟩
theorem elBSet {H : Type} {enc : TypeId × Value → H} {W : World} (n : Nat) (cs : List Value) (y : DataW H × List MemPlace) (h : DataW.trod enc Try.prog W 0 (fun _ => true) true n 33 cs = some y) : ∃ x, cs = sE x ∧ In64 x.fails ∧ In64 x.opn ∧ In64 x.probes := by
  obtain ⟨hl, k, hf⟩ := trod_flds Try.underlying33 (by kernel_rfl) (m := 3) (by kernel_rfl) h
  obtain ⟨_, h0⟩ := hf 0 _ rfl
  obtain ⟨a0, e0, w0⟩ := cell_int Try.underlying3 h0
  obtain ⟨_, h1⟩ := hf 1 _ rfl
  obtain ⟨a1, e1, w1⟩ := cell_int Try.underlying3 h1
  obtain ⟨_, h2⟩ := hf 2 _ rfl
  obtain ⟨a2, e2, w2⟩ := cell_int Try.underlying3 h2
  match cs, hl with
  | [u0, u1, u2], _ =>
    simp at e0 e1 e2
    exact ⟨⟨a0, a1, a2⟩, by rw [e0, e1, e2]; rfl, ⟨wf64 w0, wf64 w1, wf64 w2⟩⟩
end Go.Proofs.E
