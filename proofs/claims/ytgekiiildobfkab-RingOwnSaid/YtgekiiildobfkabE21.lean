/- How large a slice that is handed in can be. -/
import Derived.Test.YtgekiiildobfkabE14
import Derived.SizedLaws
import Derived.Deep.Slices
set_option linter.unusedVariables false
namespace Go.Proofs.E
open Go.ChangeShapes Go.WideShapes Go.ChangeAt Go.RowKit Go.Deep
section
variable {H : Type} {enc : TypeId × Value → H} {P : Program} {W : World}
theorem open_sz {t e : TypeId} {v : Value} {x : DataW H} {ps : List MemPlace} (ht : P.underlying t = some (.slice e)) (h : DataW.Trod enc P W 0 (fun _ => true) true t v x ps) {A : Option Addr} {l c : Nat} (hv : v = .slice A l c) :
    l = 0 ∨ ∃ es sp, x = .slice es sp ∧ es.length = l := by
  obtain ⟨fuel, hf⟩ := h
  subst hv
  have hf : DataW.trod enc P W 0 (fun _ => true) true fuel t [.slice A l c] = some (x, ps) := by simpa [Value.cells] using hf
  rcases open_slice ht hf with ⟨h0, _⟩ | ⟨a, len, cap, m, n, D, Pl, h0, hb, hl, hm, hmm, hx0, hx⟩
  · simp only [List.cons.injEq, Value.slice.injEq, and_true] at h0
    exact .inl h0.2.1
  · simp only [List.cons.injEq, Value.slice.injEq, and_true] at h0
    obtain ⟨rfl, rfl, rfl⟩ := h0
    simp only [Prod.mk.injEq] at hx0
    exact .inr ⟨_, _, hx0.1, by simp⟩
theorem sized_len {ts : List TypeId} {ds : List (DataW H)} (h : (DataW.weightsEach P ts ds).all (· ≤ reachBytes) = true) {j : Nat} {t e : TypeId} {x : DataW H} {l b : Nat} (ht : ts[j]? = some t) (hd : ds[j]? = some x) (hu : P.underlying t = some (.slice e)) (hb : P.bytesOf e = b)
    (hx : l = 0 ∨ ∃ es sp, x = .slice es sp ∧ es.length = l) : l * b ≤ 140737488355328 := by
  rcases hx with rfl | ⟨es, sp, rfl, rfl⟩
  · omega
  · have h1 := sized_slice h ht hd hu
    rw [hb] at h1
    have h2 := reachBytes_lt
    have h3 : es.length * b ≤ (es.length + sp.length) * b := Nat.mul_le_mul_right _ (by omega)
    omega
end
end Go.Proofs.E
