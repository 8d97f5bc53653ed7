/- How large a slice inside a struct that is handed in can be. -/
import Derived.Test.YtgekiiildobfkaaF5
set_option linter.unusedVariables false
set_option linter.unusedSimpArgs false
namespace Go.Proofs.E
open Go.ChangeShapes Go.WideShapes Go.ChangeAt Go.RowKit Go.Deep
section
variable {H : Type} {enc : TypeId × Value → H} {P : Program} {W : World}
theorem agg_len {ts : List TypeId} {ds : List (DataW H)} (h : (DataW.weightsEach P ts ds).all (· ≤ reachBytes) = true) {j : Nat} {t e : TypeId} {d : DataW H} {fs : Array Field} {ps : List MemPlace} {cs : List Value} {i : Nat} {f : Field} {off b : Nat} {A : Option Addr} {l c : Nat}
    (ht : ts[j]? = some t) (hd : ds[j]? = some d) (hu : P.underlying t = some (.struct fs)) (hT : DataW.Trod enc P W 0 (fun _ => true) true t (.agg cs.toArray) d ps)
    (hf : fs[i]? = some f) (ho : f.offset = off) (hc : P.cellsOf f.type = 1) (hu2 : P.underlying f.type = some (.slice e)) (hb : P.bytesOf e = b) (hv : cs[off]? = some (.slice A l c)) : l * b ≤ 140737488355328 := by
  obtain ⟨fuel, hT⟩ := hT
  have hT : DataW.trod enc P W 0 (fun _ => true) true fuel t cs = some (d, ps) := by simpa [Value.cells] using hT
  obtain ⟨xs, k, _, hx, _, hl, hfl⟩ := DataW.trod_struct hu hT
  have hfi := hfl i f hf
  have hi' : i < fs.size := (Array.getElem?_eq_some_iff.1 hf).1
  subst ho
  have hlt : f.offset < cs.length := (List.getElem?_eq_some_iff.1 hv).1
  have e1 : (cs.drop f.offset).take 1 = [.slice A l c] := by
    rw [List.drop_eq_getElem_cons hlt, (List.getElem?_eq_some_iff.1 hv).2]; rfl
  rw [hc, e1, List.getElem?_eq_getElem (by omega)] at hfi
  have hz := open_sz (x := (xs[i]'(by omega)).1) (ps := (xs[i]'(by omega)).2) hu2 ⟨k, by simpa [Value.cells] using hfi⟩ rfl
  rcases hz with rfl | ⟨es, sp, hes, rfl⟩
  · omega
  · have h1 := List.all_eq_true.1 h _ (DataW.weights_mem_each ht hd ((es.length + sp.length) * P.bytesOf e) (by
      rw [(Prod.mk.inj hx).1]
      simp only [DataW.weights, hu]
      refine DataW.weights_mem_each (j := i) (t := f.type) (d := .slice es sp) ?_ ?_ _ (by simp [DataW.weights, hu2])
      · rw [List.getElem?_map]; simp [hf]
      · rw [List.getElem?_map, List.getElem?_eq_getElem (by omega)]; simp [hes]))
    rw [hb] at h1
    have h1 := of_decide_eq_true h1
    have h2 := reachBytes_lt
    have h3 : es.length * b ≤ (es.length + sp.length) * b := Nat.mul_le_mul_right _ (by omega)
    omega
end
end Go.Proofs.E
