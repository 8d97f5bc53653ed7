/- The library's sort by a comparison of one's own, at structs, of a slice of the call's own. -/
import Derived.Test.YtgekiiildobfkabbQ1
import Derived.Shelf.SlSortCmp.WholeK
set_option linter.unusedVariables false
set_option linter.unusedSimpArgs false
namespace Go.Proofs.E
open Go.RowKit Go.Sort Go.Proofs
theorem flat_eq {α : Type} [Inhabited α] (E : Enc α) (l : List α) : flatK E.enc E.sz l.toArray = (E.flat l).toArray := by
  apply Array.ext
  · simp [size_flatK, Enc.flat_length]
  · intro t h1 h2
    have ht : t < l.toArray.size * E.sz := by simpa [size_flatK] using h1
    have e1 := get_flatK E.enc E.sz l.toArray t ht
    rw [getElem!_pos _ t h1] at e1
    rw [e1]
    have hj : t / E.sz < l.length := Nat.div_lt_of_lt_mul (by rw [Nat.mul_comm]; simpa using ht)
    have ho : t % E.sz < E.sz := Nat.mod_lt _ E.pos
    have e2 := E.flat_at l (t / E.sz) (t % E.sz) hj ho
    rw [Nat.div_add_mod'] at e2
    have h2' : t < (E.flat l).length := by simpa using h2
    rw [List.getElem?_eq_getElem h2'] at e2
    have hoe : t % E.sz < (E.enc l[t / E.sz]).length := by rw [E.len]; exact ho
    rw [List.getElem?_eq_getElem hoe] at e2
    have e3 := Option.some.inj e2
    rw [List.getElem_toArray, e3, getElem!_pos l.toArray _ (by simpa using hj), List.getElem_toArray, getElem!_pos (E.enc l[t / E.sz]) (t % E.sz) hoe]
theorem holdsV {w : World} {g : Nat} {cur : Array Value} {e : TypeId} {vs : List Value} (hb : w.heap[g]? = some (.cells cur e (0, 0))) (ht : cur.toList.take vs.length = vs) : Holds id w g 0 vs.toArray := by
  intro j hj
  have hj' : j < vs.length := by simpa using hj
  refine ⟨?_, by simp [World.frozen?, hb]⟩
  have h1 : (cur.toList.take vs.length)[j]? = vs[j]? := by rw [ht]
  rw [List.getElem?_take_of_lt hj'] at h1
  simp only [World.cell?, hb, Nat.zero_add]
  simp only [Option.isSome_none, Bool.false_eq_true, if_false]
  rw [← Array.getElem?_toList, h1]
  simp [hj']
theorem heapV {w : World} {g n : Nat} {os : Array Obj} {cur : Array Value} {e : TypeId} {fr : Nat × Nat} (F : Array Value) (hb : w.heap[g]? = some (.cells cur e fr)) :
    (grow (putRow id (Sort.ahead w n) g 0 F) os).heap[g]? = some (.cells (putCells id 0 F cur) e fr) := by
  have hg : g < w.heap.size := (Array.getElem?_eq_some_iff.1 hb).1
  rw [heap_grow_old _ _ (by simpa using hg)]
  simp [putRow, mapBlock, Sort.ahead, Array.getElem?_modify, hb, onCells]
theorem takeV (cur : Array Value) (vs : List Value) (h : vs.length ≤ cur.size) : (putCells id 0 vs.toArray cur).toList.take vs.length = vs := by
  apply List.ext_getElem?
  intro j
  by_cases hj : j < vs.length
  · rw [List.getElem?_take_of_lt hj, Array.getElem?_toList]
    simp [putCells, hj, show j < cur.size by omega]
  · rw [List.getElem?_take_eq_none (by omega), List.getElem?_eq_none (by omega)]
theorem frmV {w : World} {g n : Nat} {os : Array Obj} (F : Array Value) : Frm (fun b => b = g) w (grow (putRow id (Sort.ahead w n) g 0 F) os) := by
  refine ⟨rfl, rfl, rfl, by simp, fun k hk hne => ?_, Nat.le_add_right _ _⟩
  rw [heap_grow_old _ _ (by simpa using hk)]
  have : g ≠ k := fun e => hne e.symm
  simp [putRow, mapBlock, Sort.ahead, Array.getElem?_modify, this]
/-- A world in which nothing that was there is turned is the old one with draws and blocks more. -/
theorem frm_grow {w w' : World} (h : Frm Nob w w') : ∃ q os, w' = grow (w.drewN q) os := by
  refine ⟨w'.drawn - w.drawn, w'.heap.extract w.heap.size w'.heap.size, ?_⟩
  have h1 := h.os; have h2 := h.tape; have h3 := h.output; have h4 := h.drawn; have h5 := h.size; have h6 := h.block
  obtain ⟨H, T, D, O, U⟩ := w
  obtain ⟨H', T', D', O', U'⟩ := w'
  simp only at h1 h2 h3 h4 h5 h6
  subst h1; subst h2; subst h3
  have e1 : D + (D' - D) = D' := by omega
  have e2 : H ++ H'.extract H.size H'.size = H' := by
    apply Array.ext_getElem?
    intro i
    by_cases hi : i < H.size
    · rw [Array.getElem?_append_left hi, h6 i hi (fun hf => hf)]
    · rw [Array.getElem?_append_right (by omega), Array.getElem?_extract]
      split
      · congr 1; omega
      · rw [Array.getElem?_eq_none (by omega)]
  simp only [grow, World.drewN, e1, e2]
theorem lt_ord (x y : Int × Int) : ltOf ordI x y = decide (x.1 < y.1 ∨ (x.1 = y.1 ∧ x.2 < y.2)) := by
  unfold ltOf ordI orI orI orI cmpI
  by_cases h1 : x.1 < y.1
  · simp [h1]
  · by_cases h2 : x.1 > y.1
    · have : ¬ x.1 = y.1 := by omega
      simp [h1, h2, this]
    · have h3 : x.1 = y.1 := by omega
      by_cases h4 : x.2 < y.2
      · simp [h3, h4]
      · by_cases h5 : x.2 > y.2 <;> simp [h3, h4, h5]
theorem swo_ord : SWO (ltOf ordI) where
  irrefl x := by rw [lt_ord]; simp
  trans x y z h1 h2 := by rw [lt_ord] at *; simp only [decide_eq_true_eq] at *; omega
  ntrans x y z h1 h2 := by rw [lt_ord] at *; simp only [decide_eq_false_iff_not] at *; omega
theorem tot_ord (x y : Int × Int) (h1 : ltOf ordI x y = false) (h2 : ltOf ordI y x = false) : x = y := by
  rw [lt_ord] at *; simp only [decide_eq_false_iff_not] at *
  exact Prod.ext (by omega) (by omega)
end Go.Proofs.E
