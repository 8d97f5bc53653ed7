/- The library's sort of numbers, of a slice of the call's own. -/
import Derived.Test.YtgekiiildobfkaaSh
import Derived.Test.YtgekiiildobfkaaE15
import Derived.Sort.OwnSortedInts
set_option linter.unusedVariables false
namespace Go.Proofs.E
open Go.RowKit Go.Sort
def sortI (l : List Int) : List Int := l.mergeSort fun x y => decide (x ≤ y)
theorem flat_int (l : List Int) : intE.flat l = l.map (Value.int .i64) := by
  induction l with
  | nil => rfl
  | cons x l ih => simp only [Enc.flat, List.flatMap_cons, List.map_cons] at ih ⊢; rw [ih]; rfl
theorem sort_ok (v : Value) (l : List Int) (w : World) (hr : (ownR v 3 intE l).ok w) (hl : l.length ≤ 1000000) : Calls Try.prog 158 #[v] w fun e w' => ∃ x : Unit, e = .returned (.tuple #[]) ∧ True ∧ Post (fun b => v.ownBlock = some b) [ownR v 3 intE (sortI l)] w w' := by
  have hown : w.ownsRow 0 3 1 v l.length (intE.flat l) := hr
  rcases hown.2 with ⟨hv, h0⟩ | ⟨g, cap, cur, hv, hbase, hgh, hcap, hcm, hcs, htake⟩
  · have hl0 : l = [] := List.eq_nil_of_length_eq_zero h0
    subst hl0
    subst hv
    refine (Try.slices_Sort_int_none none 0 w).mono ?_
    rintro e w' ⟨rfl, rfl⟩
    exact ⟨(), rfl, trivial, Frm.refl _ _, ⟨by simpa [sortI] using own_nil, by simp⟩, by simp [ownR, Value.ownBlock]⟩
  · rw [Nat.mul_one, flat_int] at htake
    have hH := holds_of_blockI hgh htake
    have hlt : g < w.heap.size := (Array.getElem?_eq_some_iff.1 hgh).1
    subst hv
    refine (Try.slices_Sort_int g 0 cap l w hH hlt (by omega)).mono ?_
    rintro e w' ⟨rfl, n, os, rfl⟩
    have hlen : (sortI l).length = l.length := by simp [sortI]
    have hrow := ownsRow_sortedI (w := w) (base := 0) (n := n) (os := os) (cap := cap) (ss := l) (ts := sortI l) hlen (Nat.zero_le _) hgh hcap hcm hcs
    have hgr := grownBy_sortedI (w := w) (g := g) (n := n) (os := os) (sortI l).toArray
    have hf : Frm (fun b => (Value.slice (some ⟨g, 0, none⟩) l.length cap).ownBlock = some b) w (grow (putRow (Value.int .i64) (Sort.ahead w n) g 0 (sortI l).toArray) os) := (Frm.grown hgr (Nat.le_add_right w.drawn n)).mono (fun i _ hi => by
      simp only [Option.some.injEq] at hi
      simp [Value.ownBlock, hi])
    refine ⟨(), rfl, trivial, hf, ⟨fun r hr' => ?_, by simp⟩, fun r hr' b hb => ?_⟩
    · simp only [List.mem_singleton] at hr'
      subst hr'
      show World.ownsRow _ 0 3 1 _ (sortI l).length (intE.flat (sortI l))
      rw [hlen, flat_int]
      exact hrow
    · simp only [List.mem_singleton] at hr'
      subst hr'
      exact .inl (hb.resolve_right (fun h => h))
theorem sortI_perm (l : List Int) : (sortI l).Perm l := List.mergeSort_perm l _
theorem sortI_len (l : List Int) : (sortI l).length = l.length := by simp [sortI]
theorem sortI_sorted (l : List Int) : (sortI l).Pairwise fun x y => x ≤ y := by
  have := List.pairwise_mergeSort (le := fun x y : Int => decide (x ≤ y)) (fun a b c h1 h2 => by simp at *; omega) (fun a b => by simp; omega) l
  exact this.imp (fun h => by simpa using h)
end Go.Proofs.E
