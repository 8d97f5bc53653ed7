/- The sort of points. -/
import Derived.Test.YtgekiiildobfkabbQ2
import Derived.Test.YtgekiiildobfkabbSf
set_option linter.unusedVariables false
set_option linter.unusedSimpArgs false
namespace Go.Proofs.E
open Go.RowKit Go.Sort Go.Proofs
def sortP (l : List (Int × Int)) : List (Int × Int) := l.mergeSort fun x y => !(ltOf ordI) y x
theorem sortP_perm (l : List (Int × Int)) : (sortP l).Perm l := List.mergeSort_perm l _
theorem sortP_len (l : List (Int × Int)) : (sortP l).length = l.length := by simp [sortP]
theorem cmpLays (blk off size : Nat) (w : World) : CmpLays Try.prog 23 #[] pntE.enc 2 ordI blk off size w :=
  fun _ _ _ _ x y => (porder_ok x y _).mono fun _ _ ⟨he, hf⟩ => ⟨he, frm_grow hf⟩
theorem psort_some (v : Value) (l : List (Int × Int)) (w : World) (hr : (ownR v 30 pntE l).ok w) (hl : l.length ≤ 1000000) (hn : l ≠ []) : Calls Try.prog 22 #[v, .func (.func 23) #[] #[]] w fun e w' => ∃ x : Unit, e = .returned (.tuple #[]) ∧ True ∧ Post (fun b => v.ownBlock = some b) [ownR v 30 pntE (sortP l)] w w' := by
  have hown : w.ownsRow 0 30 2 v l.length (pntE.flat l) := hr
  rcases hown.2 with ⟨hv, h0⟩ | ⟨g, cap, cur, hv, hbase, hgh, hcap, hcm, hcs, htake⟩
  · exact absurd (List.eq_nil_of_length_eq_zero h0) hn
  · have htake : cur.toList.take (pntE.flat l).length = pntE.flat l := by rw [Enc.flat_length]; exact htake
    have hlt : g < w.heap.size := (Array.getElem?_eq_some_iff.1 hgh).1
    subst hv
    have hH : HoldsK pntE.enc 2 w g 0 l.toArray := by
      unfold HoldsK
      rw [show (2 : Nat) = pntE.sz from rfl, flat_eq]
      exact holdsV hgh htake
    have h := AnyQ.slices_SortFunc (P := Try.prog) Try.sortPoints 2 Try.isAgg30 Try.sizeOf30 pntE.enc (fun _ => rfl) (fun x u hu => pntE.one x u hu) ordI swo_ord 23 #[] g 0 cap l.toArray w Try.call23 (cmpLays g 0 l.toArray.size w) hH hlt (by simp; omega)
    change Calls Try.prog 22 _ _ _ at h
    rw [show l.toArray.size = l.length by simp] at h
    refine h.mono ?_
    rintro e w' ⟨rfl, d', n, os, hp, hs, rfl⟩
    have hd : d'.toList = sortP l := by
      have := sorted_unique_holds swo_ord tot_ord l.toArray d' (by simpa using hp) (by simpa using hs)
      rw [this]; simp [sortP]
    have hd2 : d' = (sortP l).toArray := by rw [← hd]
    have hlen := sortP_len l
    subst hd2
    have hw : sortWorldK pntE.enc 2 w g 0 n (sortP l).toArray os = grow (putRow id (Sort.ahead w n) g 0 (pntE.flat (sortP l)).toArray) os := by
      unfold sortWorldK putRowK
      rw [show (2 : Nat) = pntE.sz from rfl, flat_eq]
    rw [hw]
    have hf : Frm (fun b => (Value.slice (some ⟨g, 0, none⟩) l.length cap).ownBlock = some b) w (grow (putRow id (Sort.ahead w n) g 0 (pntE.flat (sortP l)).toArray) os) := (frmV _).mono (fun i _ hi => by simp [Value.ownBlock, hi])
    refine ⟨(), rfl, trivial, hf, ⟨fun r hr' => ?_, by simp⟩, fun r hr' b hb => ?_⟩
    · simp only [List.mem_singleton] at hr'
      subst hr'
      show World.ownsRow _ 0 30 2 _ (sortP l).length (pntE.flat (sortP l))
      have hfl : (pntE.flat (sortP l)).length = (pntE.flat l).length := by rw [Enc.flat_length, Enc.flat_length, hlen]
      refine ⟨by rw [Enc.flat_length]; rfl, .inr ⟨g, cap, _, by rw [hlen], Nat.zero_le _, heapV _ hgh, by rw [hlen]; exact hcap, hcm, by simp [putCells, hcs], ?_⟩⟩
      have := takeV cur (pntE.flat (sortP l)) (by
        have h1 := congrArg List.length htake
        rw [List.length_take] at h1
        rw [hfl]; simp at h1 ⊢; omega)
      rw [Enc.flat_length] at this
      exact this
    · simp only [List.mem_singleton] at hr'
      subst hr'
      exact .inl (hb.resolve_right (fun h => h))
end Go.Proofs.E
