/- What the arguments of the laws of calls are. -/
import Derived.Test.YtgekiiildobfkaaF2
import Derived.Test.YtgekiiildobfkaaE21
import Derived.Test.YtgekiiildobfkaaC1
set_option linter.unusedVariables false
set_option linter.unusedSimpArgs false
namespace Go.Proofs.E
open Go.ChangeShapes Go.WideShapes Go.ChangeAt Go.RowKit Go.Deep
section
variable {H : Type} {enc : TypeId × Value → H} {P : Program} {W : World}
theorem trod_fldsM {t : TypeId} {fs : Array Field} {cs : List Value} {n base m : Nat} {sp : Nat → Bool} {hd : Bool} {y : DataW H × List MemPlace} (ht : P.underlying t = some (.struct fs)) (hm : P.cellsOf t = m)
    (h : DataW.trod enc P W base sp hd n t cs = some y) : cs.length = m ∧ ∃ k, ∀ (i : Nat) (f : Field) (off c : Nat), fs[i]? = some f → f.offset = off → P.cellsOf f.type = c → ∃ z, DataW.trod enc P W base sp hd k f.type ((cs.drop off).take c) = some z := by
  obtain ⟨xs, k, _, _, hl, hsz, hf⟩ := DataW.trod_struct ht h
  refine ⟨hl.trans hm, k, fun i f off c hi ho hc => ?_⟩
  subst ho; subst hc
  have hi' : i < fs.size := (Array.getElem?_eq_some_iff.1 hi).1
  exact ⟨xs[i]'(by omega), by rw [hf i f hi]; exact List.getElem?_eq_getElem (by omega)⟩
theorem sub_get {cs : List Value} {o m j : Nat} {v : Value} (h : ((cs.drop o).take m)[j]? = some v) : cs[o + j]? = some v := by
  rw [List.getElem?_take] at h
  split at h
  · rwa [List.getElem?_drop] at h
  · cases h
theorem cell_any {cs : List Value} {o : Nat} {t e : TypeId} {n base : Nat} {sp : Nat → Bool} {hd : Bool} {y : DataW H × List MemPlace} (ht : P.underlying t = some (.slice e)) (h : DataW.trod enc P W base sp hd n t ((cs.drop o).take 1) = some y) : ∃ v, cs[o]? = some v ∧ (∃ a l c, v = .slice a l c) ∧ DataW.trod enc P W base sp hd n t [v] = some y := by
  have hs : ∃ v, (cs.drop o).take 1 = [v] ∧ ∃ a l c, v = .slice a l c := by
    rcases open_slice ht h with ⟨h0, _⟩ | ⟨a, len, cap, m, n, D, Pl, h0, _⟩
    · exact ⟨_, h0, _, _, _, rfl⟩
    · exact ⟨_, h0, _, _, _, rfl⟩
  obtain ⟨v, hv, hf⟩ := hs
  refine ⟨v, ?_, hf, by rw [hv] at h; exact h⟩
  have : ((cs.drop o).take 1)[0]? = some v := by rw [hv]; rfl
  exact sub_get this
end
theorem elAtt {H : Type} {enc : TypeId × Value → H} {W : World} (n : Nat) (cs : List Value) (y : DataW H × List MemPlace) (h : DataW.trod enc Try.prog W 0 (fun _ => true) true n 65 cs = some y) : ∃ x : Att, cs = attE.enc x ∧ In64 x.bk ∧ In64 x.inc ∧ In64 x.ses ∧ In64 x.seq ∧ In64 x.at' := by
  obtain ⟨hlhf0, khf0, hf0⟩ := trod_fldsM Try.underlying65 (m := 8) (by kernel_rfl) h
  obtain ⟨yg1, g1⟩ := hf0 0 _ 0 1 rfl rfl (by kernel_rfl)
  obtain ⟨a2, ea2, wa2⟩ := cell_int Try.underlying3 g1
  obtain ⟨yg2, g2⟩ := hf0 1 _ 1 1 rfl rfl (by kernel_rfl)
  obtain ⟨a3, ea3, wa3⟩ := cell_int Try.underlying3 g2
  obtain ⟨yg3, g3⟩ := hf0 2 _ 2 1 rfl rfl (by kernel_rfl)
  obtain ⟨a4, ea4, wa4⟩ := cell_int Try.underlying3 g3
  obtain ⟨yg4, g4⟩ := hf0 3 _ 3 1 rfl rfl (by kernel_rfl)
  obtain ⟨a5, ea5, wa5⟩ := cell_int Try.underlying3 g4
  obtain ⟨yg5, g5⟩ := hf0 4 _ 4 1 rfl rfl (by kernel_rfl)
  obtain ⟨a6, ea6, wa6⟩ := cell_int Try.underlying3 g5
  obtain ⟨yg6, g6⟩ := hf0 5 _ 5 1 rfl rfl (by kernel_rfl)
  obtain ⟨a7, ea7⟩ := cell_bool Try.underlying4 g6
  obtain ⟨yg7, g7⟩ := hf0 6 _ 6 1 rfl rfl (by kernel_rfl)
  obtain ⟨a8, ea8⟩ := cell_bool Try.underlying4 g7
  obtain ⟨yg8, g8⟩ := hf0 7 _ 7 1 rfl rfl (by kernel_rfl)
  obtain ⟨a9, ea9⟩ := cell_bool Try.underlying4 g8
  match cs, hlhf0 with
  | [u0, u1, u2, u3, u4, u5, u6, u7], _ =>
    simp at ea2 ea3 ea4 ea5 ea6 ea7 ea8 ea9
    refine ⟨⟨a2, a3, a4, a5, a6, a7, a8, a9⟩, by simp only [ea2, ea3, ea4, ea5, ea6, ea7, ea8, ea9]; rfl, ⟨wf64 wa2, wf64 wa3, wf64 wa4, wf64 wa5, wf64 wa6⟩⟩
theorem elCSet {H : Type} {enc : TypeId × Value → H} {W : World} (n : Nat) (cs : List Value) (y : DataW H × List MemPlace) (h : DataW.trod enc Try.prog W 0 (fun _ => true) true n 60 cs = some y) : ∃ x : CSet, cs = csE x ∧ True := by
  obtain ⟨hlhf0, khf0, hf0⟩ := trod_fldsM Try.underlying60 (m := 8) (by kernel_rfl) h
  obtain ⟨yg1, g1⟩ := hf0 0 _ 0 1 rfl rfl (by kernel_rfl)
  obtain ⟨a2, ea2, wa2⟩ := cell_int Try.underlying3 g1
  obtain ⟨yg2, g2⟩ := hf0 1 _ 1 1 rfl rfl (by kernel_rfl)
  obtain ⟨a3, ea3, wa3⟩ := cell_int Try.underlying3 g2
  obtain ⟨yg3, g3⟩ := hf0 2 _ 2 1 rfl rfl (by kernel_rfl)
  obtain ⟨a4, ea4, wa4⟩ := cell_int Try.underlying3 g3
  obtain ⟨yg4, g4⟩ := hf0 3 _ 3 1 rfl rfl (by kernel_rfl)
  obtain ⟨a5, ea5, wa5⟩ := cell_int Try.underlying3 g4
  obtain ⟨yg5, g5⟩ := hf0 4 _ 4 1 rfl rfl (by kernel_rfl)
  obtain ⟨a6, ea6, wa6⟩ := cell_int Try.underlying3 g5
  obtain ⟨yg6, g6⟩ := hf0 5 _ 5 3 rfl rfl (by kernel_rfl)
  obtain ⟨hlhf7, khf7, hf7⟩ := trod_fldsM Try.underlying58 (m := 3) (by kernel_rfl) g6
  obtain ⟨yg8, g8⟩ := hf7 0 _ 0 1 rfl rfl (by kernel_rfl)
  obtain ⟨a9, ea9, wa9⟩ := cell_int Try.underlying3 g8
  obtain ⟨yg9, g9⟩ := hf7 1 _ 1 1 rfl rfl (by kernel_rfl)
  obtain ⟨a10, ea10, wa10⟩ := cell_int Try.underlying3 g9
  obtain ⟨yg10, g10⟩ := hf7 2 _ 2 1 rfl rfl (by kernel_rfl)
  obtain ⟨a11, ea11, wa11⟩ := cell_int Try.underlying3 g10
  replace ea9 := sub_get ea9
  replace ea10 := sub_get ea10
  replace ea11 := sub_get ea11
  match cs, hlhf0 with
  | [u0, u1, u2, u3, u4, u5, u6, u7], _ =>
    simp at ea2 ea3 ea4 ea5 ea6 ea9 ea10 ea11
    refine ⟨⟨a2, a3, a4, a5, a6, ⟨a9, a10, a11⟩⟩, by simp only [ea2, ea3, ea4, ea5, ea6, ea9, ea10, ea11]; rfl, trivial⟩
theorem elCall {H : Type} {enc : TypeId × Value → H} {W : World} (n : Nat) (cs : List Value) (y : DataW H × List MemPlace) (h : DataW.trod enc Try.prog W 0 (fun _ => true) true n 56 cs = some y) : ∃ x : CallH × Value × List Att, cs = callE x.1 x.2.1 ∧ (rdR x.2.1 attE x.2.2).ok W := by
  obtain ⟨hlhf0, khf0, hf0⟩ := trod_fldsM Try.underlying56 (m := 10) (by kernel_rfl) h
  obtain ⟨yg1, g1⟩ := hf0 0 _ 0 1 rfl rfl (by kernel_rfl)
  obtain ⟨a2, ea2, wa2⟩ := cell_int Try.underlying3 g1
  obtain ⟨yg2, g2⟩ := hf0 1 _ 1 4 rfl rfl (by kernel_rfl)
  obtain ⟨hlhf3, khf3, hf3⟩ := trod_fldsM Try.underlying53 (m := 4) (by kernel_rfl) g2
  obtain ⟨yg4, g4⟩ := hf3 0 _ 0 1 rfl rfl (by kernel_rfl)
  obtain ⟨a5, ea5, wa5⟩ := cell_int Try.underlying3 g4
  obtain ⟨yg5, g5⟩ := hf3 1 _ 1 1 rfl rfl (by kernel_rfl)
  obtain ⟨a6, ea6, wa6⟩ := cell_int Try.underlying3 g5
  obtain ⟨yg6, g6⟩ := hf3 2 _ 2 1 rfl rfl (by kernel_rfl)
  obtain ⟨a7, ea7, wa7⟩ := cell_int Try.underlying3 g6
  obtain ⟨yg7, g7⟩ := hf3 3 _ 3 1 rfl rfl (by kernel_rfl)
  obtain ⟨a8, ea8, wa8⟩ := cell_int Try.underlying3 g7
  replace ea5 := sub_get ea5
  replace ea6 := sub_get ea6
  replace ea7 := sub_get ea7
  replace ea8 := sub_get ea8
  obtain ⟨yg8, g8⟩ := hf0 2 _ 5 1 rfl rfl (by kernel_rfl)
  obtain ⟨a9, ea9⟩ := cell_bool Try.underlying4 g8
  obtain ⟨yg9, g9⟩ := hf0 3 _ 6 1 rfl rfl (by kernel_rfl)
  obtain ⟨a10, ea10, wa10⟩ := cell_int Try.underlying3 g9
  obtain ⟨yg10, g10⟩ := hf0 4 _ 7 1 rfl rfl (by kernel_rfl)
  obtain ⟨a11, ea11, wa11⟩ := cell_int Try.underlying3 g10
  obtain ⟨yg11, g11⟩ := hf0 5 _ 8 1 rfl rfl (by kernel_rfl)
  obtain ⟨a12, ea12, wa12⟩ := cell_int Try.underlying3 g11
  obtain ⟨yg12, g12⟩ := hf0 6 _ 9 1 rfl rfl (by kernel_rfl)
  obtain ⟨a13, ea13, fa13, qa13⟩ := cell_any Try.underlying54 g12
  obtain ⟨l, hr, hgl⟩ := open_rd (E := attE) Try.underlying54 (by kernel_rfl) elAtt fa13 ⟨_, by simpa [Value.cells] using (by obtain ⟨_, _, _, rfl⟩ := fa13; exact qa13)⟩
  match cs, hlhf0 with
  | [u0, u1, u2, u3, u4, u5, u6, u7, u8, u9], _ =>
    simp at ea2 ea5 ea6 ea7 ea8 ea9 ea10 ea11 ea12 ea13
    refine ⟨(⟨a2, ⟨a5, a6, a7, a8⟩, a9, a10, a11, a12⟩, a13, l), by simp only [ea2, ea5, ea6, ea7, ea8, ea9, ea10, ea11, ea12, ea13]; rfl, hr⟩
end Go.Proofs.E
