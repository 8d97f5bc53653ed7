/- Part of the proof: what the functions of this program compute. -/
import Derived.Test.YtgekiiildobfkaaT9
set_option linter.unusedVariables false
set_option linter.unusedSimpArgs false
namespace Go.Proofs.E
open Go.RowKit
theorem sk1 {i : Nat} (h : i ≤ 1000000) : IntKind.i64.wrap (IntKind.i64.wrap (2 * (i : Int)) + 1) = ((2 * i + 1 : Nat) : Int) := by
  rw [w64 (x := 2 * (i : Int)) (by omega), w64 (by omega)]; omega
theorem sk2 {i : Nat} (h : i ≤ 1000000) : IntKind.i64.wrap (((2 * i + 1 : Nat) : Int) + 1) = ((2 * i + 1 + 1 : Nat) : Int) := by
  rw [w64 (by omega)]; omega
theorem sk3 {i : Nat} (h : i ≤ 1000000) : IntKind.i64.wrap (((2 * i + 1 : Nat) : Int) + 1) = ((2 * i + 1 + 1 : Nat) : Int) := sk2 h
theorem sk4 {i n : Nat} (h : IntKind.i64.wrap (((2 * i + 1 : Nat) : Int) + 1) < (n : Int)) (hb : i ≤ 1000000) : 2 * i + 1 + 1 < n := by
  rw [sk2 hb] at h; omega
theorem sk5 {i n : Nat} {c : Bool} (h : (decide (IntKind.i64.wrap (((2 * i + 1 : Nat) : Int) + 1) < (n : Int)) && c) = true) (hb : i ≤ 1000000) : 2 * i + 1 + 1 < n :=
  sk4 (of_decide_eq_true (Bool.and_eq_true_iff.1 h).1) hb
def kid (l : List (Int × Int)) (i : Nat) : Nat := if decide (2 * i + 1 + 1 < l.length) && decide (ordI l[2 * i + 1 + 1]! l[2 * i + 1]! < 0) then 2 * i + 1 + 1 else 2 * i + 1
theorem kid_le (l : List (Int × Int)) (i : Nat) : i < kid l i := by unfold kid; split <;> omega
theorem kid_lt {l : List (Int × Int)} {i : Nat} (h : 2 * i + 1 < l.length) : kid l i < l.length := by
  unfold kid; split
  · rename_i h'
    rw [Bool.and_eq_true, decide_eq_true_eq] at h'
    exact h'.1
  · exact h
def sinkH (l : List (Int × Int)) (i : Nat) : List (Int × Int) :=
  if h : 2 * i + 1 < l.length then (if ordI l[kid l i]! l[i]! < 0 then sinkH (swp l i (kid l i)) (kid l i) else l) else l
  termination_by l.length - i
  decreasing_by
    have h1 := kid_le l i
    have h2 := kid_lt h
    simp only [swp, List.length_set]
    omega
theorem sinkH_end {l : List (Int × Int)} {i : Nat} (h : ¬ 2 * i + 1 < l.length) : sinkH l i = l := by rw [sinkH, dif_neg h]
theorem sinkH_stop {l : List (Int × Int)} {i k : Nat} (h : 2 * i + 1 < l.length) (hk : kid l i = k) (hn : ¬ ordI l[k]! l[i]! < 0) : sinkH l i = l := by
  subst hk; rw [sinkH, dif_pos h, if_neg hn]
theorem sinkH_step {l : List (Int × Int)} {i k : Nat} (h : 2 * i + 1 < l.length) (hk : kid l i = k) (hn : ordI l[k]! l[i]! < 0) : sinkH l i = sinkH (swp l i k) k := by
  subst hk; rw [sinkH, dif_pos h, if_pos hn]
theorem kid_r {l : List (Int × Int)} {i : Nat} (h : (decide (IntKind.i64.wrap (((2 * i + 1 : Nat) : Int) + 1) < (l.length : Int)) && decide (ordI l[2 * i + 1 + 1]! l[2 * i + 1]! < 0)) = true) (hb : i ≤ 1000000) : kid l i = 2 * i + 1 + 1 := by
  rw [sk2 hb] at h
  unfold kid
  rw [if_pos]
  rw [Bool.and_eq_true, decide_eq_true_eq] at h ⊢
  exact ⟨by omega, h.2⟩
theorem kid_l {l : List (Int × Int)} {i : Nat} (h : (decide (IntKind.i64.wrap (((2 * i + 1 : Nat) : Int) + 1) < (l.length : Int)) && decide (ordI l[2 * i + 1 + 1]! l[2 * i + 1]! < 0)) = false) (hb : i ≤ 1000000) : kid l i = 2 * i + 1 := by
  rw [sk2 hb] at h
  unfold kid
  rw [if_neg]
  intro h'
  rw [Bool.and_eq_true, decide_eq_true_eq] at h'
  rw [h'.2, Bool.and_true, decide_eq_false_iff_not] at h
  omega
def popH (l : List (Int × Int)) : List (Int × Int) := sinkH ((l.set 0 l[l.length - 1]!).take (l.length - 1)) 0
theorem sink_ok (b : Nat) (v : Value) (l : List (Int × Int)) (w0 : World) (hM : Mem [blkR b [v] 126, ownR v 25 timE l] w0) (hl : l.length ≤ 1000000) : Calls Try.prog 115 #[.pointer (some ⟨b, 0, none⟩), .int .i64 0] w0 fun e w' => ∃ x : Unit, e = .returned (.tuple #[]) ∧ True ∧ Post (fun c => c = b ∨ v.ownBlock = some c) [blkR b [v] 126, ownR v 25 timE (sinkH l 0)] w0 w' := by
  refine enter (μ := [blkR b [v] 126, ownR v 25 timE l]) (S := (fun c => c = b ∨ v.ownBlock = some c)) (vs := [.pointer (some ⟨b, 0, none⟩), .int .i64 0]) Try.func115 rfl Try.ntmps115 rfl hM (by simp [ownR, blkR]; intro c h; exact .inr h) (fun a hC => ?_)
  refine W.block ?_
  refine W.loop (fun (s : (List (Int × Int)) × Nat) a w' => match s with | ⟨l', i⟩ => (l'.length = l.length) ∧ (i ≤ 1000000) ∧ (sinkH l' i = sinkH l 0) ∧ Conf 46 (fun c => c = b ∨ v.ownBlock = some c) w0 [(1, (none, .int .i64 (i : Int))), (0, (none, .pointer (some ⟨b, 0, none⟩)))] [blkR b [v] 126, ownR v 25 timE l'] a w') (fun (s : (List (Int × Int)) × Nat) => match s with | ⟨l', i⟩ => l.length - i) (l, 0) ?_ ?_
  · exact ⟨rfl, by omega, rfl, hC.keep ⟨rfl, rfl, trivial⟩⟩
  · rintro ⟨l', i⟩ a w ⟨hn, hi, hp, hC⟩
    refine W.block ?_
    refine W.seqk fun k1 hk1 => ?_
    refine W.region ?_
    refine L.pu hC rfl rfl (fun _ => All.nil) rfl rfl ?_; clear hC a; intro a hC
    refine L.pu hC rfl rfl (fun _ => All.nil) rfl rfl ?_; clear hC a; intro a hC
    refine L.pu hC rfl rfl (fun _ => All.nil) rfl rfl ?_; clear hC a; intro a hC
    refine L.pu hC rfl rfl (fun _ => All.nil) rfl rfl ?_; clear hC a; intro a hC
    replace hC := hC.slot (d := 4) (geti rfl (sk1 (by omega)))
    refine L.nil ?_
    refine hk1 _ _ ?_; clear hk1; try clear k1
    refine W.seqk fun k2 hk2 => ?_
    refine W.seqk fun k3 hk3 => ?_
    refine W.region ?_
    refine L.pu hC rfl rfl (fun _ => All.nil) rfl rfl ?_; clear hC a; intro a hC
    refine L.pu hC rfl rfl (fun _ => All.nil) rfl rfl ?_; clear hC a; intro a hC
    refine L.pu hC rfl rfl (fun _ => All.nil) rfl rfl ?_; clear hC a; intro a hC
    refine L.ld hC rfl rfl rfl (fun _ => All.nil) m0 Try.isAgg126 rfl rfl rfl ?_; clear hC a; intro a hC
    refine L.len hC rfl rfl rfl (fun _ => All.nil) (own_form (hC.at m1)) Try.underlying126 rfl rfl ?_; clear hC a; intro a hC
    refine L.pu hC rfl rfl (fun _ => All.nil) rfl rfl ?_; clear hC a; intro a hC
    refine L.nil ?_
    refine hk3 _ _ ?_; clear hk3; try clear k3
    refine W.cond hC rfl (fun h1 => ?_) (fun h1 => ?_)
    ·
      have h1' := of_decide_eq_true h1
      refine W.ret ?_
      refine ret0 hC rfl ?_
      exact ⟨(), rfl, trivial, by rw [← hp, sinkH_end (by omega)]; exact hC.toPost (by simp [ownR, blkR])⟩
    ·
      have h1' := of_decide_eq_false h1
      refine W.skip ?_
      refine hk2 _ _ ?_; clear hk2; try clear k2
      refine W.seqk fun k4 hk4 => ?_
      refine W.seqk fun k5 hk5 => ?_
      refine W.region ?_
      refine L.pu hC rfl rfl (fun _ => All.nil) rfl rfl ?_; clear hC a; intro a hC
      refine L.pu hC rfl rfl (fun _ => All.nil) rfl rfl ?_; clear hC a; intro a hC
      refine L.pu hC rfl rfl (fun _ => All.nil) rfl rfl ?_; clear hC a; intro a hC
      refine L.pu hC rfl rfl (fun _ => All.nil) rfl rfl ?_; clear hC a; intro a hC
      refine L.ld hC rfl rfl rfl (fun _ => All.nil) m0 Try.isAgg126 rfl rfl rfl ?_; clear hC a; intro a hC
      refine L.len hC rfl rfl rfl (fun _ => All.nil) (own_form (hC.at m1)) Try.underlying126 rfl rfl ?_; clear hC a; intro a hC
      refine L.pu hC rfl rfl (fun _ => All.nil) rfl rfl ?_; clear hC a; intro a hC
      refine L.pu hC rfl rfl (fun _ => All.nil) rfl rfl ?_; clear hC a; intro a hC
      refine L.pu hC rfl rfl (fun _ => All.nil) rfl rfl ?_; clear hC a; intro a hC
      refine L.pu hC rfl rfl (fun hg => by simp only [Gt, Bool.and_eq_true] at hg; simp only [All, List.cons_append, List.nil_append, List.append_nil, List.mem_cons, List.not_mem_nil, or_false, forall_eq_or_imp, forall_eq, Bool.and_eq_true, hg, Bool.not_false, Bool.not_true, and_self]) rfl rfl ?_; clear hC a; intro a hC
      refine L.ld hC rfl rfl rfl (fun hg => by simp only [Gt, Bool.and_eq_true] at hg; simp only [All, List.cons_append, List.nil_append, List.append_nil, List.mem_cons, List.not_mem_nil, or_false, forall_eq_or_imp, forall_eq, Bool.and_eq_true, hg, Bool.not_false, Bool.not_true, and_self]) m0 Try.isAgg126 rfl rfl rfl ?_; clear hC a; intro a hC
      refine L.pu hC rfl rfl (fun _ => All.nil) rfl rfl ?_; clear hC a; intro a hC
      refine L.pu hC rfl rfl (fun hg => by simp only [Gt, Bool.and_eq_true] at hg; simp only [All, List.cons_append, List.nil_append, List.append_nil, List.mem_cons, List.not_mem_nil, or_false, forall_eq_or_imp, forall_eq, Bool.and_eq_true, hg, Bool.not_false, Bool.not_true, and_self]) rfl rfl ?_; clear hC a; intro a hC
      refine L.pu hC rfl rfl (fun _ => All.nil) rfl rfl ?_; clear hC a; intro a hC
      refine L.call hC rfl rfl Try.call75 rfl (fun hg => by simp only [Gt, Bool.and_eq_true] at hg; simp only [All, List.cons_append, List.nil_append, List.append_nil, List.mem_cons, List.not_mem_nil, or_false, forall_eq_or_imp, forall_eq, Bool.and_eq_true, hg, Bool.not_false, Bool.not_true, and_self]) (fun hg => ahead_ok _ _ _ _ (2 * i + 1 + 1) (2 * i + 1) (sk3 (by omega)) rfl (by have := sk4 (of_decide_eq_true hg) (by omega); omega) (by omega) _ (own_rd (hC.at m1))) rfl rfl ?_; clear hC a; intro a w hF hC
      refine L.and hC rfl rfl rfl rfl (fun _ => All.nil) (fun _ hp => by simp only [All, List.cons_append, List.nil_append, List.append_nil, List.mem_cons, List.not_mem_nil, or_false, forall_eq_or_imp, forall_eq, Bool.and_eq_true, hp, Bool.not_false, Bool.not_true, and_self]) rfl rfl ?_; clear hC a; intro a hC
      refine L.nil ?_
      refine hk5 _ _ ?_; clear hk5; try clear k5
      refine W.cond hC rfl (fun h2 => ?_) (fun h2 => ?_)
      ·
        have h2' := sk5 h2 (by omega)
        refine W.region ?_
        refine L.pu hC rfl rfl (fun _ => All.nil) rfl rfl ?_; clear hC a; intro a hC
        refine L.pu hC rfl rfl (fun _ => All.nil) rfl rfl ?_; clear hC a; intro a hC
        refine L.pu hC rfl rfl (fun _ => All.nil) rfl rfl ?_; clear hC a; intro a hC
        replace hC := hC.slot (d := 4) (geti rfl (sk2 (by omega)))
        refine L.nil ?_
        refine hk4 _ _ ?_; clear hk4; try clear k4
        refine W.seqk fun k6 hk6 => ?_
        refine W.seqk fun k7 hk7 => ?_
        refine W.region ?_
        refine L.pu hC rfl rfl (fun _ => All.nil) rfl rfl ?_; clear hC a; intro a hC
        refine L.pu hC rfl rfl (fun _ => All.nil) rfl rfl ?_; clear hC a; intro a hC
        refine L.ld hC rfl rfl rfl (fun _ => All.nil) m0 Try.isAgg126 rfl rfl rfl ?_; clear hC a; intro a hC
        refine L.pu hC rfl rfl (fun _ => All.nil) rfl rfl ?_; clear hC a; intro a hC
        refine L.pu hC rfl rfl (fun _ => All.nil) rfl rfl ?_; clear hC a; intro a hC
        refine L.call hC rfl rfl Try.call75 rfl (fun _ => All.nil) (fun hg => ahead_ok _ _ _ _ (2 * i + 1 + 1) i rfl rfl (by omega) (by omega) _ (own_rd (hC.at m1))) rfl rfl ?_; clear hC a; intro a w hF hC
        refine L.pu hC rfl rfl (fun _ => All.nil) rfl rfl ?_; clear hC a; intro a hC
        refine L.nil ?_
        refine hk7 _ _ ?_; clear hk7; try clear k7
        refine W.cond hC rfl (fun h3 => ?_) (fun h3 => ?_)
        ·
          refine W.ret ?_
          refine ret0 hC rfl ?_
          exact ⟨(), rfl, trivial, by rw [← hp, sinkH_stop (by omega) (kid_r h2 hi) (by simpa using h3)]; exact hC.toPost (by simp [ownR, blkR])⟩
        ·
          refine W.skip ?_
          refine hk6 _ _ ?_; clear hk6; try clear k6
          refine W.seqk fun k8 hk8 => ?_
          refine W.region ?_
          refine L.pu hC rfl rfl (fun _ => All.nil) rfl rfl ?_; clear hC a; intro a hC
          refine L.pu hC rfl rfl (fun _ => All.nil) rfl rfl ?_; clear hC a; intro a hC
          refine L.ld hC rfl rfl rfl (fun _ => All.nil) m0 Try.isAgg126 rfl rfl rfl ?_; clear hC a; intro a hC
          refine L.pu hC rfl rfl (fun _ => All.nil) rfl rfl ?_; clear hC a; intro a hC
          refine L.pu hC rfl rfl (fun _ => All.nil) rfl rfl ?_; clear hC a; intro a hC
          replace hC := hC.fr1
          refine L.callg [_] hC rfl rfl Try.call114 rfl (swap_ok _ _ _ _ i (2 * i + 1 + 1) rfl rfl (by omega) (by omega) _ (hC.at m0)) (fun b h => ⟨_, m0, h⟩) rfl rfl ?_; clear hC a; intro _ a w hQ hC
          refine L.nil ?_
          refine hk8 _ _ ?_; clear hk8; try clear k8
          refine W.region ?_
          refine L.pu hC rfl rfl (fun _ => All.nil) rfl rfl ?_; clear hC a; intro a hC
          refine L.pu hC rfl rfl (fun _ => All.nil) rfl rfl ?_; clear hC a; intro a hC
          refine L.nil ?_
          replace hC := hC.fr1
          exact ⟨(swp l' i (2 * i + 1 + 1), 2 * i + 1 + 1), ⟨by simp only [swp, List.length_set]; omega, by omega, by rw [← hp]; exact (sinkH_step (by omega) (kid_r h2 hi) (by simpa using h3)).symm, hC.keep ⟨rfl, rfl, trivial⟩⟩, by first | omega | (dsimp only; omega)⟩
      ·
        refine W.skip ?_
        refine hk4 _ _ ?_; clear hk4; try clear k4
        refine W.seqk fun k9 hk9 => ?_
        refine W.seqk fun k10 hk10 => ?_
        refine W.region ?_
        refine L.pu hC rfl rfl (fun _ => All.nil) rfl rfl ?_; clear hC a; intro a hC
        refine L.pu hC rfl rfl (fun _ => All.nil) rfl rfl ?_; clear hC a; intro a hC
        refine L.ld hC rfl rfl rfl (fun _ => All.nil) m0 Try.isAgg126 rfl rfl rfl ?_; clear hC a; intro a hC
        refine L.pu hC rfl rfl (fun _ => All.nil) rfl rfl ?_; clear hC a; intro a hC
        refine L.pu hC rfl rfl (fun _ => All.nil) rfl rfl ?_; clear hC a; intro a hC
        refine L.call hC rfl rfl Try.call75 rfl (fun _ => All.nil) (fun hg => ahead_ok _ _ _ _ (2 * i + 1) i rfl rfl (by omega) (by omega) _ (own_rd (hC.at m1))) rfl rfl ?_; clear hC a; intro a w hF hC
        refine L.pu hC rfl rfl (fun _ => All.nil) rfl rfl ?_; clear hC a; intro a hC
        refine L.nil ?_
        refine hk10 _ _ ?_; clear hk10; try clear k10
        refine W.cond hC rfl (fun h4 => ?_) (fun h4 => ?_)
        ·
          refine W.ret ?_
          refine ret0 hC rfl ?_
          exact ⟨(), rfl, trivial, by rw [← hp, sinkH_stop (by omega) (kid_l h2 hi) (by simpa using h4)]; exact hC.toPost (by simp [ownR, blkR])⟩
        ·
          refine W.skip ?_
          refine hk9 _ _ ?_; clear hk9; try clear k9
          refine W.seqk fun k11 hk11 => ?_
          refine W.region ?_
          refine L.pu hC rfl rfl (fun _ => All.nil) rfl rfl ?_; clear hC a; intro a hC
          refine L.pu hC rfl rfl (fun _ => All.nil) rfl rfl ?_; clear hC a; intro a hC
          refine L.ld hC rfl rfl rfl (fun _ => All.nil) m0 Try.isAgg126 rfl rfl rfl ?_; clear hC a; intro a hC
          refine L.pu hC rfl rfl (fun _ => All.nil) rfl rfl ?_; clear hC a; intro a hC
          refine L.pu hC rfl rfl (fun _ => All.nil) rfl rfl ?_; clear hC a; intro a hC
          replace hC := hC.fr1
          refine L.callg [_] hC rfl rfl Try.call114 rfl (swap_ok _ _ _ _ i (2 * i + 1) rfl rfl (by omega) (by omega) _ (hC.at m0)) (fun b h => ⟨_, m0, h⟩) rfl rfl ?_; clear hC a; intro _ a w hQ hC
          refine L.nil ?_
          refine hk11 _ _ ?_; clear hk11; try clear k11
          refine W.region ?_
          refine L.pu hC rfl rfl (fun _ => All.nil) rfl rfl ?_; clear hC a; intro a hC
          refine L.pu hC rfl rfl (fun _ => All.nil) rfl rfl ?_; clear hC a; intro a hC
          refine L.nil ?_
          replace hC := hC.fr1
          exact ⟨(swp l' i (2 * i + 1), 2 * i + 1), ⟨by simp only [swp, List.length_set]; omega, by omega, by rw [← hp]; exact (sinkH_step (by omega) (kid_l h2 hi) (by simpa using h4)).symm, hC.keep ⟨rfl, rfl, trivial⟩⟩, by first | omega | (dsimp only; omega)⟩

end Go.Proofs.E
