/- SubsetApart, walked. -/
import Derived.Test.YtgekiiildobfkaaS9
set_option linter.unusedVariables false
set_option linter.unusedSimpArgs false
namespace Go.Proofs.E
open Go.RowKit
theorem and_r {x y : Bool} (h : (x && y) = true) : y = true := by cases x <;> simp_all
theorem and_lt {x y : Int} {z : Bool} (h : (decide (x < y) && z) = true) : x < y := by simp only [Bool.and_eq_true, decide_eq_true_eq] at h; exact h.1
theorem apart_bad {ids : List Int} {client size seed : Int} : (((ofR ids client size seed).2 == 0) || (((ofR ids client size seed).1.length : Int) == 0)) = true := by
  by_cases h : ((ofR ids client size seed).2 != 0) = true
  · rw [of_bad h, Bool.or_true]
  · have : (ofR ids client size seed).2 = 0 := by simpa using h
    rw [this]; rfl
theorem apart_in {x y n s a b : Int} (h : ((((x != 0) || (y != 0)) || decide (n ≤ s)) || (a == b)) = false) : (x != 0) = false ∧ (y != 0) = false ∧ s < n ∧ a ≠ b := by
  simp only [Bool.or_eq_false_iff, decide_eq_false_iff_not] at h
  obtain ⟨⟨⟨h1, h2⟩, h3⟩, h4⟩ := h
  exact ⟨h1, h2, by omega, by simpa using h4⟩
theorem apart13_law (v : Value) (ids : List Int) (ca cb size seed : Int) (w0 : World) (hr : (rdR v intE ids).ok w0) : Calls Try.prog 10 #[v, .int .i64 ca, .int .i64 cb, .int .i64 size, .int .u64 seed] w0 fun e w' => e = .returned (.bool true) ∧ Frm Nob w0 w' := by
  have hlen := rd_lt hr
  obtain ⟨q, hq⟩ : ∃ x, (ofR ids ca size seed).1 = x := ⟨_, rfl⟩
  obtain ⟨q2, hq2⟩ : ∃ x, (ofR ids cb size seed).1 = x := ⟨_, rfl⟩
  refine enter (μ := [rdR v intE ids]) (S := Nob) (vs := [v, .int .i64 ca, .int .i64 cb, .int .i64 size, .int .u64 seed]) Try.func10 rfl Try.ntmps10 rfl ⟨by simpa using hr, by simp⟩ (by simp [rdR]) (fun a hC => ?_)
  refine W.seqk fun k1 hk1 => ?_
  refine W.region ?_
  refine L.pu hC rfl rfl (fun _ => All.nil) rfl rfl ?_; clear hC a; intro a hC
  refine L.nil ?_
  refine hk1 _ _ ?_; clear hk1; try clear k1
  refine W.seqk fun k2 hk2 => ?_
  refine W.seqk fun k3 hk3 => ?_
  refine W.region ?_
  refine L.call hC rfl rfl Try.call42 rfl (fun _ => All.nil) (fun hg => alive13_ok _) rfl rfl ?_; clear hC a; intro a w hF hC
  refine L.pu hC rfl rfl (fun _ => All.nil) rfl rfl ?_; clear hC a; intro a hC
  refine L.nil ?_
  refine hk3 _ _ ?_; clear hk3; try clear k3
  refine W.cond hC rfl (fun h1 => ?_) (fun h1 => ?_)
  ·
    exact absurd h1 (by simp)
  ·
    refine W.skip ?_
    refine hk2 _ _ ?_; clear hk2; try clear k2
    refine W.seqk fun k4 hk4 => ?_
    refine W.region ?_
    refine L.pu hC rfl rfl (fun _ => All.nil) rfl rfl ?_; clear hC a; intro a hC
    refine L.pu hC rfl rfl (fun _ => All.nil) rfl rfl ?_; clear hC a; intro a hC
    refine L.pu hC rfl rfl (fun _ => All.nil) rfl rfl ?_; clear hC a; intro a hC
    refine L.pu hC rfl rfl (fun _ => All.nil) rfl rfl ?_; clear hC a; intro a hC
    refine L.callg [] hC rfl rfl Try.call43 rfl (Of_ok v ids ca size seed _ (hC.at m0)) (fun b h => h.elim) rfl rfl ?_; clear hC a; intro ov a w hQ hC
    rw [hq] at hC
    refine L.pu hC rfl rfl (fun _ => All.nil) rfl rfl ?_; clear hC a; intro a hC
    refine L.pu hC rfl rfl (fun _ => All.nil) rfl rfl ?_; clear hC a; intro a hC
    refine L.pu hC rfl rfl (fun _ => All.nil) rfl rfl ?_; clear hC a; intro a hC
    refine L.pu hC rfl rfl (fun _ => All.nil) rfl rfl ?_; clear hC a; intro a hC
    refine L.pu hC rfl rfl (fun _ => All.nil) rfl rfl ?_; clear hC a; intro a hC
    refine L.nil ?_
    refine hk4 _ _ ?_; clear hk4; try clear k4
    refine W.seqk fun k5 hk5 => ?_
    refine W.region ?_
    refine L.pu hC rfl rfl (fun _ => All.nil) rfl rfl ?_; clear hC a; intro a hC
    refine L.pu hC rfl rfl (fun _ => All.nil) rfl rfl ?_; clear hC a; intro a hC
    refine L.pu hC rfl rfl (fun _ => All.nil) rfl rfl ?_; clear hC a; intro a hC
    refine L.pu hC rfl rfl (fun _ => All.nil) rfl rfl ?_; clear hC a; intro a hC
    refine L.callg [] hC rfl rfl Try.call43 rfl (Of_ok v ids cb size seed _ (hC.at m1)) (fun b h => h.elim) rfl rfl ?_; clear hC a; intro pv a w hQ hC
    rw [hq2] at hC
    refine L.pu hC rfl rfl (fun _ => All.nil) rfl rfl ?_; clear hC a; intro a hC
    refine L.pu hC rfl rfl (fun _ => All.nil) rfl rfl ?_; clear hC a; intro a hC
    refine L.pu hC rfl rfl (fun _ => All.nil) rfl rfl ?_; clear hC a; intro a hC
    refine L.pu hC rfl rfl (fun _ => All.nil) rfl rfl ?_; clear hC a; intro a hC
    refine L.pu hC rfl rfl (fun _ => All.nil) rfl rfl ?_; clear hC a; intro a hC
    refine L.nil ?_
    refine hk5 _ _ ?_; clear hk5; try clear k5
    refine W.seqk fun k6 hk6 => ?_
    refine W.seqk fun k7 hk7 => ?_
    refine W.region ?_
    refine L.pu hC rfl rfl (fun _ => All.nil) rfl rfl ?_; clear hC a; intro a hC
    refine L.call hC rfl rfl Try.call44 rfl (fun _ => All.nil) (fun hg => num13_ok _ _) rfl rfl ?_; clear hC a; intro a w hF hC
    refine L.pu hC rfl rfl (fun _ => All.nil) rfl rfl ?_; clear hC a; intro a hC
    refine L.pu hC rfl rfl (fun _ => All.nil) rfl rfl ?_; clear hC a; intro a hC
    refine L.pu hC rfl rfl (fun _ => All.nil) rfl rfl ?_; clear hC a; intro a hC
    refine L.call hC rfl rfl Try.call44 rfl (fun hg => by simp only [Gt, Bool.and_eq_true] at hg; simp only [All, List.cons_append, List.nil_append, List.append_nil, List.mem_cons, List.not_mem_nil, or_false, forall_eq_or_imp, forall_eq, Bool.and_eq_true, hg, Bool.not_false, Bool.not_true, and_self]) (fun hg => num13_ok _ _) rfl rfl ?_; clear hC a; intro a w hF hC
    refine L.pu hC rfl rfl (fun hg => by simp only [Gt, Bool.and_eq_true] at hg; simp only [All, List.cons_append, List.nil_append, List.append_nil, List.mem_cons, List.not_mem_nil, or_false, forall_eq_or_imp, forall_eq, Bool.and_eq_true, hg, Bool.not_false, Bool.not_true, and_self]) rfl rfl ?_; clear hC a; intro a hC
    refine L.or hC rfl rfl rfl rfl (fun _ => All.nil) (fun _ hp => by simp only [All, List.cons_append, List.nil_append, List.append_nil, List.mem_cons, List.not_mem_nil, or_false, forall_eq_or_imp, forall_eq, Bool.and_eq_true, hp, Bool.not_false, Bool.not_true, and_self]) rfl rfl ?_; clear hC a; intro a hC
    refine L.pu hC rfl rfl (fun _ => All.nil) rfl rfl ?_; clear hC a; intro a hC
    refine L.pu hC rfl rfl (fun _ => All.nil) rfl rfl ?_; clear hC a; intro a hC
    refine L.len hC rfl rfl rfl (fun hg => by simp only [Gt, Bool.and_eq_true] at hg; simp only [All, List.cons_append, List.nil_append, List.append_nil, List.mem_cons, List.not_mem_nil, or_false, forall_eq_or_imp, forall_eq, Bool.and_eq_true, hg, Bool.not_false, Bool.not_true, and_self]) (rd_form (hC.at m2)) Try.underlying37 rfl rfl ?_; clear hC a; intro a hC
    refine L.pu hC rfl rfl (fun _ => All.nil) rfl rfl ?_; clear hC a; intro a hC
    refine L.pu hC rfl rfl (fun hg => by simp only [Gt, Bool.and_eq_true] at hg; simp only [All, List.cons_append, List.nil_append, List.append_nil, List.mem_cons, List.not_mem_nil, or_false, forall_eq_or_imp, forall_eq, Bool.and_eq_true, hg, Bool.not_false, Bool.not_true, and_self]) rfl rfl ?_; clear hC a; intro a hC
    refine L.or hC rfl rfl rfl rfl (fun _ => All.nil) (fun _ hp => by simp only [All, List.cons_append, List.nil_append, List.append_nil, List.mem_cons, List.not_mem_nil, or_false, forall_eq_or_imp, forall_eq, Bool.and_eq_true, hp, Bool.not_false, Bool.not_true, and_self]) rfl rfl ?_; clear hC a; intro a hC
    refine L.pu hC rfl rfl (fun _ => All.nil) rfl rfl ?_; clear hC a; intro a hC
    refine L.pu hC rfl rfl (fun _ => All.nil) rfl rfl ?_; clear hC a; intro a hC
    refine L.pu hC rfl rfl (fun _ => All.nil) rfl rfl ?_; clear hC a; intro a hC
    refine L.pu hC rfl rfl (fun hg => by simp only [Gt, Bool.and_eq_true] at hg; simp only [All, List.cons_append, List.nil_append, List.append_nil, List.mem_cons, List.not_mem_nil, or_false, forall_eq_or_imp, forall_eq, Bool.and_eq_true, hg, Bool.not_false, Bool.not_true, and_self]) rfl rfl ?_; clear hC a; intro a hC
    refine L.or hC rfl rfl rfl rfl (fun _ => All.nil) (fun _ hp => by simp only [All, List.cons_append, List.nil_append, List.append_nil, List.mem_cons, List.not_mem_nil, or_false, forall_eq_or_imp, forall_eq, Bool.and_eq_true, hp, Bool.not_false, Bool.not_true, and_self]) rfl rfl ?_; clear hC a; intro a hC
    refine L.nil ?_
    refine hk7 _ _ ?_; clear hk7; try clear k7
    refine W.cond hC rfl (fun h2 => ?_) (fun h2 => ?_)
    ·
      refine W.seqk fun k8 hk8 => ?_
      refine W.region ?_
      refine L.pu hC rfl rfl (fun _ => All.nil) rfl rfl ?_; clear hC a; intro a hC
      refine L.call hC rfl rfl Try.call44 rfl (fun _ => All.nil) (fun hg => num13_ok _ _) rfl rfl ?_; clear hC a; intro a w hF hC
      refine L.pu hC rfl rfl (fun _ => All.nil) rfl rfl ?_; clear hC a; intro a hC
      refine L.pu hC rfl rfl (fun _ => All.nil) rfl rfl ?_; clear hC a; intro a hC
      refine L.pu hC rfl rfl (fun _ => All.nil) rfl rfl ?_; clear hC a; intro a hC
      refine L.len hC rfl rfl rfl (fun hg => by simp only [Gt, Bool.and_eq_true] at hg; simp only [All, List.cons_append, List.nil_append, List.append_nil, List.mem_cons, List.not_mem_nil, or_false, forall_eq_or_imp, forall_eq, Bool.and_eq_true, hg, Bool.not_false, Bool.not_true, and_self]) (own_form (hC.at m1)) Try.underlying37 rfl rfl ?_; clear hC a; intro a hC
      refine L.pu hC rfl rfl (fun hg => by simp only [Gt, Bool.and_eq_true] at hg; simp only [All, List.cons_append, List.nil_append, List.append_nil, List.mem_cons, List.not_mem_nil, or_false, forall_eq_or_imp, forall_eq, Bool.and_eq_true, hg, Bool.not_false, Bool.not_true, and_self]) rfl rfl ?_; clear hC a; intro a hC
      refine L.or hC rfl rfl rfl rfl (fun _ => All.nil) (fun _ hp => by simp only [All, List.cons_append, List.nil_append, List.append_nil, List.mem_cons, List.not_mem_nil, or_false, forall_eq_or_imp, forall_eq, Bool.and_eq_true, hp, Bool.not_false, Bool.not_true, and_self]) rfl rfl ?_; clear hC a; intro a hC
      refine L.pu hC rfl rfl (fun _ => All.nil) rfl rfl ?_; clear hC a; intro a hC
      refine L.nil ?_
      refine hk8 _ _ ?_; clear hk8; try clear k8
      refine W.ret ?_
      refine rets hC rfl (.tmp rfl .nil) ?_
      refine ⟨?_, hC.frm⟩
      refine rb ?_
      rw [← hq]; exact apart_bad
    ·
      refine W.skip ?_
      refine hk6 _ _ ?_; clear hk6; try clear k6
      refine W.seqk fun k9 hk9 => ?_
      refine W.region ?_
      refine L.pu hC rfl rfl (fun _ => All.nil) rfl rfl ?_; clear hC a; intro a hC
      refine L.len hC rfl rfl rfl (fun _ => All.nil) (rd_form (hC.at m2)) Try.underlying37 rfl rfl ?_; clear hC a; intro a hC
      refine L.pu hC rfl rfl (fun _ => All.nil) rfl rfl ?_; clear hC a; intro a hC
      refine L.pu hC rfl rfl (fun _ => All.nil) rfl rfl ?_; clear hC a; intro a hC
      refine L.call hC rfl rfl Try.call46 rfl (fun _ => All.nil) (fun hg => round_ok _ _ _ _) rfl rfl ?_; clear hC a; intro a w hF hC
      refine L.pu hC rfl rfl (fun _ => All.nil) rfl rfl ?_; clear hC a; intro a hC
      refine L.pu hC rfl rfl (fun _ => All.nil) rfl rfl ?_; clear hC a; intro a hC
      refine L.pu hC rfl rfl (fun _ => All.nil) rfl rfl ?_; clear hC a; intro a hC
      refine L.pu hC rfl rfl (fun _ => All.nil) rfl rfl ?_; clear hC a; intro a hC
      refine L.pu hC rfl rfl (fun _ => All.nil) rfl rfl ?_; clear hC a; intro a hC
      refine L.pu hC rfl rfl (fun _ => All.nil) rfl rfl ?_; clear hC a; intro a hC
      refine L.pu hC rfl rfl (fun _ => All.nil) rfl rfl ?_; clear hC a; intro a hC
      refine L.nil ?_
      refine hk9 _ _ ?_; clear hk9; try clear k9
      refine W.seqk fun k10 hk10 => ?_
      refine W.region ?_
      refine L.pu hC rfl rfl (fun _ => All.nil) rfl rfl ?_; clear hC a; intro a hC
      refine L.len hC rfl rfl rfl (fun _ => All.nil) (rd_form (hC.at m2)) Try.underlying37 rfl rfl ?_; clear hC a; intro a hC
      refine L.pu hC rfl rfl (fun _ => All.nil) rfl rfl ?_; clear hC a; intro a hC
      refine L.pu hC rfl rfl (fun _ => All.nil) rfl rfl ?_; clear hC a; intro a hC
      refine L.call hC rfl rfl Try.call46 rfl (fun _ => All.nil) (fun hg => round_ok _ _ _ _) rfl rfl ?_; clear hC a; intro a w hF hC
      refine L.pu hC rfl rfl (fun _ => All.nil) rfl rfl ?_; clear hC a; intro a hC
      refine L.pu hC rfl rfl (fun _ => All.nil) rfl rfl ?_; clear hC a; intro a hC
      refine L.pu hC rfl rfl (fun _ => All.nil) rfl rfl ?_; clear hC a; intro a hC
      refine L.pu hC rfl rfl (fun _ => All.nil) rfl rfl ?_; clear hC a; intro a hC
      refine L.pu hC rfl rfl (fun _ => All.nil) rfl rfl ?_; clear hC a; intro a hC
      refine L.pu hC rfl rfl (fun _ => All.nil) rfl rfl ?_; clear hC a; intro a hC
      refine L.pu hC rfl rfl (fun _ => All.nil) rfl rfl ?_; clear hC a; intro a hC
      refine L.nil ?_
      refine hk10 _ _ ?_; clear hk10; try clear k10
      refine W.seqk fun k11 hk11 => ?_
      refine W.seqk fun k12 hk12 => ?_
      refine W.region ?_
      refine L.pu hC rfl rfl (fun _ => All.nil) rfl rfl ?_; clear hC a; intro a hC
      refine L.nil ?_
      refine hk12 _ _ ?_; clear hk12; try clear k12
      refine W.block ?_
      have hs := apart_in h2
      have hll := own_lt (hC.at m1)
      refine W.loop (fun (j : Nat) a w' => (j ≤ q.length) ∧ Conf 102 Nob w0 [(21, (none, .int .i64 (j : Int))), (11, (none, ov)), (13, (none, pv)), (15, (none, .int .i64 (roundR (ids.length : Int) ca size).1)), (18, (none, .int .i64 (roundR (ids.length : Int) cb size).1))] [ownR pv 3 intE q2, ownR ov 3 intE q, rdR v intE ids] a w') (fun (j : Nat) => q.length - j) 0 ?_ ?_
      · exact ⟨Nat.zero_le _, hC.keep ⟨rfl, rfl, rfl, rfl, rfl, trivial⟩⟩
      · rintro j a w ⟨hj, hC⟩
        refine W.seqk fun k13 hk13 => ?_
        refine W.seqk fun k14 hk14 => ?_
        refine W.region ?_
        refine L.pu hC rfl rfl (fun _ => All.nil) rfl rfl ?_; clear hC a; intro a hC
        refine L.pu hC rfl rfl (fun _ => All.nil) rfl rfl ?_; clear hC a; intro a hC
        refine L.len hC rfl rfl rfl (fun _ => All.nil) (own_form (hC.at m1)) Try.underlying37 rfl rfl ?_; clear hC a; intro a hC
        refine L.pu hC rfl rfl (fun _ => All.nil) rfl rfl ?_; clear hC a; intro a hC
        refine L.pu hC rfl rfl (fun _ => All.nil) rfl rfl ?_; clear hC a; intro a hC
        refine L.pu hC rfl rfl (fun _ => All.nil) rfl rfl ?_; clear hC a; intro a hC
        refine L.pu hC rfl rfl (fun _ => All.nil) rfl rfl ?_; clear hC a; intro a hC
        refine L.pu hC rfl rfl (fun hg => by simp only [Gt, Bool.and_eq_true] at hg; simp only [All, List.cons_append, List.nil_append, List.append_nil, List.mem_cons, List.not_mem_nil, or_false, forall_eq_or_imp, forall_eq, Bool.and_eq_true, hg, Bool.not_false, Bool.not_true, and_self]) rfl rfl ?_; clear hC a; intro a hC
        refine L.and hC rfl rfl rfl rfl (fun _ => All.nil) (fun _ hp => by simp only [All, List.cons_append, List.nil_append, List.append_nil, List.mem_cons, List.not_mem_nil, or_false, forall_eq_or_imp, forall_eq, Bool.and_eq_true, hp, Bool.not_false, Bool.not_true, and_self]) rfl rfl ?_; clear hC a; intro a hC
        refine L.nil ?_
        refine hk14 _ _ ?_; clear hk14; try clear k14
        refine W.cond hC rfl (fun h3 => ?_) (fun h3 => ?_)
        ·
          have h3i := and_lt h3
          refine W.skip ?_
          refine hk13 _ _ ?_; clear hk13; try clear k13
          refine W.seqk fun k15 hk15 => ?_
          refine W.block ?_
          refine W.seqk fun k16 hk16 => ?_
          refine W.region ?_
          refine L.pu hC rfl rfl (fun _ => All.nil) rfl rfl ?_; clear hC a; intro a hC
          refine L.pu hC rfl rfl (fun _ => All.nil) rfl rfl ?_; clear hC a; intro a hC
          refine L.pu hC rfl rfl (fun _ => All.nil) rfl rfl ?_; clear hC a; intro a hC
          refine L.ixo hC rfl rfl rfl rfl m1 (fun _ => All.nil) (fun _ => All.nil) Try.underlying37 Try.sizeOf3 (fun _ => ⟨by omega, by omega⟩) rfl rfl ?_; clear hC a; intro a hC
          refine L.ldx hC rfl rfl rfl rfl (fun _ => All.nil) (fun hg => own_bang hC m1 (by omega) _) Try.isAgg3 rfl rfl rfl ?_; clear hC a; intro a hC
          refine L.call hC rfl rfl Try.call45 rfl (fun _ => All.nil) (fun hg => has13_ok pv q2 q[j]! _ (own_rd (hC.at m0))) rfl rfl ?_; clear hC a; intro a w hF hC
          refine L.nil ?_
          refine hk16 _ _ ?_; clear hk16; try clear k16
          refine W.cond hC rfl (fun h4 => ?_) (fun h4 => ?_)
          ·
            exact absurd h4 (by rw [apart_has hs.1 hs.2.1 hs.2.2.1 hs.2.2.2 (eq_of_beq (and_r h3)) hq hq2 (by omega)]; simp)
          ·
            refine W.skip ?_
            refine hk15 _ _ ?_; clear hk15; try clear k15
            refine W.region ?_
            refine L.pu hC rfl rfl (fun _ => All.nil) rfl rfl ?_; clear hC a; intro a hC
            refine L.pu hC rfl rfl (fun _ => All.nil) rfl rfl ?_; clear hC a; intro a hC
            refine L.pu hC rfl rfl (fun _ => All.nil) rfl rfl ?_; clear hC a; intro a hC
            refine L.nil ?_
            exact ⟨j + 1, ⟨by have := and_lt h3; omega, hC.keep ⟨geti rfl (w64 (by have := and_lt h3; omega)), rfl, rfl, rfl, rfl, trivial⟩⟩, by first | omega | (dsimp only; omega)⟩
        ·
          refine W.exit ?_
          refine Kb.here ?_
          refine hk11 _ _ ?_; clear hk11; try clear k11
          refine W.seqk fun k17 hk17 => ?_
          refine W.region ?_
          refine L.pu hC rfl rfl (fun _ => All.nil) rfl rfl ?_; clear hC a; intro a hC
          refine L.nil ?_
          refine hk17 _ _ ?_; clear hk17; try clear k17
          refine W.ret ?_
          refine rets hC rfl (.tmp rfl .nil) ?_
          refine ⟨?_, hC.frm⟩
          refine rb ?_
          rfl

end Go.Proofs.E
