/- RingOwn: the walk. -/
import Derived.Test.YtgekiiildobfkabbQ7
set_option linter.unusedVariables false
set_option linter.unusedSimpArgs false
namespace Go.Proofs.E
open Go.RowKit
theorem ringown_law (p : Int) (v : Value) (l : List (Int × Int)) (w0 : World) (hr : (rdR v timE l).ok w0) : Calls Try.prog 3 #[.int .i64 p, v] w0 fun e w' => e = .returned (.bool true) ∧ Frm Nob w0 w' := by
  obtain ⟨R, hR⟩ : ∃ x, (buildR p l).1 = x := ⟨_, rfl⟩
  refine enter (μ := [rdR v timE l]) (S := Nob) (vs := [.int .i64 p, v]) Try.func3 rfl Try.ntmps3 rfl ⟨by simpa using hr, by simp⟩ (by simp [rdR]) (fun a hC => ?_)
  refine W.seqk fun k1 hk1 => ?_
  refine W.region ?_
  refine L.pu hC rfl rfl (fun _ => All.nil) rfl rfl ?_; clear hC a; intro a hC
  refine L.nil ?_
  refine hk1 _ _ ?_; clear hk1; try clear k1
  refine W.seqk fun k2 hk2 => ?_
  refine W.seqk fun k3 hk3 => ?_
  refine W.region ?_
  refine L.call hC rfl rfl Try.call6 rfl (fun _ => All.nil) (fun hg => alive12_ok _) rfl rfl ?_; clear hC a; intro a w hF hC
  refine L.pu hC rfl rfl (fun _ => All.nil) rfl rfl ?_; clear hC a; intro a hC
  refine L.nil ?_
  refine hk3 _ _ ?_; clear hk3; try clear k3
  refine W.cond hC rfl (fun h1 => ?_) (fun h1 => ?_)
  ·
    exact absurd h1 (by simp)
  ·
    refine W.skip ?_
    refine hk2 _ _ ?_; clear hk2; try clear k2
    refine W.seqk fun k4 hk4 => ?_
    refine W.region ?_
    refine L.pu hC rfl rfl (fun _ => All.nil) rfl rfl ?_; clear hC a; intro a hC
    refine L.pu hC rfl rfl (fun _ => All.nil) rfl rfl ?_; clear hC a; intro a hC
    refine L.callg [] hC rfl rfl Try.call7 rfl (build_ok p _ l _ (hC.at m0)) (fun b h => h.elim) rfl rfl ?_; clear hC a; intro v1 a w hQ hC
    rw [hR] at hC
    refine L.pu hC rfl rfl (fun _ => All.nil) rfl rfl ?_; clear hC a; intro a hC
    refine L.pu hC rfl rfl (fun _ => All.nil) rfl rfl ?_; clear hC a; intro a hC
    refine L.pu hC rfl rfl (fun _ => All.nil) rfl rfl ?_; clear hC a; intro a hC
    refine L.pu hC rfl rfl (fun _ => All.nil) rfl rfl ?_; clear hC a; intro a hC
    refine L.pu hC rfl rfl (fun _ => All.nil) rfl rfl ?_; clear hC a; intro a hC
    refine L.nil ?_
    refine hk4 _ _ ?_; clear hk4; try clear k4
    refine W.seqk fun k5 hk5 => ?_
    refine W.region ?_
    refine L.pu hC rfl rfl (fun _ => All.nil) rfl rfl ?_; clear hC a; intro a hC
    refine L.pu hC rfl rfl (fun _ => All.nil) rfl rfl ?_; clear hC a; intro a hC
    refine L.callg [] hC rfl rfl Try.call7 rfl (build_ok p _ l _ (hC.at m1)) (fun b h => h.elim) rfl rfl ?_; clear hC a; intro v2 a w hQ hC
    rw [hR] at hC
    refine L.pu hC rfl rfl (fun _ => All.nil) rfl rfl ?_; clear hC a; intro a hC
    refine L.pu hC rfl rfl (fun _ => All.nil) rfl rfl ?_; clear hC a; intro a hC
    refine L.pu hC rfl rfl (fun _ => All.nil) rfl rfl ?_; clear hC a; intro a hC
    refine L.pu hC rfl rfl (fun _ => All.nil) rfl rfl ?_; clear hC a; intro a hC
    refine L.pu hC rfl rfl (fun _ => All.nil) rfl rfl ?_; clear hC a; intro a hC
    refine L.nil ?_
    refine hk5 _ _ ?_; clear hk5; try clear k5
    refine W.seqk fun k6 hk6 => ?_
    refine W.seqk fun k7 hk7 => ?_
    refine W.region ?_
    refine L.pu hC rfl rfl (fun _ => All.nil) rfl rfl ?_; clear hC a; intro a hC
    refine L.nil ?_
    refine hk7 _ _ ?_; clear hk7; try clear k7
    refine W.block ?_
    have hRl := own_lt (hC.at m0)
    replace hC := hC.fr2
    replace hC := hC.fr1
    replace hC := hC.fr2
    refine W.loop (fun (gst : Nat × (List (Int × Int))) a w' => match gst with | ⟨j, m⟩ => (j ≤ R.length) ∧ (m.length = R.length) ∧ Conf 56 Nob w0 [(9, (none, .int .i64 (j : Int))), (5, (none, v1)), (7, (none, v2)), (6, (none, .int .i64 (buildR p l).2)), (8, (none, .int .i64 (buildR p l).2)), (0, (none, .int .i64 p)), (1, (none, v))] [ownR v1 30 pntE m, ownR v2 30 pntE R, rdR v timE l] a w') (fun (gst : Nat × (List (Int × Int))) => match gst with | ⟨j, m⟩ => R.length - j) (0, R) ?_ ?_
    · exact ⟨Nat.zero_le _, rfl, hC.keep ⟨rfl, rfl, rfl, rfl, rfl, rfl, rfl, trivial⟩⟩
    · rintro ⟨j, m⟩ a w ⟨hj, hml, hC⟩
      refine W.seqk fun k8 hk8 => ?_
      refine W.seqk fun k9 hk9 => ?_
      refine W.region ?_
      refine L.pu hC rfl rfl (fun _ => All.nil) rfl rfl ?_; clear hC a; intro a hC
      refine L.pu hC rfl rfl (fun _ => All.nil) rfl rfl ?_; clear hC a; intro a hC
      refine L.len hC rfl rfl rfl (fun _ => All.nil) (own_form (hC.at m0)) Try.underlying24 rfl rfl ?_; clear hC a; intro a hC
      refine L.pu hC rfl rfl (fun _ => All.nil) rfl rfl ?_; clear hC a; intro a hC
      refine L.nil ?_
      refine hk9 _ _ ?_; clear hk9; try clear k9
      refine W.cond hC rfl (fun h2 => ?_) (fun h2 => ?_)
      ·
        have h2 := of_decide_eq_true h2
        refine W.skip ?_
        refine hk8 _ _ ?_; clear hk8; try clear k8
        refine W.seqk fun k10 hk10 => ?_
        refine W.block ?_
        refine W.region ?_
        refine L.pu hC rfl rfl (fun _ => All.nil) rfl rfl ?_; clear hC a; intro a hC
        refine L.pu hC rfl rfl (fun _ => All.nil) rfl rfl ?_; clear hC a; intro a hC
        refine L.buildS (ps := [(0, 1), (1, 1)]) hC rfl rfl rfl (fun _ => All.nil) Try.zeroValue30 Try.underlying30 ⟨⟨rfl, Try.sizeOf28⟩, ⟨rfl, Try.sizeOf3⟩, trivial⟩ rfl rfl rfl ?_; clear hC a; intro a hC
        refine L.ixo hC rfl rfl rfl rfl m0 (fun _ => All.nil) (fun _ => All.nil) Try.underlying24 Try.sizeOf30 (fun _ => by omega) rfl rfl ?_; clear hC a; intro a hC
        refine L.ste hC rfl rfl rfl rfl rfl Try.sizeOf30 rfl rfl rfl (by omega) (Nat.le_of_ble_eq_true rfl) (x' := (0, 0)) rfl rfl ?_; clear hC a; intro a w hF hC
        refine L.nil ?_
        refine hk10 _ _ ?_; clear hk10; try clear k10
        refine W.region ?_
        refine L.pu hC rfl rfl (fun _ => All.nil) rfl rfl ?_; clear hC a; intro a hC
        refine L.pu hC rfl rfl (fun _ => All.nil) rfl rfl ?_; clear hC a; intro a hC
        refine L.pu hC rfl rfl (fun _ => All.nil) rfl rfl ?_; clear hC a; intro a hC
        refine L.nil ?_
        replace hC := hC.fr2
        replace hC := hC.fr2
        replace hC := hC.fr2
        exact ⟨(j + 1, m.set j (0, 0)), ⟨by omega, by rw [List.length_set]; exact hml, hC.keep ⟨geti rfl (w64 (by omega)), rfl, rfl, rfl, rfl, rfl, rfl, trivial⟩⟩, by first | omega | (dsimp only; omega)⟩
      ·
        have h2 := of_decide_eq_false h2
        refine W.exit ?_
        refine Kb.here ?_
        refine hk6 _ _ ?_; clear hk6; try clear k6
        refine W.seqk fun k11 hk11 => ?_
        refine W.region ?_
        refine L.pu hC rfl rfl (fun _ => All.nil) rfl rfl ?_; clear hC a; intro a hC
        refine L.pu hC rfl rfl (fun _ => All.nil) rfl rfl ?_; clear hC a; intro a hC
        refine L.callg [] hC rfl rfl Try.call8 rfl (buildr_ok p _ l _ (hC.at m2)) (fun b h => h.elim) rfl rfl ?_; clear hC a; intro v3 a w hQ hC
        rw [hR] at hC
        refine L.pu hC rfl rfl (fun _ => All.nil) rfl rfl ?_; clear hC a; intro a hC
        refine L.pu hC rfl rfl (fun _ => All.nil) rfl rfl ?_; clear hC a; intro a hC
        refine L.pu hC rfl rfl (fun _ => All.nil) rfl rfl ?_; clear hC a; intro a hC
        refine L.pu hC rfl rfl (fun _ => All.nil) rfl rfl ?_; clear hC a; intro a hC
        refine L.pu hC rfl rfl (fun _ => All.nil) rfl rfl ?_; clear hC a; intro a hC
        refine L.nil ?_
        refine hk11 _ _ ?_; clear hk11; try clear k11
        refine W.seqk fun k12 hk12 => ?_
        refine W.region ?_
        refine L.pu hC rfl rfl (fun _ => All.nil) rfl rfl ?_; clear hC a; intro a hC
        refine L.pu hC rfl rfl (fun _ => All.nil) rfl rfl ?_; clear hC a; intro a hC
        refine L.pu hC rfl rfl (fun _ => All.nil) rfl rfl ?_; clear hC a; intro a hC
        refine L.pu hC rfl rfl (fun _ => All.nil) rfl rfl ?_; clear hC a; intro a hC
        refine L.pu hC rfl rfl (fun _ => All.nil) rfl rfl ?_; clear hC a; intro a hC
        refine L.call hC rfl rfl Try.call9 rfl (fun hg => by first | (simp only [Gt, Bool.and_eq_true] at hg; simp only [All, List.cons_append, List.nil_append, List.append_nil, List.mem_cons, List.not_mem_nil, or_false, forall_eq_or_imp, forall_eq, Bool.and_eq_true, hg, Bool.not_false, Bool.not_true, and_self]; done) | (simp only [Gt] at hg; simp only [All, List.cons_append, List.nil_append, List.append_nil, List.mem_cons, List.not_mem_nil, or_false, forall_eq_or_imp, forall_eq, hg, and_self])) (fun hg => num12_ok _ _) rfl rfl ?_; clear hC a; intro a w hF hC
        refine L.pu hC rfl rfl (fun _ => All.nil) rfl rfl ?_; clear hC a; intro a hC
        refine L.pu hC rfl rfl (fun hg => by first | (simp only [Gt, Bool.and_eq_true] at hg; simp only [All, List.cons_append, List.nil_append, List.append_nil, List.mem_cons, List.not_mem_nil, or_false, forall_eq_or_imp, forall_eq, Bool.and_eq_true, hg, Bool.not_false, Bool.not_true, and_self]; done) | (simp only [Gt] at hg; simp only [All, List.cons_append, List.nil_append, List.append_nil, List.mem_cons, List.not_mem_nil, or_false, forall_eq_or_imp, forall_eq, hg, and_self])) rfl rfl ?_; clear hC a; intro a hC
        refine L.and hC rfl rfl rfl rfl (fun _ => All.nil) (fun _ hp => by first | (simp only [All, List.cons_append, List.nil_append, List.append_nil, List.mem_cons, List.not_mem_nil, or_false, forall_eq_or_imp, forall_eq, Bool.and_eq_true, hp, Bool.not_false, Bool.not_true, and_self]; done) | simp [All, hp]) rfl rfl ?_; clear hC a; intro a hC
        refine L.pu hC rfl rfl (fun _ => All.nil) rfl rfl ?_; clear hC a; intro a hC
        refine L.pu hC rfl rfl (fun _ => All.nil) rfl rfl ?_; clear hC a; intro a hC
        refine L.pu hC rfl rfl (fun _ => All.nil) rfl rfl ?_; clear hC a; intro a hC
        refine L.call hC rfl rfl Try.call10 rfl (fun hg => by first | (simp only [Gt, Bool.and_eq_true] at hg; simp only [All, List.cons_append, List.nil_append, List.append_nil, List.mem_cons, List.not_mem_nil, or_false, forall_eq_or_imp, forall_eq, Bool.and_eq_true, hg, Bool.not_false, Bool.not_true, and_self]; done) | (simp only [Gt] at hg; simp only [All, List.cons_append, List.nil_append, List.append_nil, List.mem_cons, List.not_mem_nil, or_false, forall_eq_or_imp, forall_eq, hg, and_self])) (fun hg => sameP_ok v2 v3 R _ (own_rd (hC.at m2)) (own_rd (hC.at m0))) rfl rfl ?_; clear hC a; intro a w hF hC
        refine L.and hC rfl rfl rfl rfl (fun _ => All.nil) (fun _ hp => by first | (simp only [All, List.cons_append, List.nil_append, List.append_nil, List.mem_cons, List.not_mem_nil, or_false, forall_eq_or_imp, forall_eq, Bool.and_eq_true, hp, Bool.not_false, Bool.not_true, and_self]; done) | simp [All, hp]) rfl rfl ?_; clear hC a; intro a hC
        refine L.pu hC rfl rfl (fun _ => All.nil) rfl rfl ?_; clear hC a; intro a hC
        refine L.nil ?_
        refine hk12 _ _ ?_; clear hk12; try clear k12
        refine W.ret ?_
        refine rets hC rfl (.tmp rfl .nil) ?_
        refine ⟨?_, hC.frm⟩
        refine rb ?_
        simp

end Go.Proofs.E
