/- A client's subset. -/
import Derived.Test.YtgekiiildobfkaaS5
import Derived.Test.YtgekiiildobfkaaB3
set_option linter.unusedVariables false
set_option linter.unusedSimpArgs false
namespace Go.Proofs.E
open Go.RowKit
def ofR (ids : List Int) (client size seed : Int) : List Int × Int :=
  if (chkD ids != 0) = true then ([], chkD ids) else if ((roundR (ids.length : Int) client size).2.2 != 0) = true then ([], (roundR (ids.length : Int) client size).2.2)
  else (handR ids size seed (roundR (ids.length : Int) client size).1 ((roundR (ids.length : Int) client size).2.1 * size).toNat (((roundR (ids.length : Int) client size).2.1 + 1) * size).toNat, 0)
theorem of_facts {ids : List Int} {client size : Int} (h1 : (chkD ids != 0) = false) (h2 : ((roundR (ids.length : Int) client size).2.2 != 0) = false) :
    ids.length ≤ 32 ∧ (1 ≤ size ∧ size ≤ 32) ∧ (0 ≤ (roundR (ids.length : Int) client size).2.1 ∧ (roundR (ids.length : Int) client size).2.1 ≤ 1048576) ∧ 0 ≤ (roundR (ids.length : Int) client size).2.1 * size ∧ 0 ≤ ((roundR (ids.length : Int) client size).2.1 + 1) * size ∧
    (size < ids.length → ((roundR (ids.length : Int) client size).2.1 + 1) * size ≤ ids.length) := by
  have hl : ids.length ≤ 32 := by
    have h1 : chkD ids = 0 := by simpa using h1
    unfold chkD at h1
    split at h1
    · cases h1
    · rename_i h; rw [decide_eq_true_eq] at h; omega
  have h2 : (roundR (ids.length : Int) client size).2.2 = 0 := by simpa using h2
  unfold roundR at h2 ⊢
  split at h2
  · cases h2
  · rename_i h3
    rw [Bool.not_eq_true] at h3
    rw [if_neg (nt h3)]
    have h3' := h3
    simp only [Bool.or_eq_false_iff, decide_eq_false_iff_not] at h3'
    have hs : 1 ≤ size ∧ size ≤ 32 := by omega
    split
    · rename_i h4
      rw [decide_eq_true_eq] at h4
      refine ⟨hl, hs, by simp, by simp, by simp; omega, fun h => by omega⟩
    · rename_i h4
      rw [Bool.not_eq_true] at h4
      obtain ⟨e1, e2, e3⟩ := round_val h3 h4
      dsimp only
      rw [e1]
      have m1 := Int.tmod_nonneg ((ids.length : Int) / size) (show 0 ≤ client by omega)
      have m2 := Int.tmod_lt_of_pos client (show 0 < (ids.length : Int) / size by omega)
      generalize hat : client.tmod ((ids.length : Int) / size) = at' at *
      have hmul : (at' + 1) * size ≤ ids.length := by
        have h5 : at' + 1 ≤ (ids.length : Int) / size := by omega
        have h6 := Int.mul_le_mul_of_nonneg_right h5 (show 0 ≤ size by omega)
        have h7 := Int.ediv_mul_le (ids.length : Int) (show size ≠ 0 by omega)
        omega
      refine ⟨hl, hs, ⟨m1, by omega⟩, Int.mul_nonneg m1 (by omega), Int.mul_nonneg (by omega) (by omega), fun _ => hmul⟩
theorem of_ok (v : Value) (size seed client : Int) (ids : List Int) (w0 : World) (hr : (rdR v intE ids).ok w0) : Calls Try.prog 92 #[.agg (dE v size seed).toArray, .int .i64 client] w0 fun e w' => ∃ r : Value, e = .returned (.tuple #[r, .int .i64 (ofR ids client size seed).2]) ∧ True ∧ Post Nob [ownR r 3 intE (ofR ids client size seed).1] w0 w' := by
  refine enter (μ := [rdR v intE ids]) (S := Nob) (vs := [.agg (dE v size seed).toArray, .int .i64 client]) Try.func92 rfl Try.ntmps92 rfl ⟨by simpa using hr, by simp⟩ (by simp [rdR]) (fun a hC => ?_)
  refine W.seqk fun k1 hk1 => ?_
  refine W.region ?_
  refine L.box hC rfl rfl rfl rfl rfl rfl ?_; clear hC a; intro db a w hF hC
  refine L.pu hC rfl rfl (fun _ => All.nil) rfl rfl ?_; clear hC a; intro a hC
  refine L.pu hC rfl rfl (fun _ => All.nil) rfl rfl ?_; clear hC a; intro a hC
  refine L.nil ?_
  refine hk1 _ _ ?_; clear hk1; try clear k1
  refine W.seqk fun k2 hk2 => ?_
  refine W.seqk fun k3 hk3 => ?_
  refine W.region ?_
  refine L.lda hC rfl rfl rfl (fun _ => All.nil) m0 Try.isAgg157 Try.sizeOf157 rfl rfl rfl rfl ?_; clear hC a; intro a hC
  refine L.call hC rfl rfl Try.call131 rfl (fun _ => All.nil) (fun hg => chkD_ok v size seed ids _ (hC.at m1)) rfl rfl ?_; clear hC a; intro a w hF hC
  refine L.pu hC rfl rfl (fun _ => All.nil) rfl rfl ?_; clear hC a; intro a hC
  refine L.nil ?_
  refine hk3 _ _ ?_; clear hk3; try clear k3
  refine W.seqk fun k4 hk4 => ?_
  refine W.region ?_
  refine L.pu hC rfl rfl (fun _ => All.nil) rfl rfl ?_; clear hC a; intro a hC
  refine L.pu hC rfl rfl (fun _ => All.nil) rfl rfl ?_; clear hC a; intro a hC
  refine L.nil ?_
  refine hk4 _ _ ?_; clear hk4; try clear k4
  refine W.cond hC rfl (fun h1 => ?_) (fun h1 => ?_)
  ·
    refine W.seqk fun k5 hk5 => ?_
    refine W.region ?_
    refine L.pu hC rfl rfl (fun _ => All.nil) rfl rfl ?_; clear hC a; intro a hC
    refine L.pu hC rfl rfl (fun _ => All.nil) rfl rfl ?_; clear hC a; intro a hC
    refine L.pu hC rfl rfl (fun _ => All.nil) rfl rfl ?_; clear hC a; intro a hC
    refine L.nil ?_
    refine hk5 _ _ ?_; clear hk5; try clear k5
    refine W.ret ?_
    refine retl hC rfl (.tmp rfl (.tmp rfl .nil)) rfl ?_
    replace hC := (hC.drop).nilown (ty := 3) (E := intE)
    exact ⟨_, (by unfold ofR; rw [if_pos h1]; try rfl), trivial, by unfold ofR; rw [if_pos h1]; exact hC.toPost (by simp [ownR])⟩
  ·
    refine W.skip ?_
    refine hk2 _ _ ?_; clear hk2; try clear k2
    refine W.seqk fun k6 hk6 => ?_
    refine W.region ?_
    refine L.fa hC rfl rfl rfl (fun _ => All.nil) Try.underlying157 rfl Try.sizeOf37 rfl rfl rfl ?_; clear hC a; intro a hC
    refine L.ld hC rfl rfl rfl (fun _ => All.nil) m0 Try.isAgg37 rfl rfl rfl ?_; clear hC a; intro a hC
    refine L.len hC rfl rfl rfl (fun _ => All.nil) (rd_form (hC.at m1)) Try.underlying37 rfl rfl ?_; clear hC a; intro a hC
    refine L.pu hC rfl rfl (fun _ => All.nil) rfl rfl ?_; clear hC a; intro a hC
    refine L.fa hC rfl rfl rfl (fun _ => All.nil) Try.underlying157 rfl Try.sizeOf3 rfl rfl rfl ?_; clear hC a; intro a hC
    refine L.ld hC rfl rfl rfl (fun _ => All.nil) m0 Try.isAgg3 rfl rfl rfl ?_; clear hC a; intro a hC
    refine L.call hC rfl rfl Try.call46 rfl (fun _ => All.nil) (fun hg => round_ok _ _ _ _) rfl rfl ?_; clear hC a; intro a w hF hC
    refine L.pu hC rfl rfl (fun _ => All.nil) rfl rfl ?_; clear hC a; intro a hC
    refine L.pu hC rfl rfl (fun _ => All.nil) rfl rfl ?_; clear hC a; intro a hC
    refine L.pu hC rfl rfl (fun _ => All.nil) rfl rfl ?_; clear hC a; intro a hC
    refine L.pu hC rfl rfl (fun _ => All.nil) rfl rfl ?_; clear hC a; intro a hC
    refine L.pu hC rfl rfl (fun _ => All.nil) rfl rfl ?_; clear hC a; intro a hC
    refine L.pu hC rfl rfl (fun _ => All.nil) rfl rfl ?_; clear hC a; intro a hC
    refine L.pu hC rfl rfl (fun _ => All.nil) rfl rfl ?_; clear hC a; intro a hC
    refine L.nil ?_
    refine hk6 _ _ ?_; clear hk6; try clear k6
    refine W.seqk fun k7 hk7 => ?_
    refine W.seqk fun k8 hk8 => ?_
    refine W.region ?_
    refine L.pu hC rfl rfl (fun _ => All.nil) rfl rfl ?_; clear hC a; intro a hC
    refine L.pu hC rfl rfl (fun _ => All.nil) rfl rfl ?_; clear hC a; intro a hC
    refine L.nil ?_
    refine hk8 _ _ ?_; clear hk8; try clear k8
    refine W.cond hC rfl (fun h2 => ?_) (fun h2 => ?_)
    ·
      refine W.seqk fun k9 hk9 => ?_
      refine W.region ?_
      refine L.pu hC rfl rfl (fun _ => All.nil) rfl rfl ?_; clear hC a; intro a hC
      refine L.pu hC rfl rfl (fun _ => All.nil) rfl rfl ?_; clear hC a; intro a hC
      refine L.pu hC rfl rfl (fun _ => All.nil) rfl rfl ?_; clear hC a; intro a hC
      refine L.nil ?_
      refine hk9 _ _ ?_; clear hk9; try clear k9
      refine W.ret ?_
      refine retl hC rfl (.tmp rfl (.tmp rfl .nil)) rfl ?_
      replace hC := (hC.drop).nilown (ty := 3) (E := intE)
      exact ⟨_, (by unfold ofR; rw [if_neg (nt h1), if_pos h2]; try rfl), trivial, by unfold ofR; rw [if_neg (nt h1), if_pos h2]; exact hC.toPost (by simp [ownR])⟩
    ·
      have hf := of_facts h1 h2
      refine W.skip ?_
      refine hk7 _ _ ?_; clear hk7; try clear k7
      refine W.seqk fun k10 hk10 => ?_
      refine W.region ?_
      refine L.lda hC rfl rfl rfl (fun _ => All.nil) m0 Try.isAgg157 Try.sizeOf157 rfl rfl rfl rfl ?_; clear hC a; intro a hC
      refine L.pu hC rfl rfl (fun _ => All.nil) rfl rfl ?_; clear hC a; intro a hC
      refine L.pu hC rfl rfl (fun _ => All.nil) rfl rfl ?_; clear hC a; intro a hC
      refine L.buildS (ps := [(0, 1), (1, 1)]) hC rfl rfl rfl (fun _ => All.nil) Try.zeroValue200 Try.underlying200 ⟨⟨rfl, Try.sizeOf3⟩, ⟨rfl, Try.sizeOf3⟩, trivial⟩ rfl rfl rfl ?_; clear hC a; intro a hC
      refine L.callg [] hC rfl rfl Try.call132 rfl (hand_ok v size seed (roundR (ids.length : Int) client size).1 (roundR (ids.length : Int) client size).2.1 ids _ (hC.at m1) hf.1 hf.2.1 hf.2.2.1 _ _ (Int.toNat_of_nonneg hf.2.2.2.1).symm (Int.toNat_of_nonneg hf.2.2.2.2.1).symm (fun h => by have := hf.2.2.2.2.2 h; omega)) (fun b h => h.elim) rfl rfl ?_; clear hC a; intro ov a w hQ hC
      refine L.pu hC rfl rfl (fun _ => All.nil) rfl rfl ?_; clear hC a; intro a hC
      refine L.pu hC rfl rfl (fun _ => All.nil) rfl rfl ?_; clear hC a; intro a hC
      refine L.nil ?_
      refine hk10 _ _ ?_; clear hk10; try clear k10
      refine W.ret ?_
      refine retl hC rfl (.tmp rfl (.tmp rfl .nil)) rfl ?_
      replace hC := hC.subl (.cons_cons _ (.cons _ (.cons _ .slnil)))
      exact ⟨_, (by unfold ofR; rw [if_neg (nt h1), if_neg (nt h2)]; try rfl), trivial, by unfold ofR; rw [if_neg (nt h1), if_neg (nt h2)]; exact hC.toPost (by simp [ownR])⟩

theorem Of_ok (v : Value) (ids : List Int) (client size seed : Int) (w0 : World) (hr : (rdR v intE ids).ok w0) : Calls Try.prog 43 #[v, .int .i64 client, .int .i64 size, .int .u64 seed] w0 fun e w' => ∃ r : Value, e = .returned (.tuple #[r, .int .i64 (ofR ids client size seed).2]) ∧ True ∧ Post Nob [ownR r 3 intE (ofR ids client size seed).1] w0 w' := by
  obtain ⟨vA, vc, hv, _, _⟩ := id hr
  subst hv
  refine enter (μ := [rdR (.slice vA ids.length vc) intE ids]) (S := Nob) (vs := [.slice vA ids.length vc, .int .i64 client, .int .i64 size, .int .u64 seed]) Try.func43 rfl Try.ntmps43 rfl ⟨by simpa using hr, by simp⟩ (by simp [rdR]) (fun a hC => ?_)
  refine W.seqk fun k1 hk1 => ?_
  refine W.region ?_
  refine L.pu hC rfl rfl (fun _ => All.nil) rfl rfl ?_; clear hC a; intro a hC
  refine L.pu hC rfl rfl (fun _ => All.nil) rfl rfl ?_; clear hC a; intro a hC
  refine L.nil ?_
  refine hk1 _ _ ?_; clear hk1; try clear k1
  refine W.seqk fun k2 hk2 => ?_
  refine W.region ?_
  refine L.pu hC rfl rfl (fun _ => All.nil) rfl rfl ?_; clear hC a; intro a hC
  refine L.pu hC rfl rfl (fun _ => All.nil) rfl rfl ?_; clear hC a; intro a hC
  refine L.pu hC rfl rfl (fun _ => All.nil) rfl rfl ?_; clear hC a; intro a hC
  refine L.buildS (ps := [(0, 1), (1, 1), (2, 1)]) hC rfl rfl rfl (fun _ => All.nil) Try.zeroValue157 Try.underlying157 ⟨⟨rfl, Try.sizeOf37⟩, ⟨rfl, Try.sizeOf3⟩, ⟨rfl, Try.sizeOf61⟩, trivial⟩ rfl rfl rfl ?_; clear hC a; intro a hC
  refine L.pu hC rfl rfl (fun _ => All.nil) rfl rfl ?_; clear hC a; intro a hC
  refine L.callg [] hC rfl rfl Try.call92 rfl (of_ok _ size seed client ids _ (hC.at m0)) (fun b h => h.elim) rfl rfl ?_; clear hC a; intro ov a w hQ hC
  refine L.pu hC rfl rfl (fun _ => All.nil) rfl rfl ?_; clear hC a; intro a hC
  refine L.pu hC rfl rfl (fun _ => All.nil) rfl rfl ?_; clear hC a; intro a hC
  refine L.pu hC rfl rfl (fun _ => All.nil) rfl rfl ?_; clear hC a; intro a hC
  refine L.pu hC rfl rfl (fun _ => All.nil) rfl rfl ?_; clear hC a; intro a hC
  refine L.nil ?_
  refine hk2 _ _ ?_; clear hk2; try clear k2
  refine W.ret ?_
  refine retl hC rfl (.tmp rfl (.tmp rfl .nil)) rfl ?_
  replace hC := hC.subl (.cons_cons _ (.cons _ .slnil))
  exact ⟨_, rfl, trivial, hC.toPost (by simp [ownR])⟩

theorem has13_ok (v : Value) (l : List Int) (x : Int) (w0 : World) (hr : (rdR v intE l).ok w0) : Calls Try.prog 45 #[v, .int .i64 x] w0 fun e w' => e = .returned (.bool (l.any fun y => y == x)) ∧ Frm Nob w0 w' := by
  have hlen := rd_lt hr
  refine enter (μ := [rdR v intE l]) (S := Nob) (vs := [v, .int .i64 x]) Try.func45 rfl Try.ntmps45 rfl ⟨by simpa using hr, by simp⟩ (by simp [rdR]) (fun a hC => ?_)
  refine W.seqk fun k1 hk1 => ?_
  refine W.region ?_
  refine L.pu hC rfl rfl (fun _ => All.nil) rfl rfl ?_; clear hC a; intro a hC
  refine L.nil ?_
  refine hk1 _ _ ?_; clear hk1; try clear k1
  refine W.seqk fun k2 hk2 => ?_
  refine W.seqk fun k3 hk3 => ?_
  refine W.region ?_
  refine L.pu hC rfl rfl (fun _ => All.nil) rfl rfl ?_; clear hC a; intro a hC
  refine L.nil ?_
  refine hk3 _ _ ?_; clear hk3; try clear k3
  refine W.block ?_
  refine W.loop (fun (j : Nat) a w' => (j ≤ l.length) ∧ (∀ y ∈ l.take j, (y == x) = false) ∧ Conf 18 Nob w0 [(5, (none, .int .i64 (j : Int))), (1, (none, .int .i64 x)), (0, (none, v))] [rdR v intE l] a w') (fun (j : Nat) => l.length - j) 0 ?_ ?_
  · exact ⟨Nat.zero_le _, by simp, hC.keep ⟨rfl, rfl, rfl, trivial⟩⟩
  · rintro j a w ⟨hj, ho, hC⟩
    refine W.seqk fun k4 hk4 => ?_
    refine W.seqk fun k5 hk5 => ?_
    refine W.region ?_
    refine L.pu hC rfl rfl (fun _ => All.nil) rfl rfl ?_; clear hC a; intro a hC
    refine L.pu hC rfl rfl (fun _ => All.nil) rfl rfl ?_; clear hC a; intro a hC
    refine L.len hC rfl rfl rfl (fun _ => All.nil) (rd_form (hC.at m0)) Try.underlying37 rfl rfl ?_; clear hC a; intro a hC
    refine L.pu hC rfl rfl (fun _ => All.nil) rfl rfl ?_; clear hC a; intro a hC
    refine L.nil ?_
    refine hk5 _ _ ?_; clear hk5; try clear k5
    refine W.cond hC rfl (fun h1 => ?_) (fun h1 => ?_)
    ·
      have h1 := of_decide_eq_true h1
      refine W.skip ?_
      refine hk4 _ _ ?_; clear hk4; try clear k4
      refine W.seqk fun k6 hk6 => ?_
      refine W.block ?_
      refine W.seqk fun k7 hk7 => ?_
      refine W.region ?_
      refine L.pu hC rfl rfl (fun _ => All.nil) rfl rfl ?_; clear hC a; intro a hC
      refine L.pu hC rfl rfl (fun _ => All.nil) rfl rfl ?_; clear hC a; intro a hC
      refine L.ixr hC rfl rfl rfl rfl m0 (fun _ => All.nil) (fun _ => All.nil) Try.underlying37 Try.sizeOf3 (fun _ => by omega) rfl rfl ?_; clear hC a; intro a hC
      refine L.ldx hC rfl rfl rfl rfl (fun _ => All.nil) (fun hg => rd_bang hC m0 (by omega) _) Try.isAgg3 rfl rfl rfl ?_; clear hC a; intro a hC
      refine L.pu hC rfl rfl (fun _ => All.nil) rfl rfl ?_; clear hC a; intro a hC
      refine L.pu hC rfl rfl (fun _ => All.nil) rfl rfl ?_; clear hC a; intro a hC
      refine L.nil ?_
      refine hk7 _ _ ?_; clear hk7; try clear k7
      refine W.cond hC rfl (fun h2 => ?_) (fun h2 => ?_)
      ·
        refine W.seqk fun k8 hk8 => ?_
        refine W.region ?_
        refine L.pu hC rfl rfl (fun _ => All.nil) rfl rfl ?_; clear hC a; intro a hC
        refine L.nil ?_
        refine hk8 _ _ ?_; clear hk8; try clear k8
        refine W.ret ?_
        refine rets hC rfl (.tmp rfl .nil) ?_
        refine ⟨?_, hC.frm⟩
        refine rb ?_
        exact (any_yes (bang_mem (by omega)) h2).symm
      ·
        refine W.skip ?_
        refine hk6 _ _ ?_; clear hk6; try clear k6
        refine W.region ?_
        refine L.pu hC rfl rfl (fun _ => All.nil) rfl rfl ?_; clear hC a; intro a hC
        refine L.pu hC rfl rfl (fun _ => All.nil) rfl rfl ?_; clear hC a; intro a hC
        refine L.pu hC rfl rfl (fun _ => All.nil) rfl rfl ?_; clear hC a; intro a hC
        refine L.nil ?_
        exact ⟨j + 1, ⟨by omega, fidx_step ho (by omega) h2, hC.keep ⟨geti rfl (w64 (by omega)), rfl, rfl, trivial⟩⟩, by first | omega | (dsimp only; omega)⟩
    ·
      have h1 := of_decide_eq_false h1
      refine W.exit ?_
      refine Kb.here ?_
      refine hk2 _ _ ?_; clear hk2; try clear k2
      refine W.seqk fun k9 hk9 => ?_
      refine W.region ?_
      refine L.pu hC rfl rfl (fun _ => All.nil) rfl rfl ?_; clear hC a; intro a hC
      refine L.nil ?_
      refine hk9 _ _ ?_; clear hk9; try clear k9
      refine W.ret ?_
      refine rets hC rfl (.tmp rfl .nil) ?_
      refine ⟨?_, hC.frm⟩
      refine rb ?_
      exact (any_no (by rwa [List.take_of_length_le (by omega)] at ho)).symm

end Go.Proofs.E
