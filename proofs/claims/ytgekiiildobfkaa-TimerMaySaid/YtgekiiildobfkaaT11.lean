/- Part of the proof: what the functions of this program compute. -/
import Derived.Test.YtgekiiildobfkaaT10
set_option linter.unusedVariables false
set_option linter.unusedSimpArgs false
namespace Go.Proofs.E
open Go.RowKit
theorem sinkH_len (l : List (Int × Int)) (i : Nat) : (sinkH l i).length = l.length := by
  generalize hm : l.length - i = m
  induction m using Nat.strongRecOn generalizing l i with
  | _ m ih =>
    by_cases h : 2 * i + 1 < l.length
    · by_cases hn : ordI l[kid l i]! l[i]! < 0
      · have h1 := kid_le l i
        have h2 := kid_lt h
        have e : (swp l i (kid l i)).length = l.length := by simp [swp]
        rw [sinkH_step h rfl hn, ih (l.length - kid l i) (by omega) _ _ (by rw [e]), e]
      · rw [sinkH_stop h rfl hn]
    · rw [sinkH_end h]
theorem popH_len {l : List (Int × Int)} (h : 0 < l.length) : (popH l).length = l.length - 1 := by
  rw [popH, sinkH_len, List.length_take, List.length_set]; omega
def Due (l : List (Int × Int)) (tick : Int) : Prop := 0 < l.length ∧ l[0]!.1 ≤ tick
instance (l : List (Int × Int)) (tick : Int) : Decidable (Due l tick) := inferInstanceAs (Decidable (_ ∧ _))
def dueT (l : List (Int × Int)) (tick : Int) (ids : List Int) : List (Int × Int) × List Int :=
  if h : Due l tick then dueT (popH l) tick (ids ++ [l[0]!.2]) else (l, ids)
  termination_by l.length
  decreasing_by
    have h1 := popH_len h.1
    have h2 := h.1
    omega
theorem dueT_step {l : List (Int × Int)} {tick : Int} {ids : List Int} (h : Due l tick) : dueT l tick ids = dueT (popH l) tick (ids ++ [l[0]!.2]) := by rw [dueT, dif_pos h]
theorem dueT_end {l : List (Int × Int)} {tick : Int} {ids : List Int} (h : ¬ Due l tick) : dueT l tick ids = (l, ids) := by rw [dueT, dif_neg h]
theorem due_go {l : List (Int × Int)} {tick : Int} (h : (decide ((l.length : Int) > 0) && decide (l[0]!.1 ≤ tick)) = true) : Due l tick := by
  rw [Bool.and_eq_true, decide_eq_true_eq, decide_eq_true_eq] at h
  exact ⟨by omega, h.2⟩
theorem due_no {l : List (Int × Int)} {tick : Int} (h : (decide ((l.length : Int) > 0) && decide (l[0]!.1 ≤ tick)) = false) : ¬ Due l tick := by
  rintro ⟨h1, h2⟩
  rw [Bool.and_eq_false_iff, decide_eq_false_iff_not, decide_eq_false_iff_not] at h
  rcases h with h | h
  · omega
  · exact h h2
def dueR (l : List (Int × Int)) (tick : Int) : List (Int × Int) × List Int × Int := if (chkT l != 0) = true then ([], [], chkT l) else ((dueT l tick []).1, (dueT l tick []).2, 0)
theorem dueR_bad {l : List (Int × Int)} {tick : Int} (h : (chkT l != 0) = true) : dueR l tick = ([], [], chkT l) := if_pos h
theorem dueR_good {l : List (Int × Int)} {tick : Int} (h : (chkT l != 0) = false) : dueR l tick = ((dueT l tick []).1, (dueT l tick []).2, 0) := if_neg (by simp [h])
def canT : List (Int × Int) → List (Int × Int) → List Int → List (Int × Int)
  | h, [], _ => h
  | h, t :: l, ids => if (ids.any fun y => t.2 == y) = true then canT h l ids else canT (pushH h t) l ids
theorem canT_drop {h l : List (Int × Int)} {ids : List Int} {j : Nat} (hj : j < l.length) : canT h (l.drop j) ids = if (ids.any fun y => l[j]!.2 == y) = true then canT h (l.drop (j + 1)) ids else canT (pushH h l[j]!) (l.drop (j + 1)) ids := by
  rw [List.drop_eq_getElem_cons hj, canT, bang hj]
theorem canT_push {h l : List (Int × Int)} {ids : List Int} {j : Nat} (hj : j < l.length) (hn : (!(ids.any fun y => l[j]!.2 == y)) = true) : canT h (l.drop j) ids = canT (pushH h l[j]!) (l.drop (j + 1)) ids := by
  rw [canT_drop hj, if_neg (by rw [Bool.not_eq_true'] at hn; rw [hn]; simp)]
theorem canT_skip {h l : List (Int × Int)} {ids : List Int} {j : Nat} (hj : j < l.length) (hn : (!(ids.any fun y => l[j]!.2 == y)) = false) : canT h (l.drop j) ids = canT h (l.drop (j + 1)) ids := by
  rw [canT_drop hj, if_pos (by rw [Bool.not_eq_false'] at hn; exact hn)]
def canR (l : List (Int × Int)) (ids : List Int) : List (Int × Int) × Int × Int := if (chkT l != 0) = true then ([], 0, chkT l) else (canT [] l ids, (l.length : Int) - (canT [] l ids).length, 0)
theorem canR_bad {l : List (Int × Int)} {ids : List Int} (h : (chkT l != 0) = true) : canR l ids = ([], 0, chkT l) := if_pos h
theorem canR_good {l : List (Int × Int)} {ids : List Int} (h : (chkT l != 0) = false) : canR l ids = (canT [] l ids, (l.length : Int) - (canT [] l ids).length, 0) := if_neg (by simp [h])
theorem pop_ok (b : Nat) (v : Value) (l : List (Int × Int)) (w0 : World) (hM : Mem [blkR b [v] 126, ownR v 25 timE l] w0) (hl : l.length ≤ 1000000) (h0 : 0 < l.length) : Calls Try.prog 72 #[.pointer (some ⟨b, 0, none⟩)] w0 fun e w' => ∃ v' : Value, e = .returned (.agg (timE.enc l[0]!).toArray) ∧ True ∧ Post (fun c => c = b ∨ v.ownBlock = some c) [blkR b [v'] 126, ownR v' 25 timE (popH l)] w0 w' := by
  refine enter (μ := [blkR b [v] 126, ownR v 25 timE l]) (S := (fun c => c = b ∨ v.ownBlock = some c)) (vs := [.pointer (some ⟨b, 0, none⟩)]) Try.func72 rfl Try.ntmps72 rfl hM (by simp [ownR, blkR]; intro c h; exact .inr h) (fun a hC => ?_)
  refine W.seqk fun k1 hk1 => ?_
  refine W.region ?_
  refine L.alloc hC rfl rfl Try.zeroValue25 rfl rfl rfl ?_; clear hC a; intro rb a w hF hC
  refine L.nil ?_
  refine hk1 _ _ ?_; clear hk1; try clear k1
  refine W.seqk fun k2 hk2 => ?_
  refine W.region ?_
  refine L.pu hC rfl rfl (fun _ => All.nil) rfl rfl ?_; clear hC a; intro a hC
  refine L.pu hC rfl rfl (fun _ => All.nil) rfl rfl ?_; clear hC a; intro a hC
  refine L.ld hC rfl rfl rfl (fun _ => All.nil) m1 Try.isAgg126 rfl rfl rfl ?_; clear hC a; intro a hC
  refine L.pu hC rfl rfl (fun _ => All.nil) rfl rfl ?_; clear hC a; intro a hC
  refine L.nil ?_
  refine hk2 _ _ ?_; clear hk2; try clear k2
  refine W.seqk fun k3 hk3 => ?_
  refine W.region ?_
  refine L.pu hC rfl rfl (fun _ => All.nil) rfl rfl ?_; clear hC a; intro a hC
  refine L.ixo hC rfl rfl rfl rfl m2 (fun _ => All.nil) (fun _ => All.nil) Try.underlying126 Try.sizeOf25 (fun _ => by omega) rfl rfl ?_; clear hC a; intro a hC
  refine L.ldxa hC rfl rfl rfl rfl (fun _ => All.nil) (fun hg => own_bang hC m2 (by omega) _) Try.isAgg25 Try.sizeOf25 rfl rfl rfl rfl ?_; clear hC a; intro a hC
  refine L.pu hC rfl rfl (fun _ => All.nil) rfl rfl ?_; clear hC a; intro a hC
  refine L.len hC rfl rfl rfl (fun _ => All.nil) (own_form (hC.at m2)) Try.underlying126 rfl rfl ?_; clear hC a; intro a hC
  refine L.pu hC rfl rfl (fun _ => All.nil) rfl rfl ?_; clear hC a; intro a hC
  refine L.alloc hC rfl rfl Try.zeroValue25 rfl rfl rfl ?_; clear hC a; intro ob a w hF hC
  refine L.st hC rfl rfl rfl rfl Try.sizeOf25 rfl rfl rfl rfl rfl ?_; clear hC a; intro a w hF hC
  refine L.pu hC rfl rfl (fun _ => All.nil) rfl rfl ?_; clear hC a; intro a hC
  replace hC := hC.slot (d := 5) (geti (b := ((l.length - 1 : Nat) : Int)) rfl (by rw [w64 (by omega)]; omega))
  refine L.nil ?_
  refine hk3 _ _ ?_; clear hk3; try clear k3
  refine W.seqk fun k4 hk4 => ?_
  refine W.region ?_
  refine L.pu hC rfl rfl (fun _ => All.nil) rfl rfl ?_; clear hC a; intro a hC
  refine L.pu hC rfl rfl (fun _ => All.nil) rfl rfl ?_; clear hC a; intro a hC
  refine L.pu hC rfl rfl (fun _ => All.nil) rfl rfl ?_; clear hC a; intro a hC
  refine L.ixo hC rfl rfl rfl rfl m3 (fun _ => All.nil) (fun _ => All.nil) Try.underlying126 Try.sizeOf25 (fun _ => by omega) rfl rfl ?_; clear hC a; intro a hC
  refine L.ldxa hC rfl rfl rfl rfl (fun _ => All.nil) (fun hg => own_bang hC m3 (by omega) _) Try.isAgg25 Try.sizeOf25 rfl rfl rfl rfl ?_; clear hC a; intro a hC
  refine L.ixo hC rfl rfl rfl rfl m3 (fun _ => All.nil) (fun _ => All.nil) Try.underlying126 Try.sizeOf25 (fun _ => by omega) rfl rfl ?_; clear hC a; intro a hC
  replace hC := hC.fr3
  refine L.ste hC rfl rfl rfl rfl rfl Try.sizeOf25 rfl rfl rfl (by omega) (Nat.le_of_ble_eq_true rfl) (x' := l[l.length - 1]!) rfl rfl ?_; clear hC a; intro a w hF hC
  refine L.nil ?_
  refine hk4 _ _ ?_; clear hk4; try clear k4
  refine W.seqk fun k5 hk5 => ?_
  refine W.region ?_
  refine L.pu hC rfl rfl (fun _ => All.nil) rfl rfl ?_; clear hC a; intro a hC
  refine L.pu hC rfl rfl (fun _ => All.nil) rfl rfl ?_; clear hC a; intro a hC
  refine L.pu hC rfl rfl (fun _ => All.nil) rfl rfl ?_; clear hC a; intro a hC
  refine L.cutown hC rfl rfl rfl rfl (m := l.length - 1) rfl (by rw [List.length_set]; omega) Try.underlying126 Try.sizeOf25 rfl rfl ?_; clear hC a; intro v4 a hC
  refine L.pu hC rfl rfl (fun _ => All.nil) rfl rfl ?_; clear hC a; intro a hC
  replace hC := hC.fr3
  refine L.st hC rfl rfl rfl rfl Try.sizeOf126 (cells_sl (own_form (hC.at m1))) rfl (one_sl (own_form (hC.at m1))) rfl rfl ?_; clear hC a; intro a w hF hC
  refine L.nil ?_
  refine hk5 _ _ ?_; clear hk5; try clear k5
  refine W.seqk fun k6 hk6 => ?_
  refine W.region ?_
  refine L.pu hC rfl rfl (fun _ => All.nil) rfl rfl ?_; clear hC a; intro a hC
  replace hC := hC.fr1
  replace hC := hC.fr1
  refine L.callg [_, _] hC rfl rfl Try.call115 rfl (sink_ok b _ _ _ (Mem.app_left (μ1 := [_, _]) hC.mem) (by rw [List.length_take, List.length_set]; omega)) (fun c h => h.elim (fun h => ⟨_, m0, h⟩) (fun h => ⟨_, m1, h⟩)) rfl rfl ?_; clear hC a; intro _ a w hQ hC
  refine L.nil ?_
  refine hk6 _ _ ?_; clear hk6; try clear k6
  refine W.seqk fun k7 hk7 => ?_
  refine W.region ?_
  refine L.lda hC rfl rfl rfl (fun _ => All.nil) m2 Try.isAgg25 Try.sizeOf25 rfl rfl rfl rfl ?_; clear hC a; intro a hC
  replace hC := hC.fr3
  refine L.st hC rfl rfl rfl rfl Try.sizeOf25 rfl rfl rfl rfl rfl ?_; clear hC a; intro a w hF hC
  refine L.nil ?_
  refine hk7 _ _ ?_; clear hk7; try clear k7
  refine W.ret ?_
  refine rets hC rfl (.agg rfl m0 Try.isAgg25 Try.sizeOf25 rfl .nil) ?_
  replace hC := hC.subl (.cons _ (.cons_cons _ (.cons_cons _ (.cons _ .slnil))))
  replace hC := hC.fr1
  replace hC := hC.fr1
  exact ⟨_, rfl, trivial, hC.toPost (by simp [ownR, blkR])⟩

theorem idxI_ok (v : Value) (l : List Int) (x : Int) (w0 : World) (hr : (rdR v intE l).ok w0) : Calls Try.prog 116 #[v, .int .i64 x] w0 fun e w' => e = .returned (.int .i64 (fidx (fun y => x == y) l)) ∧ Frm Nob w0 w' := by
  have hlen := rd_lt hr
  refine enter (μ := [rdR v intE l]) (S := Nob) (vs := [v, .int .i64 x]) Try.func116 rfl Try.ntmps116 rfl ⟨by simpa using hr, by simp⟩ (by simp [rdR]) (fun a hC => ?_)
  refine W.seqk fun k1 hk1 => ?_
  refine W.region ?_
  refine L.pu hC rfl rfl (fun _ => All.nil) rfl rfl ?_; clear hC a; intro a hC
  refine L.nil ?_
  refine hk1 _ _ ?_; clear hk1; try clear k1
  refine W.seqk fun k2 hk2 => ?_
  refine W.seqk fun k3 hk3 => ?_
  refine W.region ?_
  refine L.pu hC rfl rfl (fun _ => All.nil) rfl rfl ?_; clear hC a; intro a hC
  refine L.len hC rfl rfl rfl (fun _ => All.nil) (rd_form (hC.at m0)) Try.underlying37 rfl rfl ?_; clear hC a; intro a hC
  refine L.pu hC rfl rfl (fun _ => All.nil) rfl rfl ?_; clear hC a; intro a hC
  refine L.nil ?_
  refine hk3 _ _ ?_; clear hk3; try clear k3
  refine W.block ?_
  refine W.loop (fun (j : Nat) a w' => (j ≤ l.length) ∧ (∀ y ∈ l.take j, (x == y) = false) ∧ Conf 19 Nob w0 [(8, (none, .int .i64 (j : Int))), (7, (none, .int .i64 (l.length : Int))), (6, (none, v)), (1, (none, .int .i64 x)), (0, (none, v))] [rdR v intE l] a w') (fun (j : Nat) => l.length - j) 0 ?_ ?_
  · exact ⟨Nat.zero_le _, by simp, hC.keep ⟨rfl, rfl, rfl, rfl, rfl, trivial⟩⟩
  · rintro j a w ⟨hj, ho, hC⟩
    refine W.seqk fun k4 hk4 => ?_
    refine W.region ?_
    refine L.pu hC rfl rfl (fun _ => All.nil) rfl rfl ?_; clear hC a; intro a hC
    refine L.nil ?_
    refine hk4 _ _ ?_; clear hk4; try clear k4
    refine W.seqk fun k5 hk5 => ?_
    refine W.cond hC rfl (fun h1 => ?_) (fun h1 => ?_)
    ·
      have h1 := of_decide_eq_true h1
      refine W.skip ?_
      refine hk5 _ _ ?_; clear hk5; try clear k5
      refine W.seqk fun k6 hk6 => ?_
      refine W.block ?_
      refine W.seqk fun k7 hk7 => ?_
      refine W.region ?_
      refine L.pu hC rfl rfl (fun _ => All.nil) rfl rfl ?_; clear hC a; intro a hC
      refine L.pu hC rfl rfl (fun _ => All.nil) rfl rfl ?_; clear hC a; intro a hC
      refine L.nil ?_
      refine hk7 _ _ ?_; clear hk7; try clear k7
      refine W.seqk fun k8 hk8 => ?_
      refine W.region ?_
      refine L.pu hC rfl rfl (fun _ => All.nil) rfl rfl ?_; clear hC a; intro a hC
      refine L.pu hC rfl rfl (fun _ => All.nil) rfl rfl ?_; clear hC a; intro a hC
      refine L.pu hC rfl rfl (fun _ => All.nil) rfl rfl ?_; clear hC a; intro a hC
      refine L.ixr hC rfl rfl rfl rfl m0 (fun _ => All.nil) (fun _ => All.nil) Try.underlying37 Try.sizeOf3 (fun _ => by omega) rfl rfl ?_; clear hC a; intro a hC
      refine L.ldx hC rfl rfl rfl rfl (fun _ => All.nil) (fun hg => rd_bang hC m0 (by omega) _) Try.isAgg3 rfl rfl rfl ?_; clear hC a; intro a hC
      refine L.pu hC rfl rfl (fun _ => All.nil) rfl rfl ?_; clear hC a; intro a hC
      refine L.nil ?_
      refine hk8 _ _ ?_; clear hk8; try clear k8
      refine W.cond hC rfl (fun h2 => ?_) (fun h2 => ?_)
      ·
        refine W.seqk fun k9 hk9 => ?_
        refine W.region ?_
        refine L.pu hC rfl rfl (fun _ => All.nil) rfl rfl ?_; clear hC a; intro a hC
        refine L.pu hC rfl rfl (fun _ => All.nil) rfl rfl ?_; clear hC a; intro a hC
        refine L.nil ?_
        refine hk9 _ _ ?_; clear hk9; try clear k9
        refine W.ret ?_
        refine rets hC rfl (.tmp rfl .nil) ?_
        refine ⟨?_, hC.frm⟩
        refine ri ?_
        exact (fidx_here ho (by omega) h2).symm
      ·
        refine W.skip ?_
        refine hk6 _ _ ?_; clear hk6; try clear k6
        refine W.region ?_
        refine L.pu hC rfl rfl (fun _ => All.nil) rfl rfl ?_; clear hC a; intro a hC
        refine L.pu hC rfl rfl (fun _ => All.nil) rfl rfl ?_; clear hC a; intro a hC
        refine L.nil ?_
        exact ⟨j + 1, ⟨by omega, fidx_step ho (by omega) h2, hC.keep ⟨geti rfl (w64 (by omega)), rfl, rfl, rfl, rfl, trivial⟩⟩, by first | omega | (dsimp only; omega)⟩
    ·
      have h1 := of_decide_eq_false h1
      refine W.exit ?_
      refine Kb.here ?_
      refine hk2 _ _ ?_; clear hk2; try clear k2
      refine W.seqk fun k10 hk10 => ?_
      refine W.region ?_
      refine L.pu hC rfl rfl (fun _ => All.nil) rfl rfl ?_; clear hC a; intro a hC
      refine L.nil ?_
      refine hk10 _ _ ?_; clear hk10; try clear k10
      refine W.ret ?_
      refine rets hC rfl (.tmp rfl .nil) ?_
      refine ⟨?_, hC.frm⟩
      refine ri ?_
      exact (fidx_none (by rwa [List.take_of_length_le (by omega)] at ho)).symm

theorem hasI_ok (v : Value) (l : List Int) (x : Int) (w0 : World) (hr : (rdR v intE l).ok w0) : Calls Try.prog 73 #[v, .int .i64 x] w0 fun e w' => e = .returned (.bool (l.any fun y => x == y)) ∧ Frm Nob w0 w' := by
  refine enter (μ := [rdR v intE l]) (S := Nob) (vs := [v, .int .i64 x]) Try.func73 rfl Try.ntmps73 rfl ⟨by simpa using hr, by simp⟩ (by simp [rdR]) (fun a hC => ?_)
  refine W.seqk fun k1 hk1 => ?_
  refine W.region ?_
  refine L.pu hC rfl rfl (fun _ => All.nil) rfl rfl ?_; clear hC a; intro a hC
  refine L.nil ?_
  refine hk1 _ _ ?_; clear hk1; try clear k1
  refine W.seqk fun k2 hk2 => ?_
  refine W.region ?_
  refine L.pu hC rfl rfl (fun _ => All.nil) rfl rfl ?_; clear hC a; intro a hC
  refine L.pu hC rfl rfl (fun _ => All.nil) rfl rfl ?_; clear hC a; intro a hC
  refine L.call hC rfl rfl Try.call116 rfl (fun _ => All.nil) (fun hg => idxI_ok v l x _ (hC.at m0)) rfl rfl ?_; clear hC a; intro a w hF hC
  refine L.pu hC rfl rfl (fun _ => All.nil) rfl rfl ?_; clear hC a; intro a hC
  refine L.pu hC rfl rfl (fun _ => All.nil) rfl rfl ?_; clear hC a; intro a hC
  refine L.nil ?_
  refine hk2 _ _ ?_; clear hk2; try clear k2
  refine W.ret ?_
  refine rets hC rfl (.tmp rfl .nil) ?_
  refine ⟨?_, hC.frm⟩
  refine rb ?_
  exact fidx_ge

theorem due20_ok (v : Value) (l : List (Int × Int)) (tick : Int) (w0 : World) (hr : (rdR v timE l).ok w0) : Calls Try.prog 23 #[v, .int .i64 tick] w0 fun e w' => ∃ r : Value × Value, e = .returned (.tuple #[r.1, r.2, .int .i64 (dueR l tick).2.2]) ∧ True ∧ Post Nob [ownR r.1 25 timE (dueR l tick).1, ownR r.2 3 intE (dueR l tick).2.1] w0 w' := by
  refine enter (μ := [rdR v timE l]) (S := Nob) (vs := [v, .int .i64 tick]) Try.func23 rfl Try.ntmps23 rfl ⟨by simpa using hr, by simp⟩ (by simp [rdR]) (fun a hC => ?_)
  refine W.seqk fun k1 hk1 => ?_
  refine W.region ?_
  refine L.pu hC rfl rfl (fun _ => All.nil) rfl rfl ?_; clear hC a; intro a hC
  refine L.pu hC rfl rfl (fun _ => All.nil) rfl rfl ?_; clear hC a; intro a hC
  refine L.pu hC rfl rfl (fun _ => All.nil) rfl rfl ?_; clear hC a; intro a hC
  refine L.nil ?_
  refine hk1 _ _ ?_; clear hk1; try clear k1
  refine W.seqk fun k2 hk2 => ?_
  refine W.seqk fun k3 hk3 => ?_
  refine W.region ?_
  refine L.pu hC rfl rfl (fun _ => All.nil) rfl rfl ?_; clear hC a; intro a hC
  refine L.call hC rfl rfl Try.call25 rfl (fun _ => All.nil) (fun hg => check20_ok _ _ _ (hC.at m0)) rfl rfl ?_; clear hC a; intro a w hF hC
  refine L.pu hC rfl rfl (fun _ => All.nil) rfl rfl ?_; clear hC a; intro a hC
  refine L.nil ?_
  refine hk3 _ _ ?_; clear hk3; try clear k3
  refine W.seqk fun k4 hk4 => ?_
  refine W.region ?_
  refine L.pu hC rfl rfl (fun _ => All.nil) rfl rfl ?_; clear hC a; intro a hC
  refine L.pu hC rfl rfl (fun _ => All.nil) rfl rfl ?_; clear hC a; intro a hC
  refine L.nil ?_
  refine hk4 _ _ ?_; clear hk4; try clear k4
  refine W.cond hC rfl (fun h1 => ?_) (fun h1 => ?_)
  ·
    refine W.seqk fun k5 hk5 => ?_
    refine W.region ?_
    refine L.pu hC rfl rfl (fun _ => All.nil) rfl rfl ?_; clear hC a; intro a hC
    refine L.pu hC rfl rfl (fun _ => All.nil) rfl rfl ?_; clear hC a; intro a hC
    refine L.pu hC rfl rfl (fun _ => All.nil) rfl rfl ?_; clear hC a; intro a hC
    refine L.pu hC rfl rfl (fun _ => All.nil) rfl rfl ?_; clear hC a; intro a hC
    refine L.nil ?_
    refine hk5 _ _ ?_; clear hk5; try clear k5
    refine W.ret ?_
    refine retl hC rfl (.tmp rfl (.tmp rfl (.tmp rfl .nil))) rfl ?_
    replace hC := (hC.drop).nilown (ty := 3) (E := intE)
    replace hC := hC.nilown (ty := 25) (E := timE)
    exact ⟨(_, _), by rw [dueR_bad h1], trivial, by rw [dueR_bad h1]; exact hC.toPost (by simp [ownR])⟩
  ·
    refine W.skip ?_
    refine hk2 _ _ ?_; clear hk2; try clear k2
    refine W.seqk fun k6 hk6 => ?_
    refine W.region ?_
    refine L.pu hC rfl rfl (fun _ => All.nil) rfl rfl ?_; clear hC a; intro a hC
    have hlen := chk_len (by simpa using h1)
    refine L.callg [] hC rfl rfl Try.call67 rfl (cloneT_ok _ _ _ (hC.at m0) (by omega)) (fun b h => h.elim) rfl rfl ?_; clear hC a; intro hv a w hQ hC
    refine L.alloc hC rfl rfl Try.zeroValue126 rfl rfl rfl ?_; clear hC a; intro hb a w hF hC
    refine L.st hC rfl rfl rfl rfl Try.sizeOf126 (cells_sl (own_form (hC.at m1))) rfl (one_sl (own_form (hC.at m1))) rfl rfl ?_; clear hC a; intro a w hF hC
    refine L.nil ?_
    refine hk6 _ _ ?_; clear hk6; try clear k6
    refine W.seqk fun k7 hk7 => ?_
    refine W.region ?_
    refine L.pu hC rfl rfl (fun _ => All.nil) rfl rfl ?_; clear hC a; intro a hC
    refine L.nil ?_
    refine hk7 _ _ ?_; clear hk7; try clear k7
    refine W.seqk fun k8 hk8 => ?_
    refine W.block ?_
    replace hC := hC.nilown (ty := 3) (E := intE)
    replace hC := hC.subl (.cons_cons _ (.cons_cons _ (.cons_cons _ (.cons _ .slnil))))
    replace hC := hC.fr2
    replace hC := hC.fr2
    refine W.loop (fun (s : Value × (List (Int × Int)) × Value × List Int) a w' => match s with | ⟨hv, h, iv, ids⟩ => (h.length + ids.length ≤ 1024) ∧ (dueT h tick ids = dueT l tick []) ∧ Conf 35 Nob w0 [(9, (none, iv)), (8, (none, .pointer (some ⟨hb, 0, none⟩))), (1, (none, .int .i64 tick))] [blkR hb [hv] 126, ownR hv 25 timE h, ownR iv 3 intE ids] a w') (fun (s : Value × (List (Int × Int)) × Value × List Int) => match s with | ⟨hv, h, iv, ids⟩ => h.length) (hv, l, .slice none 0 0, []) ?_ ?_
    · exact ⟨by simpa using hlen, rfl, hC.keep ⟨rfl, rfl, rfl, trivial⟩⟩
    · rintro ⟨hv, h, iv, ids⟩ a w ⟨hh, hd, hC⟩
      refine W.seqk fun k9 hk9 => ?_
      refine W.seqk fun k10 hk10 => ?_
      refine W.region ?_
      refine L.ld hC rfl rfl rfl (fun _ => All.nil) m0 Try.isAgg126 rfl rfl rfl ?_; clear hC a; intro a hC
      refine L.len hC rfl rfl rfl (fun _ => All.nil) (own_form (hC.at m1)) Try.underlying126 rfl rfl ?_; clear hC a; intro a hC
      refine L.pu hC rfl rfl (fun _ => All.nil) rfl rfl ?_; clear hC a; intro a hC
      refine L.pu hC rfl rfl (fun _ => All.nil) rfl rfl ?_; clear hC a; intro a hC
      refine L.ld hC rfl rfl rfl (fun _ => All.nil) m0 Try.isAgg126 rfl rfl rfl ?_; clear hC a; intro a hC
      refine L.ixo hC rfl rfl rfl rfl m1 (fun hg => by simp only [Gt, Bool.and_eq_true] at hg; simp only [All, List.cons_append, List.nil_append, List.append_nil, List.mem_cons, List.not_mem_nil, or_false, forall_eq_or_imp, forall_eq, Bool.and_eq_true, hg, Bool.not_false, Bool.not_true, and_self]) (fun _ => All.nil) Try.underlying126 Try.sizeOf25 (fun hg => by have := of_decide_eq_true hg; omega) rfl rfl ?_; clear hC a; intro a hC
      refine L.fae hC rfl rfl rfl (fun hg => by simp only [Gt, Bool.and_eq_true] at hg; simp only [All, List.cons_append, List.nil_append, List.append_nil, List.mem_cons, List.not_mem_nil, or_false, forall_eq_or_imp, forall_eq, Bool.and_eq_true, hg, Bool.not_false, Bool.not_true, and_self]) Try.underlying25 rfl Try.sizeOf3 rfl (fun hg => own_some (hC.at m1) (by have := of_decide_eq_true hg; omega)) rfl rfl ?_; clear hC a; intro a hC
      refine L.ldx hC rfl rfl rfl rfl (fun hg => by simp only [Gt, Bool.and_eq_true] at hg; simp only [All, List.cons_append, List.nil_append, List.append_nil, List.mem_cons, List.not_mem_nil, or_false, forall_eq_or_imp, forall_eq, Bool.and_eq_true, hg, Bool.not_false, Bool.not_true, and_self]) (fun hg => own_bang hC m1 (by have := of_decide_eq_true hg; omega) _) Try.isAgg3 rfl rfl rfl ?_; clear hC a; intro a hC
      refine L.pu hC rfl rfl (fun _ => All.nil) rfl rfl ?_; clear hC a; intro a hC
      refine L.pu hC rfl rfl (fun hg => by simp only [Gt, Bool.and_eq_true] at hg; simp only [All, List.cons_append, List.nil_append, List.append_nil, List.mem_cons, List.not_mem_nil, or_false, forall_eq_or_imp, forall_eq, Bool.and_eq_true, hg, Bool.not_false, Bool.not_true, and_self]) rfl rfl ?_; clear hC a; intro a hC
      refine L.and hC rfl rfl rfl rfl (fun _ => All.nil) (fun _ hp => by simp only [All, List.cons_append, List.nil_append, List.append_nil, List.mem_cons, List.not_mem_nil, or_false, forall_eq_or_imp, forall_eq, Bool.and_eq_true, hp, Bool.not_false, Bool.not_true, and_self]) rfl rfl ?_; clear hC a; intro a hC
      refine L.nil ?_
      refine hk10 _ _ ?_; clear hk10; try clear k10
      refine W.cond hC rfl (fun h2 => ?_) (fun h2 => ?_)
      ·
        have h2 := due_go h2
        refine W.skip ?_
        refine hk9 _ _ ?_; clear hk9; try clear k9
        refine W.block ?_
        refine W.region ?_
        refine L.pu hC rfl rfl (fun _ => All.nil) rfl rfl ?_; clear hC a; intro a hC
        replace hC := hC.fr1
        replace hC := hC.fr1
        refine L.callg [_, _] hC rfl rfl Try.call72 rfl (pop_ok hb hv h _ (Mem.app_left (μ1 := [_, _]) hC.mem) (by omega) h2.1) (fun c h => h.elim (fun h => ⟨_, m0, h⟩) (fun h => ⟨_, m1, h⟩)) rfl rfl ?_; clear hC a; intro hv' a w hQ hC
        refine L.fld hC rfl rfl rfl (fun _ => All.nil) Try.underlying25 rfl Try.isAgg3 rfl rfl rfl ?_; clear hC a; intro a hC
        refine L.bsP hC rfl rfl rfl Try.underlying37 Try.infoI3 rfl rfl rfl rfl rfl rfl rfl ?_; clear hC a; intro b2 a w hF hC
        replace hC := hC.fr3
        refine L.app (xs := [h[0]!.2]) hC rfl rfl rfl rfl ⟨_, _, rfl, lit_cells (hC.at m1) rfl⟩ Try.underlying37 Try.infoI3 rfl (by simp; omega) (by simp; omega) rfl rfl ?_; clear hC a; intro v3 a w hF hC
        refine L.pu hC rfl rfl (fun _ => All.nil) rfl rfl ?_; clear hC a; intro a hC
        refine L.nil ?_
        replace hC := hC.subl (.cons_cons _ (.cons _ (.cons_cons _ (.cons_cons _ .slnil))))
        replace hC := hC.fr2
        replace hC := hC.fr2
        exact ⟨(hv', popH h, v3, ids ++ [h[0]!.2]), ⟨by rw [popH_len h2.1]; have := h2.1; simp; omega, by rw [← hd]; exact (dueT_step h2).symm, hC.keep ⟨rfl, rfl, rfl, trivial⟩⟩, by dsimp only; rw [popH_len h2.1]; have := h2.1; omega⟩
      ·
        have h2 := due_no h2
        refine W.exit ?_
        refine Kb.here ?_
        refine hk8 _ _ ?_; clear hk8; try clear k8
        refine W.seqk fun k11 hk11 => ?_
        refine W.region ?_
        refine L.ld hC rfl rfl rfl (fun _ => All.nil) m0 Try.isAgg126 rfl rfl rfl ?_; clear hC a; intro a hC
        refine L.pu hC rfl rfl (fun _ => All.nil) rfl rfl ?_; clear hC a; intro a hC
        refine L.pu hC rfl rfl (fun _ => All.nil) rfl rfl ?_; clear hC a; intro a hC
        refine L.pu hC rfl rfl (fun _ => All.nil) rfl rfl ?_; clear hC a; intro a hC
        refine L.pu hC rfl rfl (fun _ => All.nil) rfl rfl ?_; clear hC a; intro a hC
        refine L.nil ?_
        refine hk11 _ _ ?_; clear hk11; try clear k11
        refine W.ret ?_
        refine retl hC rfl (.tmp rfl (.tmp rfl (.tmp rfl .nil))) rfl ?_
        replace hC := hC.subl (.cons _ (.cons_cons _ (.cons_cons _ .slnil)))
        replace hC := hC.fr1
        replace hC := hC.fr1
        have e : dueR l tick = (h, ids, 0) := by rw [dueR_good h1, ← hd, dueT_end h2]
        exact ⟨(_, _), by rw [e], trivial, by rw [e]; exact hC.toPost (by simp [ownR])⟩

theorem cancel20_ok (v vi : Value) (l : List (Int × Int)) (ids : List Int) (w0 : World) (hr : (rdR v timE l).ok w0) (hi : (rdR vi intE ids).ok w0) : Calls Try.prog 24 #[v, vi] w0 fun e w' => ∃ r : Value, e = .returned (.tuple #[r, .int .i64 (canR l ids).2.1, .int .i64 (canR l ids).2.2]) ∧ True ∧ Post Nob [ownR r 25 timE (canR l ids).1] w0 w' := by
  refine enter (μ := [rdR v timE l, rdR vi intE ids]) (S := Nob) (vs := [v, vi]) Try.func24 rfl Try.ntmps24 rfl (Mem.rd2 hr hi) (by simp [rdR]) (fun a hC => ?_)
  refine W.seqk fun k1 hk1 => ?_
  refine W.region ?_
  refine L.pu hC rfl rfl (fun _ => All.nil) rfl rfl ?_; clear hC a; intro a hC
  refine L.pu hC rfl rfl (fun _ => All.nil) rfl rfl ?_; clear hC a; intro a hC
  refine L.pu hC rfl rfl (fun _ => All.nil) rfl rfl ?_; clear hC a; intro a hC
  refine L.nil ?_
  refine hk1 _ _ ?_; clear hk1; try clear k1
  refine W.seqk fun k2 hk2 => ?_
  refine W.seqk fun k3 hk3 => ?_
  refine W.region ?_
  refine L.pu hC rfl rfl (fun _ => All.nil) rfl rfl ?_; clear hC a; intro a hC
  refine L.call hC rfl rfl Try.call25 rfl (fun _ => All.nil) (fun hg => check20_ok _ _ _ (hC.at m0)) rfl rfl ?_; clear hC a; intro a w hF hC
  refine L.pu hC rfl rfl (fun _ => All.nil) rfl rfl ?_; clear hC a; intro a hC
  refine L.nil ?_
  refine hk3 _ _ ?_; clear hk3; try clear k3
  refine W.seqk fun k4 hk4 => ?_
  refine W.region ?_
  refine L.pu hC rfl rfl (fun _ => All.nil) rfl rfl ?_; clear hC a; intro a hC
  refine L.pu hC rfl rfl (fun _ => All.nil) rfl rfl ?_; clear hC a; intro a hC
  refine L.nil ?_
  refine hk4 _ _ ?_; clear hk4; try clear k4
  refine W.cond hC rfl (fun h1 => ?_) (fun h1 => ?_)
  ·
    refine W.seqk fun k5 hk5 => ?_
    refine W.region ?_
    refine L.pu hC rfl rfl (fun _ => All.nil) rfl rfl ?_; clear hC a; intro a hC
    refine L.pu hC rfl rfl (fun _ => All.nil) rfl rfl ?_; clear hC a; intro a hC
    refine L.pu hC rfl rfl (fun _ => All.nil) rfl rfl ?_; clear hC a; intro a hC
    refine L.pu hC rfl rfl (fun _ => All.nil) rfl rfl ?_; clear hC a; intro a hC
    refine L.nil ?_
    refine hk5 _ _ ?_; clear hk5; try clear k5
    refine W.ret ?_
    refine retl hC rfl (.tmp rfl (.tmp rfl (.tmp rfl .nil))) rfl ?_
    replace hC := (hC.drop).nilown (ty := 25) (E := timE)
    exact ⟨_, by rw [canR_bad h1], trivial, by rw [canR_bad h1]; exact hC.toPost (by simp [ownR])⟩
  ·
    refine W.skip ?_
    refine hk2 _ _ ?_; clear hk2; try clear k2
    refine W.seqk fun k6 hk6 => ?_
    refine W.region ?_
    refine L.alloc hC rfl rfl Try.zeroValue126 rfl rfl rfl ?_; clear hC a; intro hb a w hF hC
    refine L.nil ?_
    refine hk6 _ _ ?_; clear hk6; try clear k6
    refine W.seqk fun k7 hk7 => ?_
    refine W.seqk fun k8 hk8 => ?_
    refine W.region ?_
    refine L.pu hC rfl rfl (fun _ => All.nil) rfl rfl ?_; clear hC a; intro a hC
    refine L.len hC rfl rfl rfl (fun _ => All.nil) (rd_form (hC.at m1)) Try.underlying22 rfl rfl ?_; clear hC a; intro a hC
    refine L.pu hC rfl rfl (fun _ => All.nil) rfl rfl ?_; clear hC a; intro a hC
    refine L.nil ?_
    refine hk8 _ _ ?_; clear hk8; try clear k8
    refine W.block ?_
    have hlen := chk_len (by simpa using h1)
    replace hC := hC.nilown (ty := 25) (E := timE)
    replace hC := hC.fr3
    replace hC := hC.fr3
    replace hC := hC.fr2
    replace hC := hC.fr3
    refine W.loop (fun (s : Nat × Value × (List (Int × Int))) a w' => match s with | ⟨j, hv, h⟩ => (j ≤ l.length) ∧ (h.length ≤ j) ∧ (canT h (l.drop j) ids = canT [] l ids) ∧ Conf 36 Nob w0 [(18, (none, .int .i64 (j : Int))), (17, (none, .int .i64 (l.length : Int))), (16, (none, v)), (8, (none, .pointer (some ⟨hb, 0, none⟩))), (1, (none, vi)), (0, (none, v))] [blkR hb [hv] 126, ownR hv 25 timE h, rdR v timE l, rdR vi intE ids] a w') (fun (s : Nat × Value × (List (Int × Int))) => match s with | ⟨j, hv, h⟩ => l.length - j) (0, .slice none 0 0, []) ?_ ?_
    · exact ⟨Nat.zero_le _, Nat.le_refl _, rfl, hC.keep ⟨rfl, rfl, rfl, rfl, rfl, rfl, trivial⟩⟩
    · rintro ⟨j, hv, h⟩ a w ⟨hj, hh, hc, hC⟩
      refine W.seqk fun k9 hk9 => ?_
      refine W.region ?_
      refine L.pu hC rfl rfl (fun _ => All.nil) rfl rfl ?_; clear hC a; intro a hC
      refine L.nil ?_
      refine hk9 _ _ ?_; clear hk9; try clear k9
      refine W.seqk fun k10 hk10 => ?_
      refine W.cond hC rfl (fun h2 => ?_) (fun h2 => ?_)
      ·
        have h2 := of_decide_eq_true h2
        refine W.skip ?_
        refine hk10 _ _ ?_; clear hk10; try clear k10
        refine W.seqk fun k11 hk11 => ?_
        refine W.block ?_
        refine W.seqk fun k12 hk12 => ?_
        refine W.region ?_
        refine L.ixr hC rfl rfl rfl rfl m2 (fun _ => All.nil) (fun _ => All.nil) Try.underlying22 Try.sizeOf25 (fun _ => by omega) rfl rfl ?_; clear hC a; intro a hC
        refine L.ldxa hC rfl rfl rfl rfl (fun _ => All.nil) (fun hg => rd_bang hC m2 (by omega) _) Try.isAgg25 Try.sizeOf25 rfl rfl rfl rfl ?_; clear hC a; intro a hC
        refine L.alloc hC rfl rfl Try.zeroValue25 rfl rfl rfl ?_; clear hC a; intro tb a w hF hC
        refine L.st hC rfl rfl rfl rfl Try.sizeOf25 rfl rfl rfl rfl rfl ?_; clear hC a; intro a w hF hC
        replace hC := hC.hd (r' := blkR tb (timE.enc l[j]!) 25) rfl
        refine L.nil ?_
        refine hk12 _ _ ?_; clear hk12; try clear k12
        refine W.seqk fun k13 hk13 => ?_
        refine W.region ?_
        refine L.pu hC rfl rfl (fun _ => All.nil) rfl rfl ?_; clear hC a; intro a hC
        refine L.fa hC rfl rfl rfl (fun _ => All.nil) Try.underlying25 rfl Try.sizeOf3 rfl rfl rfl ?_; clear hC a; intro a hC
        refine L.ld hC rfl rfl rfl (fun _ => All.nil) m0 Try.isAgg3 rfl rfl rfl ?_; clear hC a; intro a hC
        refine L.call hC rfl rfl Try.call73 rfl (fun _ => All.nil) (fun hg => hasI_ok vi ids l[j]!.2 _ (hC.at m4)) rfl rfl ?_; clear hC a; intro a w hF hC
        refine L.pu hC rfl rfl (fun _ => All.nil) rfl rfl ?_; clear hC a; intro a hC
        refine L.nil ?_
        refine hk13 _ _ ?_; clear hk13; try clear k13
        refine W.cond hC rfl (fun h3 => ?_) (fun h3 => ?_)
        ·
          refine W.region ?_
          refine L.lda hC rfl rfl rfl (fun _ => All.nil) m0 Try.isAgg25 Try.sizeOf25 rfl rfl rfl rfl ?_; clear hC a; intro a hC
          replace hC := hC.fr2
          replace hC := hC.fr2
          refine L.callg [_, _] hC rfl rfl Try.call71 rfl (push_ok hb hv h l[j]! _ (Mem.app_left (μ1 := [blkR hb [hv] 126, ownR hv 25 timE h]) hC.mem) (by omega)) (fun c h => h.elim (fun h => ⟨_, m0, h⟩) (fun h => ⟨_, m1, h⟩)) rfl rfl ?_; clear hC a; intro hv' a w hQ hC
          refine L.nil ?_
          refine hk11 _ _ ?_; clear hk11; try clear k11
          refine W.region ?_
          refine L.pu hC rfl rfl (fun _ => All.nil) rfl rfl ?_; clear hC a; intro a hC
          refine L.pu hC rfl rfl (fun _ => All.nil) rfl rfl ?_; clear hC a; intro a hC
          refine L.nil ?_
          replace hC := hC.subl (.cons_cons _ (.cons_cons _ (.cons _ (.cons_cons _ (.cons_cons _ .slnil)))))
          replace hC := hC.fr3
          replace hC := hC.fr3
          replace hC := hC.fr3
          replace hC := hC.fr3
          exact ⟨(j + 1, hv', pushH h l[j]!), ⟨by omega, by rw [pushH_len]; omega, by rw [← hc]; exact (canT_push (by omega) h3).symm, hC.keep ⟨geti rfl (w64 (by omega)), rfl, rfl, rfl, rfl, rfl, trivial⟩⟩, by first | omega | (dsimp only; omega)⟩
        ·
          refine W.skip ?_
          refine hk11 _ _ ?_; clear hk11; try clear k11
          refine W.region ?_
          refine L.pu hC rfl rfl (fun _ => All.nil) rfl rfl ?_; clear hC a; intro a hC
          refine L.pu hC rfl rfl (fun _ => All.nil) rfl rfl ?_; clear hC a; intro a hC
          refine L.nil ?_
          replace hC := hC.subl (.cons _ (.cons_cons _ (.cons_cons _ (.cons_cons _ (.cons_cons _ .slnil)))))
          replace hC := hC.fr3
          replace hC := hC.fr3
          replace hC := hC.fr3
          replace hC := hC.fr3
          exact ⟨(j + 1, hv, h), ⟨by omega, by omega, by rw [← hc]; exact (canT_skip (by omega) h3).symm, hC.keep ⟨geti rfl (w64 (by omega)), rfl, rfl, rfl, rfl, rfl, trivial⟩⟩, by first | omega | (dsimp only; omega)⟩
      ·
        have h2 := of_decide_eq_false h2
        refine W.exit ?_
        refine Kb.here ?_
        refine hk7 _ _ ?_; clear hk7; try clear k7
        refine W.seqk fun k14 hk14 => ?_
        replace hC := hC.del 4
        replace hC := hC.del 5
        replace hC := hC.del 6
        refine W.drawD hC Try.mixed rfl rfl ?_
        apply DRN.cons (.det _ _) rfl
        · intro a w hC
          refine L.ld hC rfl rfl rfl (fun _ => All.nil) m0 Try.isAgg126 rfl rfl rfl ?_; clear hC a; intro a hC
          exact L.nil ⟨⟨_, [], hC⟩, Frm.refl _ _⟩
        apply DRN.cons (.det _ _) rfl
        · intro a w hC
          refine L.pu hC rfl rfl (fun _ => All.nil) rfl rfl ?_; clear hC a; intro a hC
          exact L.nil ⟨⟨_, [], hC⟩, Frm.refl _ _⟩
        apply DRN.cons (.det _ _) rfl
        · intro a w hC
          refine L.len hC rfl rfl rfl (fun _ => All.nil) (rd_form (hC.at m2)) Try.underlying22 rfl rfl ?_; clear hC a; intro a hC
          exact L.nil ⟨⟨_, [], hC⟩, Frm.refl _ _⟩
        apply DRN.cons (.det _ _) rfl
        · intro a w hC
          refine L.ld hC rfl rfl rfl (fun _ => All.nil) m0 Try.isAgg126 rfl rfl rfl ?_; clear hC a; intro a hC
          exact L.nil ⟨⟨_, [], hC⟩, Frm.refl _ _⟩
        apply DRN.cons (.det _ _) rfl
        · intro a w hC
          refine L.len hC rfl rfl rfl (fun _ => All.nil) (own_form (hC.at m1)) Try.underlying126 rfl rfl ?_; clear hC a; intro a hC
          exact L.nil ⟨⟨_, [], hC⟩, Frm.refl _ _⟩
        apply DRN.cons (.det _ _) rfl
        · intro a w hC
          refine L.pu hC rfl rfl (fun _ => All.nil) rfl rfl ?_; clear hC a; intro a hC
          exact L.nil ⟨⟨_, [], hC⟩, Frm.refl _ _⟩
        apply DRN.cons (.det _ _) rfl
        · intro a w hC
          refine L.pu hC rfl rfl (fun _ => All.nil) rfl rfl ?_; clear hC a; intro a hC
          exact L.nil ⟨⟨_, [], hC⟩, Frm.refl _ _⟩
        apply DRN.cons (.det _ _) rfl
        · intro a w hC
          refine L.pu hC rfl rfl (fun _ => All.nil) rfl rfl ?_; clear hC a; intro a hC
          exact L.nil ⟨⟨_, [], hC⟩, Frm.refl _ _⟩
        apply DRN.cons (.det _ _) rfl
        · intro a w hC
          refine L.pu hC rfl rfl (fun _ => All.nil) rfl rfl ?_; clear hC a; intro a hC
          exact L.nil ⟨⟨_, [], hC⟩, Frm.refl _ _⟩
        refine DRN.nil (fun w' hF => ?_)
        intro a w hC hw
        subst hw
        refine hk14 _ _ ?_; clear hk14; try clear k14
        refine W.ret ?_
        refine retl hC rfl (.tmp rfl (.tmp rfl (.tmp rfl .nil))) rfl ?_
        replace hC := hC.subl (.cons _ (.cons_cons _ (.cons _ (.cons _ .slnil))))
        have e : canT [] l ids = h := by rw [← hc, List.drop_of_length_le (by omega)]; rfl
        exact ⟨_, by rw [canR_good h1, e, w64 (by omega)], trivial, by rw [canR_good h1, e]; exact hC.toPost (by simp [ownR])⟩

end Go.Proofs.E
