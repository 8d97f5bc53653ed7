/- Part of the proof: what the functions of this program compute. -/
import Derived.Test.YtgekiiildobfkaaT7
set_option linter.unusedVariables false
set_option linter.unusedSimpArgs false
namespace Go.Proofs.E
open Go.RowKit
theorem Mem.rd2 {α β : Type _} {v u : Value} {E : Enc α} {F : Enc β} {l : List α} {m : List β} {w : World} (h1 : (rdR v E l).ok w) (h2 : (rdR u F m).ok w) : Mem [rdR v E l, rdR u F m] w :=
  ⟨by simp [h1, h2], by simp [apart, rdR]⟩
theorem siftUp_len (l : List (Int × Int)) (i : Nat) : (siftUp l i).length = l.length := by
  induction i using Nat.strongRecOn generalizing l with
  | _ i ih =>
    rw [siftUp]
    split
    · split
      · rw [ih _ (by omega)]; simp [swp]
      · rfl
    · rfl
theorem pushH_len (l : List (Int × Int)) (x : Int × Int) : (pushH l x).length = l.length + 1 := by simp [pushH, siftUp_len]
def addT : List (Int × Int) → List (Int × Int) → Int × List (Int × Int)
  | h, [] => (0, h)
  | h, t :: more => if ((h.length : Int) == 1024) = true then (3, []) else if oddT t = true then (4, []) else if h.any (fun x => x.2 == t.2) = true then (6, []) else addT (pushH h t) more
def addR (l more : List (Int × Int)) : Int × List (Int × Int) := if (chkT l != 0) = true then (chkT l, []) else addT l more
theorem addR_bad {l more : List (Int × Int)} (h : (chkT l != 0) = true) : addR l more = (chkT l, []) := if_pos h
theorem addR_good {l more : List (Int × Int)} (h : (chkT l != 0) = false) : addR l more = addT l more := if_neg (by simp [h])
section
variable {h more : List (Int × Int)} {j : Nat}
theorem addT_drop (hj : j < more.length) : addT h (more.drop j) = if ((h.length : Int) == 1024) = true then (3, []) else if oddT more[j]! = true then (4, []) else if h.any (fun x => x.2 == more[j]!.2) = true then (6, []) else addT (pushH h more[j]!) (more.drop (j + 1)) := by
  rw [List.drop_eq_getElem_cons hj, addT, bang hj]
theorem addT_1 (hj : j < more.length) (h1 : ((h.length : Int) == 1024) = true) : addT h (more.drop j) = (3, []) := by rw [addT_drop hj, if_pos h1]
theorem addT_2 (hj : j < more.length) (h1 : ((h.length : Int) == 1024) = false) (h2 : oddT more[j]! = true) : addT h (more.drop j) = (4, []) := by rw [addT_drop hj, if_neg (by rw [h1]; simp), if_pos h2]
theorem addT_3 (hj : j < more.length) (h1 : ((h.length : Int) == 1024) = false) (h2 : oddT more[j]! = false) (h3 : h.any (fun x => x.2 == more[j]!.2) = true) : addT h (more.drop j) = (6, []) := by
  rw [addT_drop hj, if_neg (by rw [h1]; simp), if_neg (by rw [h2]; simp), if_pos h3]
theorem addT_step (hj : j < more.length) (h1 : ((h.length : Int) == 1024) = false) (h2 : oddT more[j]! = false) (h3 : h.any (fun x => x.2 == more[j]!.2) = false) : addT h (more.drop j) = addT (pushH h more[j]!) (more.drop (j + 1)) := by
  rw [addT_drop hj, if_neg (by rw [h1]; simp), if_neg (by rw [h2]; simp), if_neg (by rw [h3]; simp)]
end
theorem chk_len {l : List (Int × Int)} (h : chkT l = 0) : l.length ≤ 1024 := by
  unfold chkT at h
  split at h
  · cases h
  · rename_i h1
    simp at h1; omega
def firstT (l : List (Int × Int)) : (Int × Int) × Int := if (chkT l != 0) = true then ((0, 0), chkT l) else if ((l.length : Int) == 0) = true then ((0, 0), 71) else (l[0]!, 0)
theorem firstT_bad {l : List (Int × Int)} (h : (chkT l != 0) = true) : firstT l = ((0, 0), chkT l) := if_pos h
theorem firstT_none {l : List (Int × Int)} (h : (chkT l != 0) = false) (h2 : ((l.length : Int) == 0) = true) : firstT l = ((0, 0), 71) := by unfold firstT; rw [if_neg (by rw [h]; simp), if_pos h2]
theorem firstT_ok {l : List (Int × Int)} (h : (chkT l != 0) = false) (h2 : ((l.length : Int) == 0) = false) : firstT l = (l[0]!, 0) := by unfold firstT; rw [if_neg (by rw [h]; simp), if_neg (by rw [h2]; simp)]
theorem len_pos {α : Type _} {l : List α} (h2 : ((l.length : Int) == 0) = false) : 0 < l.length := by
  have : ¬ (l.length : Int) = 0 := by simpa using h2
  omega
theorem add20_ok (v vm : Value) (l more : List (Int × Int)) (w0 : World) (hr : (rdR v timE l).ok w0) (hm : (rdR vm timE more).ok w0) : Calls Try.prog 22 #[v, vm] w0 fun e w' => ∃ r : Value, e = .returned (.tuple #[r, .int .i64 (addR l more).1]) ∧ True ∧ Post Nob [ownR r 25 timE (addR l more).2] w0 w' := by
  have hlm := rd_lt hm
  refine enter (μ := [rdR v timE l, rdR vm timE more]) (S := Nob) (vs := [v, vm]) Try.func22 rfl Try.ntmps22 rfl (Mem.rd2 hr hm) (by simp [rdR]) (fun a hC => ?_)
  refine W.seqk fun k1 hk1 => ?_
  refine W.region ?_
  refine L.pu hC rfl rfl (fun _ => All.nil) rfl rfl ?_; clear hC a; intro a hC
  refine L.pu hC rfl rfl (fun _ => All.nil) rfl rfl ?_; clear hC a; intro a hC
  refine L.nil ?_
  refine hk1 _ _ ?_; clear hk1; try clear k1
  refine W.seqk fun k2 hk2 => ?_
  refine W.seqk fun k3 hk3 => ?_
  refine W.region ?_
  refine L.pu hC rfl rfl (fun _ => All.nil) rfl rfl ?_; clear hC a; intro a hC
  refine L.call hC rfl rfl Try.call25 rfl (fun _ => All.nil) (fun hg => check20_ok _ _ _ (hC.at m0)) rfl rfl ?_; clear hC a; intro a w hF hC
  refine L.pu hC rfl rfl (fun _ => All.nil) rfl rfl ?_; clear hC a; intro a hC
  refine L.nil ?_
  refine hk3 _ _ ?_; clear hk3; try clear k3
  refine W.seqk fun k4 hk4 => ?_
  refine W.region ?_
  refine L.pu hC rfl rfl (fun _ => All.nil) rfl rfl ?_; clear hC a; intro a hC
  refine L.pu hC rfl rfl (fun _ => All.nil) rfl rfl ?_; clear hC a; intro a hC
  refine L.nil ?_
  refine hk4 _ _ ?_; clear hk4; try clear k4
  refine W.cond hC rfl (fun h1 => ?_) (fun h1 => ?_)
  ·
    refine W.seqk fun k5 hk5 => ?_
    refine W.region ?_
    refine L.pu hC rfl rfl (fun _ => All.nil) rfl rfl ?_; clear hC a; intro a hC
    refine L.pu hC rfl rfl (fun _ => All.nil) rfl rfl ?_; clear hC a; intro a hC
    refine L.pu hC rfl rfl (fun _ => All.nil) rfl rfl ?_; clear hC a; intro a hC
    refine L.nil ?_
    refine hk5 _ _ ?_; clear hk5; try clear k5
    refine W.ret ?_
    refine retl hC rfl (.tmp rfl (.tmp rfl .nil)) rfl ?_
    replace hC := (hC.drop).nilown (ty := 25) (E := timE)
    exact ⟨_, by rw [addR_bad h1], trivial, by rw [addR_bad h1]; exact hC.toPost (by simp [ownR])⟩
  ·
    refine W.skip ?_
    refine hk2 _ _ ?_; clear hk2; try clear k2
    refine W.seqk fun k6 hk6 => ?_
    refine W.region ?_
    refine L.pu hC rfl rfl (fun _ => All.nil) rfl rfl ?_; clear hC a; intro a hC
    have hlen := chk_len (by simpa using h1)
    refine L.callg [] hC rfl rfl Try.call67 rfl (cloneT_ok _ _ _ (hC.at m0) (by omega)) (fun b h => h.elim) rfl rfl ?_; clear hC a; intro hv a w hQ hC
    refine L.alloc hC rfl rfl Try.zeroValue126 rfl rfl rfl ?_; clear hC a; intro hb a w hF hC
    refine L.st hC rfl rfl rfl rfl Try.sizeOf126 (cells_sl (own_form (hC.at m1))) rfl (one_sl (own_form (hC.at m1))) rfl rfl ?_; clear hC a; intro a w hF hC
    refine L.nil ?_
    refine hk6 _ _ ?_; clear hk6; try clear k6
    refine W.seqk fun k7 hk7 => ?_
    refine W.seqk fun k8 hk8 => ?_
    refine W.region ?_
    refine L.pu hC rfl rfl (fun _ => All.nil) rfl rfl ?_; clear hC a; intro a hC
    refine L.len hC rfl rfl rfl (fun _ => All.nil) (rd_form (hC.at m3)) Try.underlying22 rfl rfl ?_; clear hC a; intro a hC
    refine L.pu hC rfl rfl (fun _ => All.nil) rfl rfl ?_; clear hC a; intro a hC
    refine L.nil ?_
    refine hk8 _ _ ?_; clear hk8; try clear k8
    refine W.block ?_
    replace hC := hC.dr2
    refine W.loop (fun (s : Nat × Value × (List (Int × Int))) a w' => match s with | ⟨j, hv, h⟩ => (j ≤ more.length) ∧ (h.length ≤ 1024) ∧ (addT h (more.drop j) = addT l more) ∧ Conf 38 Nob w0 [(19, (none, .int .i64 (j : Int))), (18, (none, .int .i64 (more.length : Int))), (17, (none, vm)), (7, (none, .pointer (some ⟨hb, 0, none⟩)))] [blkR hb [hv] 126, ownR hv 25 timE h, rdR vm timE more] a w') (fun (s : Nat × Value × (List (Int × Int))) => match s with | ⟨j, hv, h⟩ => more.length - j) (0, hv, l) ?_ ?_
    · exact ⟨Nat.zero_le _, by omega, rfl, hC.keep ⟨rfl, rfl, rfl, rfl, trivial⟩⟩
    · rintro ⟨j, hv, h⟩ a w ⟨hj, hh, ha, hC⟩
      refine W.seqk fun k9 hk9 => ?_
      refine W.region ?_
      refine L.pu hC rfl rfl (fun _ => All.nil) rfl rfl ?_; clear hC a; intro a hC
      refine L.nil ?_
      refine hk9 _ _ ?_; clear hk9; try clear k9
      refine W.seqk fun k10 hk10 => ?_
      refine W.cond hC rfl (fun h2 => ?_) (fun h2 => ?_)
      ·
        have h2 := of_decide_eq_true h2
        refine W.skip ?_
        refine hk10 _ _ ?_; clear hk10; try clear k10
        refine W.seqk fun k11 hk11 => ?_
        refine W.block ?_
        refine W.seqk fun k12 hk12 => ?_
        refine W.region ?_
        refine L.ixr hC rfl rfl rfl rfl m2 (fun _ => All.nil) (fun _ => All.nil) Try.underlying22 Try.sizeOf25 (fun _ => by omega) rfl rfl ?_; clear hC a; intro a hC
        refine L.ldxa hC rfl rfl rfl rfl (fun _ => All.nil) (fun _ => rd_bang hC m2 (by omega) _) Try.isAgg25 Try.sizeOf25 rfl rfl rfl rfl ?_; clear hC a; intro a hC
        refine L.alloc hC rfl rfl Try.zeroValue25 rfl rfl rfl ?_; clear hC a; intro tb a w hF hC
        refine L.st hC rfl rfl rfl rfl Try.sizeOf25 rfl rfl rfl rfl rfl ?_; clear hC a; intro a w hF hC
        replace hC := hC.hd (r' := blkR tb (timE.enc more[j]!) 25) rfl
        refine L.nil ?_
        refine hk12 _ _ ?_; clear hk12; try clear k12
        refine W.seqk fun k13 hk13 => ?_
        refine W.block ?_
        refine W.seqk fun k14 hk14 => ?_
        refine W.region ?_
        refine L.ld hC rfl rfl rfl (fun _ => All.nil) m1 Try.isAgg126 rfl rfl rfl ?_; clear hC a; intro a hC
        refine L.len hC rfl rfl rfl (fun _ => All.nil) (own_form (hC.at m2)) Try.underlying126 rfl rfl ?_; clear hC a; intro a hC
        refine L.pu hC rfl rfl (fun _ => All.nil) rfl rfl ?_; clear hC a; intro a hC
        refine L.pu hC rfl rfl (fun _ => All.nil) rfl rfl ?_; clear hC a; intro a hC
        refine L.nil ?_
        refine hk14 _ _ ?_; clear hk14; try clear k14
        refine W.cond hC rfl (fun h3 => ?_) (fun h3 => ?_)
        ·
          refine W.seqk fun k15 hk15 => ?_
          refine W.region ?_
          refine L.pu hC rfl rfl (fun _ => All.nil) rfl rfl ?_; clear hC a; intro a hC
          refine L.pu hC rfl rfl (fun _ => All.nil) rfl rfl ?_; clear hC a; intro a hC
          refine L.nil ?_
          refine hk15 _ _ ?_; clear hk15; try clear k15
          refine W.ret ?_
          refine retl hC rfl (.tmp rfl (.tmp rfl .nil)) rfl ?_
          replace hC := (hC.drop).nilown (ty := 25) (E := timE)
          exact ⟨_, by rw [addR_good h1, ← ha, addT_1 (by omega) h3], trivial, by rw [addR_good h1, ← ha, addT_1 (by omega) h3]; exact hC.toPost (by simp [ownR])⟩
        ·
          refine W.seqk fun k16 hk16 => ?_
          refine W.region ?_
          refine L.lda hC rfl rfl rfl (fun _ => All.nil) m0 Try.isAgg25 Try.sizeOf25 rfl rfl rfl rfl ?_; clear hC a; intro a hC
          refine L.call hC rfl rfl Try.call68 rfl (fun _ => All.nil) (fun hg => odd_ok more[j]! _) rfl rfl ?_; clear hC a; intro a w hF hC
          refine L.pu hC rfl rfl (fun _ => All.nil) rfl rfl ?_; clear hC a; intro a hC
          refine L.nil ?_
          refine hk16 _ _ ?_; clear hk16; try clear k16
          refine W.cond hC rfl (fun h4 => ?_) (fun h4 => ?_)
          ·
            refine W.seqk fun k17 hk17 => ?_
            refine W.region ?_
            refine L.pu hC rfl rfl (fun _ => All.nil) rfl rfl ?_; clear hC a; intro a hC
            refine L.pu hC rfl rfl (fun _ => All.nil) rfl rfl ?_; clear hC a; intro a hC
            refine L.nil ?_
            refine hk17 _ _ ?_; clear hk17; try clear k17
            refine W.ret ?_
            refine retl hC rfl (.tmp rfl (.tmp rfl .nil)) rfl ?_
            replace hC := (hC.drop).nilown (ty := 25) (E := timE)
            exact ⟨_, by rw [addR_good h1, ← ha, addT_2 (by omega) h3 h4], trivial, by rw [addR_good h1, ← ha, addT_2 (by omega) h3 h4]; exact hC.toPost (by simp [ownR])⟩
          ·
            refine W.seqk fun k18 hk18 => ?_
            refine W.region ?_
            refine L.ld hC rfl rfl rfl (fun _ => All.nil) m1 Try.isAgg126 rfl rfl rfl ?_; clear hC a; intro a hC
            refine L.pu hC rfl rfl (fun _ => All.nil) rfl rfl ?_; clear hC a; intro a hC
            refine L.call hC rfl rfl Try.call69 rfl (fun _ => All.nil) (fun hg => hasH_ok hv h 70 #[.pointer (some ⟨tb, 0, none⟩)] (fun x => x.2 == more[j]!.2) _ (own_rd (hC.at m2)) Try.call70 (fun x hx w' hw => by simpa using add1_ok x more[j]! tb w' ((blkR tb (timE.enc more[j]!) 25).st _ _ (hC.at m0) (fun b hb => hw.block b ((blkR tb (timE.enc more[j]!) 25).bd _ (hC.at m0) b hb) (fun h => h))))) rfl rfl ?_; clear hC a; intro a w hF hC
            refine L.pu hC rfl rfl (fun _ => All.nil) rfl rfl ?_; clear hC a; intro a hC
            refine L.nil ?_
            refine hk18 _ _ ?_; clear hk18; try clear k18
            refine W.cond hC rfl (fun h5 => ?_) (fun h5 => ?_)
            ·
              refine W.seqk fun k19 hk19 => ?_
              refine W.region ?_
              refine L.pu hC rfl rfl (fun _ => All.nil) rfl rfl ?_; clear hC a; intro a hC
              refine L.pu hC rfl rfl (fun _ => All.nil) rfl rfl ?_; clear hC a; intro a hC
              refine L.nil ?_
              refine hk19 _ _ ?_; clear hk19; try clear k19
              refine W.ret ?_
              refine retl hC rfl (.tmp rfl (.tmp rfl .nil)) rfl ?_
              replace hC := (hC.drop).nilown (ty := 25) (E := timE)
              exact ⟨_, by rw [addR_good h1, ← ha, addT_3 (by omega) h3 h4 h5], trivial, by rw [addR_good h1, ← ha, addT_3 (by omega) h3 h4 h5]; exact hC.toPost (by simp [ownR])⟩
            ·
              refine W.skip ?_
              refine hk13 _ _ ?_; clear hk13; try clear k13
              refine W.region ?_
              refine L.lda hC rfl rfl rfl (fun _ => All.nil) m0 Try.isAgg25 Try.sizeOf25 rfl rfl rfl rfl ?_; clear hC a; intro a hC
              replace hC := hC.fr2
              replace hC := hC.fr2
              refine L.callg [_, _] hC rfl rfl Try.call71 rfl (push_ok hb hv h more[j]! _ (Mem.app_left (μ1 := [blkR hb [hv] 126, ownR hv 25 timE h]) hC.mem) (by omega)) (fun c h => h.elim (fun h => ⟨_, m0, h⟩) (fun h => ⟨_, m1, h⟩)) rfl rfl ?_; clear hC a; intro hv' a w hQ hC
              refine L.nil ?_
              refine hk11 _ _ ?_; clear hk11; try clear k11
              refine W.region ?_
              refine L.pu hC rfl rfl (fun _ => All.nil) rfl rfl ?_; clear hC a; intro a hC
              refine L.pu hC rfl rfl (fun _ => All.nil) rfl rfl ?_; clear hC a; intro a hC
              refine L.nil ?_
              replace hC := hC.dr2
              exact ⟨(j + 1, hv', pushH h more[j]!), ⟨by omega, by rw [pushH_len]; have h3' : ¬ (h.length : Int) = 1024 := (by simpa using h3); omega, by rw [← ha]; exact (addT_step (by omega) h3 h4 h5).symm, hC.keep ⟨geti rfl (w64 (by omega)), rfl, rfl, rfl, trivial⟩⟩, by first | omega | (dsimp only; omega)⟩
      ·
        have h2 := of_decide_eq_false h2
        refine W.exit ?_
        refine Kb.here ?_
        refine hk7 _ _ ?_; clear hk7; try clear k7
        refine W.seqk fun k20 hk20 => ?_
        refine W.region ?_
        refine L.ld hC rfl rfl rfl (fun _ => All.nil) m0 Try.isAgg126 rfl rfl rfl ?_; clear hC a; intro a hC
        refine L.pu hC rfl rfl (fun _ => All.nil) rfl rfl ?_; clear hC a; intro a hC
        refine L.pu hC rfl rfl (fun _ => All.nil) rfl rfl ?_; clear hC a; intro a hC
        refine L.nil ?_
        refine hk20 _ _ ?_; clear hk20; try clear k20
        refine W.ret ?_
        refine retl hC rfl (.tmp rfl (.tmp rfl .nil)) rfl ?_
        have e : addR l more = (0, h) := by rw [addR_good h1, ← ha, List.drop_of_length_le (by omega)]; rfl
        replace hC := hC.one (r := ownR hv 25 timE h) m1
        exact ⟨_, by rw [e], trivial, by rw [e]; exact hC.toPost (by simp [ownR])⟩

theorem first20_ok (v : Value) (l : List (Int × Int)) (w0 : World) (hr : (rdR v timE l).ok w0) : Calls Try.prog 14 #[v] w0 fun e w' => e = .returned (.tuple #[.agg (timE.enc (firstT l).1).toArray, .int .i64 (firstT l).2]) ∧ Frm Nob w0 w' := by
  refine enter (μ := [rdR v timE l]) (S := Nob) (vs := [v]) Try.func14 rfl Try.ntmps14 rfl ⟨by simpa using hr, by simp⟩ (by simp [rdR]) (fun a hC => ?_)
  refine W.seqk fun k1 hk1 => ?_
  refine W.region ?_
  refine L.alloc hC rfl rfl Try.zeroValue25 rfl rfl rfl ?_; clear hC a; intro tb a w hF hC
  refine L.pu hC rfl rfl (fun _ => All.nil) rfl rfl ?_; clear hC a; intro a hC
  refine L.nil ?_
  refine hk1 _ _ ?_; clear hk1; try clear k1
  refine W.seqk fun k2 hk2 => ?_
  refine W.seqk fun k3 hk3 => ?_
  refine W.region ?_
  refine L.pu hC rfl rfl (fun _ => All.nil) rfl rfl ?_; clear hC a; intro a hC
  refine L.call hC rfl rfl Try.call25 rfl (fun _ => All.nil) (fun hg => check20_ok _ _ _ (hC.at m1)) rfl rfl ?_; clear hC a; intro a w hF hC
  refine L.pu hC rfl rfl (fun _ => All.nil) rfl rfl ?_; clear hC a; intro a hC
  refine L.nil ?_
  refine hk3 _ _ ?_; clear hk3; try clear k3
  refine W.seqk fun k4 hk4 => ?_
  refine W.region ?_
  refine L.pu hC rfl rfl (fun _ => All.nil) rfl rfl ?_; clear hC a; intro a hC
  refine L.pu hC rfl rfl (fun _ => All.nil) rfl rfl ?_; clear hC a; intro a hC
  refine L.nil ?_
  refine hk4 _ _ ?_; clear hk4; try clear k4
  refine W.cond hC rfl (fun h1 => ?_) (fun h1 => ?_)
  ·
    refine W.seqk fun k5 hk5 => ?_
    refine W.region ?_
    refine L.buildS (ps := [(0, 1), (1, 1)]) hC rfl rfl rfl (fun _ => All.nil) Try.zeroValue25 Try.underlying25 ⟨⟨rfl, Try.sizeOf3⟩, ⟨rfl, Try.sizeOf3⟩, trivial⟩ rfl rfl rfl ?_; clear hC a; intro a hC
    refine L.pu hC rfl rfl (fun _ => All.nil) rfl rfl ?_; clear hC a; intro a hC
    refine L.st hC rfl rfl rfl rfl Try.sizeOf25 rfl rfl rfl rfl rfl ?_; clear hC a; intro a w hF hC
    refine L.pu hC rfl rfl (fun _ => All.nil) rfl rfl ?_; clear hC a; intro a hC
    refine L.nil ?_
    refine hk5 _ _ ?_; clear hk5; try clear k5
    refine W.ret ?_
    refine retl hC rfl (.agg rfl m0 Try.isAgg25 Try.sizeOf25 rfl (.tmp rfl .nil)) rfl ?_
    exact ⟨by rw [firstT_bad h1]; rfl, hC.frm⟩
  ·
    refine W.skip ?_
    refine hk2 _ _ ?_; clear hk2; try clear k2
    refine W.seqk fun k6 hk6 => ?_
    refine W.seqk fun k7 hk7 => ?_
    refine W.region ?_
    refine L.pu hC rfl rfl (fun _ => All.nil) rfl rfl ?_; clear hC a; intro a hC
    refine L.len hC rfl rfl rfl (fun _ => All.nil) (rd_form (hC.at m1)) Try.underlying22 rfl rfl ?_; clear hC a; intro a hC
    refine L.pu hC rfl rfl (fun _ => All.nil) rfl rfl ?_; clear hC a; intro a hC
    refine L.nil ?_
    refine hk7 _ _ ?_; clear hk7; try clear k7
    refine W.cond hC rfl (fun h2 => ?_) (fun h2 => ?_)
    ·
      refine W.seqk fun k8 hk8 => ?_
      refine W.region ?_
      refine L.buildS (ps := [(0, 1), (1, 1)]) hC rfl rfl rfl (fun _ => All.nil) Try.zeroValue25 Try.underlying25 ⟨⟨rfl, Try.sizeOf3⟩, ⟨rfl, Try.sizeOf3⟩, trivial⟩ rfl rfl rfl ?_; clear hC a; intro a hC
      refine L.st hC rfl rfl rfl rfl Try.sizeOf25 rfl rfl rfl rfl rfl ?_; clear hC a; intro a w hF hC
      refine L.pu hC rfl rfl (fun _ => All.nil) rfl rfl ?_; clear hC a; intro a hC
      refine L.nil ?_
      refine hk8 _ _ ?_; clear hk8; try clear k8
      refine W.ret ?_
      refine retl hC rfl (.agg rfl m0 Try.isAgg25 Try.sizeOf25 rfl (.tmp rfl .nil)) rfl ?_
      exact ⟨by rw [firstT_none h1 h2]; rfl, hC.frm⟩
    ·
      have h2' := len_pos h2
      refine W.skip ?_
      refine hk6 _ _ ?_; clear hk6; try clear k6
      refine W.seqk fun k9 hk9 => ?_
      refine W.region ?_
      refine L.pu hC rfl rfl (fun _ => All.nil) rfl rfl ?_; clear hC a; intro a hC
      refine L.ixr hC rfl rfl rfl rfl m1 (fun _ => All.nil) (fun _ => All.nil) Try.underlying22 Try.sizeOf25 (fun _ => by omega) rfl rfl ?_; clear hC a; intro a hC
      refine L.ldxa hC rfl rfl rfl rfl (fun _ => All.nil) (fun _ => rd_bang hC m1 (by omega) _) Try.isAgg25 Try.sizeOf25 rfl rfl rfl rfl ?_; clear hC a; intro a hC
      refine L.st hC rfl rfl rfl rfl Try.sizeOf25 rfl rfl rfl rfl rfl ?_; clear hC a; intro a w hF hC
      refine L.pu hC rfl rfl (fun _ => All.nil) rfl rfl ?_; clear hC a; intro a hC
      refine L.nil ?_
      refine hk9 _ _ ?_; clear hk9; try clear k9
      refine W.ret ?_
      refine retl hC rfl (.agg rfl m0 Try.isAgg25 Try.sizeOf25 rfl (.tmp rfl .nil)) rfl ?_
      exact ⟨by rw [firstT_ok h1 h2]; rfl, hC.frm⟩

end Go.Proofs.E
