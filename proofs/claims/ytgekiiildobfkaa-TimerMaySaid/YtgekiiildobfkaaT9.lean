/- Part of the proof: what the functions of this program compute. -/
import Derived.Test.YtgekiiildobfkaaT8
set_option linter.unusedVariables false
set_option linter.unusedSimpArgs false
namespace Go.Proofs.E
open Go.RowKit
theorem alive_add : addR [] [(5, 1), (3, 2)] = (0, [(3, 2), (5, 1)]) := by
  have h0 : chkT [] = 0 := by decide
  have h1 : pushH [] (5, 1) = [(5, 1)] := by unfold pushH; rw [siftUp]; rfl
  have h2 : pushH [(5, 1)] (3, 2) = [(3, 2), (5, 1)] := by
    unfold pushH
    rw [siftUp, dif_pos (by decide), if_pos (by decide)]
    rw [siftUp, dif_neg (by decide)]; rfl
  rw [addR_good (by rw [h0]; rfl)]
  unfold addT
  rw [if_neg (by decide), if_neg (by decide), if_neg (by decide), h1]
  unfold addT
  rw [if_neg (by decide), if_neg (by decide), if_neg (by decide), h2]
  rfl
theorem firstT_pos {l : List (Int × Int)} (h : ((firstT l).2 != 0) = false) : 0 < l.length ∧ (firstT l).1 = l[0]! ∧ chkT l = 0 := by
  have h : (firstT l).2 = 0 := by simpa using h
  by_cases hc : chkT l = 0
  · by_cases hl : l.length = 0
    · rw [firstT_none (by simp [hc]) (by simp [hl])] at h; cases h
    · rw [firstT_ok (by simp [hc]) (by rw [beq_eq_false_iff_ne]; omega)]; exact ⟨by omega, rfl, hc⟩
  · rw [firstT_bad (by simpa using hc)] at h
    exact absurd h hc
theorem firstT_zero {l : List (Int × Int)} (h : ((firstT l).2 != 0) = true) : veqs (timE.enc (firstT l).1) (timE.enc (0, 0)) = true := by
  have h : ¬ (firstT l).2 = 0 := by simpa using h
  have : (firstT l).1 = (0, 0) := by
    unfold firstT at h ⊢
    split
    · rfl
    · rename_i h1
      rw [if_neg h1] at h
      split
      · rfl
      · rename_i h2
        rw [if_neg h2] at h
        exact absurd rfl h
  rw [this]; rfl
theorem idx_ok (a : Int) {n : Nat} (h : 0 < n) (hn : n ≤ 1024) : 0 ≤ (IntKind.i64.wrap (a.tmod n + n)).tmod n ∧ (IntKind.i64.wrap (a.tmod n + n)).tmod n < n := by
  have h1 := Int.tmod_lt_of_pos a (b := n) (by omega)
  have h2 : -(n : Int) < a.tmod n := by
    exact Int.lt_tmod_of_pos a (by omega)
  rw [w64 (by omega)]
  exact ⟨Int.tmod_nonneg _ (by omega), Int.tmod_lt_of_pos _ (by omega)⟩
theorem ordI_spec (x y : Int × Int) : (ordI x y < 0 ↔ x.1 < y.1 ∨ (x.1 = y.1 ∧ x.2 < y.2)) := by
  obtain ⟨a, b⟩ := x
  obtain ⟨c, d⟩ := y
  simp only [ordI, orI, cmpI]
  split <;> split <;> (repeat' split) <;> omega
theorem heap_first {l : List (Int × Int)} (h : badH l = false) : ∀ i, i < l.length → l[0]! = l[i]! ∨ aheadR l[0]! l[i]! = true := by
  intro i
  induction i using Nat.strongRecOn with
  | _ i ih =>
    intro hi
    by_cases h0 : i = 0
    · subst h0; exact .inl rfl
    · have hb : badAt l i = false := by
        unfold badH at h
        rw [List.any_eq_false] at h
        have := h i (by simpa using hi)
        simpa using this
      have hn : ¬ ordI l[i]! l[(i - 1) / 2]! < 0 := by
        unfold badAt at hb
        rw [Bool.and_eq_false_iff, decide_eq_false_iff_not, decide_eq_false_iff_not] at hb
        rcases hb with hb | hb
        · omega
        · exact hb
      rw [ordI_spec] at hn
      have hp := ih ((i - 1) / 2) (by omega) (by omega)
      generalize l[0]! = x at *
      generalize l[(i - 1) / 2]! = p at *
      generalize l[i]! = y at *
      obtain ⟨x1, x2⟩ := x
      obtain ⟨p1, p2⟩ := p
      obtain ⟨y1, y2⟩ := y
      simp only [aheadR, Prod.mk.injEq, Bool.or_eq_true, Bool.and_eq_true, decide_eq_true_eq, beq_iff_eq] at *
      omega
theorem firstT_ahead {l : List (Int × Int)} {k : Nat} (h : ((firstT l).2 != 0) = false) (hk : k < l.length) : (veqs (timE.enc l[k]!) (timE.enc (firstT l).1) || aheadR (firstT l).1 l[k]!) = true := by
  obtain ⟨h1, h2, h3⟩ := firstT_pos h
  have hb : badH l = false := by
    unfold chkT at h3
    repeat' split at h3
    all_goals first | cases h3 | skip
    rename_i hb
    simpa using hb
  rw [h2]
  rcases heap_first hb k hk with e | e
  · rw [← e]
    simp [veqs, veq, timE]
  · rw [e, Bool.or_true]
theorem alive20_ok (w0 : World) : Calls Try.prog 13 #[] w0 fun e w' => e = .returned (.bool true) ∧ Frm Nob w0 w' := by
  refine enter (μ := []) (S := Nob) (vs := []) Try.func13 rfl Try.ntmps13 rfl (Mem.nil _) (by simp) (fun a hC => ?_)
  refine W.seqk fun k1 hk1 => ?_
  refine W.region ?_
  refine L.pu hC rfl rfl (fun _ => All.nil) rfl rfl ?_; clear hC a; intro a hC
  refine L.nil ?_
  refine hk1 _ _ ?_; clear hk1; try clear k1
  refine W.seqk fun k2 hk2 => ?_
  refine W.region ?_
  refine L.buildS (ps := [(0, 1), (1, 1)]) hC rfl rfl rfl (fun _ => All.nil) Try.zeroValue25 Try.underlying25 ⟨⟨rfl, Try.sizeOf3⟩, ⟨rfl, Try.sizeOf3⟩, trivial⟩ rfl rfl rfl ?_; clear hC a; intro a hC
  refine L.buildS (ps := [(0, 1), (1, 1)]) hC rfl rfl rfl (fun _ => All.nil) Try.zeroValue25 Try.underlying25 ⟨⟨rfl, Try.sizeOf3⟩, ⟨rfl, Try.sizeOf3⟩, trivial⟩ rfl rfl rfl ?_; clear hC a; intro a hC
  refine L.bsP hC rfl rfl rfl Try.underlying22 Try.infoI25 rfl rfl rfl rfl rfl rfl rfl ?_; clear hC a; intro lb a w hF hC
  refine L.callg [] hC rfl rfl Try.call22 rfl (add20_ok _ _ [] [(5, 1), (3, 2)] _ rd_nil (lit_rd (hC.at m0) rfl (by decide))) (fun b h => h.elim) rfl rfl ?_; clear hC a; intro hv a w hQ hC
  replace hC := hC.hd (r' := ownR hv 25 timE [(3, 2), (5, 1)]) (by rw [alive_add])
  refine L.pu hC rfl rfl (fun _ => All.nil) rfl rfl ?_; clear hC a; intro a hC
  refine L.pu hC rfl rfl (fun _ => All.nil) rfl rfl ?_; clear hC a; intro a hC
  refine L.pu hC rfl rfl (fun _ => All.nil) rfl rfl ?_; clear hC a; intro a hC
  refine L.pu hC rfl rfl (fun _ => All.nil) rfl rfl ?_; clear hC a; intro a hC
  refine L.pu hC rfl rfl (fun _ => All.nil) rfl rfl ?_; clear hC a; intro a hC
  refine L.nil ?_
  refine hk2 _ _ ?_; clear hk2; try clear k2
  refine W.seqk fun k3 hk3 => ?_
  refine W.region ?_
  refine L.pu hC rfl rfl (fun _ => All.nil) rfl rfl ?_; clear hC a; intro a hC
  refine L.call hC rfl rfl Try.call14 rfl (fun _ => All.nil) (fun hg => first20_ok _ _ _ (own_rd (hC.at m0))) rfl rfl ?_; clear hC a; intro a w hF hC
  refine L.pu hC rfl rfl (fun _ => All.nil) rfl rfl ?_; clear hC a; intro a hC
  refine L.pu hC rfl rfl (fun _ => All.nil) rfl rfl ?_; clear hC a; intro a hC
  refine L.pu hC rfl rfl (fun _ => All.nil) rfl rfl ?_; clear hC a; intro a hC
  refine L.alloc hC rfl rfl Try.zeroValue25 rfl rfl rfl ?_; clear hC a; intro b1 a w hF hC
  refine L.st hC rfl rfl rfl rfl Try.sizeOf25 rfl rfl rfl rfl rfl ?_; clear hC a; intro a w hF hC
  refine L.pu hC rfl rfl (fun _ => All.nil) rfl rfl ?_; clear hC a; intro a hC
  refine L.nil ?_
  refine hk3 _ _ ?_; clear hk3; try clear k3
  refine W.seqk fun k4 hk4 => ?_
  refine W.region ?_
  refine L.pu hC rfl rfl (fun _ => All.nil) rfl rfl ?_; clear hC a; intro a hC
  refine L.call hC rfl rfl Try.call15 rfl (fun _ => All.nil) (fun hg => num20_ok _ _) rfl rfl ?_; clear hC a; intro a w hF hC
  refine L.pu hC rfl rfl (fun _ => All.nil) rfl rfl ?_; clear hC a; intro a hC
  refine L.call hC rfl rfl Try.call15 rfl (fun _ => All.nil) (fun hg => num20_ok _ _) rfl rfl ?_; clear hC a; intro a w hF hC
  refine L.pu hC rfl rfl (fun _ => All.nil) rfl rfl ?_; clear hC a; intro a hC
  refine L.pu hC rfl rfl (fun _ => All.nil) rfl rfl ?_; clear hC a; intro a hC
  refine L.pu hC rfl rfl (fun _ => All.nil) rfl rfl ?_; clear hC a; intro a hC
  refine L.lda hC rfl rfl rfl (fun _ => All.nil) m0 Try.isAgg25 Try.sizeOf25 rfl rfl rfl rfl ?_; clear hC a; intro a hC
  refine L.buildS (ps := [(0, 1), (1, 1)]) hC rfl rfl rfl (fun _ => All.nil) Try.zeroValue25 Try.underlying25 ⟨⟨rfl, Try.sizeOf3⟩, ⟨rfl, Try.sizeOf3⟩, trivial⟩ rfl rfl rfl ?_; clear hC a; intro a hC
  refine L.bin hC rfl rfl rfl rfl (fun hg => by simp only [Gt, Bool.and_eq_true] at hg; simp only [All, List.cons_append, List.nil_append, List.append_nil, List.mem_cons, List.not_mem_nil, or_false, forall_eq_or_imp, forall_eq, Bool.and_eq_true, hg, Bool.not_false, Bool.not_true, and_self]) (fun hg => by simp only [Gt, Bool.and_eq_true] at hg; simp only [All, List.cons_append, List.nil_append, List.append_nil, List.mem_cons, List.not_mem_nil, or_false, forall_eq_or_imp, forall_eq, Bool.and_eq_true, hg, Bool.not_false, Bool.not_true, and_self]) (fun _ => run_eqS Try.underlying25 Try.stoodInHeld25 Try.eqGuardType25 ⟨⟨rfl, rfl, ⟨_, Try.underlying3⟩⟩, ⟨rfl, rfl, ⟨_, Try.underlying3⟩⟩, trivial⟩ rfl) rfl rfl ?_; clear hC a; intro a hC
  refine L.and hC rfl rfl rfl rfl (fun _ => All.nil) (fun _ hp => by simp only [All, List.cons_append, List.nil_append, List.append_nil, List.mem_cons, List.not_mem_nil, or_false, forall_eq_or_imp, forall_eq, Bool.and_eq_true, hp, Bool.not_false, Bool.not_true, and_self]) rfl rfl ?_; clear hC a; intro a hC
  refine L.pu hC rfl rfl (fun _ => All.nil) rfl rfl ?_; clear hC a; intro a hC
  refine L.nil ?_
  refine hk4 _ _ ?_; clear hk4; try clear k4
  refine W.ret ?_
  refine rets hC rfl (.tmp rfl .nil) ?_
  refine ⟨?_, hC.frm⟩
  refine rb ?_
  rw [alive_add]; rfl

theorem first20_law (v : Value) (l : List (Int × Int)) (at' : Int) (w0 : World) (hr : (rdR v timE l).ok w0) : Calls Try.prog 3 #[v, .int .i64 at'] w0 fun e w' => e = .returned (.bool true) ∧ Frm Nob w0 w' := by
  have hlen := rd_lt hr
  refine enter (μ := [rdR v timE l]) (S := Nob) (vs := [v, .int .i64 at']) Try.func3 rfl Try.ntmps3 rfl ⟨by simpa using hr, by simp⟩ (by simp [rdR]) (fun a hC => ?_)
  refine W.seqk fun k1 hk1 => ?_
  refine W.region ?_
  refine L.pu hC rfl rfl (fun _ => All.nil) rfl rfl ?_; clear hC a; intro a hC
  refine L.nil ?_
  refine hk1 _ _ ?_; clear hk1; try clear k1
  refine W.seqk fun k2 hk2 => ?_
  refine W.seqk fun k3 hk3 => ?_
  refine W.region ?_
  refine L.call hC rfl rfl Try.call13 rfl (fun _ => All.nil) (fun hg => alive20_ok _) rfl rfl ?_; clear hC a; intro a w hF hC
  refine L.pu hC rfl rfl (fun _ => All.nil) rfl rfl ?_; clear hC a; intro a hC
  refine L.nil ?_
  refine hk3 _ _ ?_; clear hk3; try clear k3
  refine W.cond hC rfl (fun h1 => ?_) (fun h1 => ?_)
  ·
    exact absurd h1 (by simp)
  ·
    refine W.skip ?_
    refine hk2 _ _ ?_; clear hk2; try clear k2
    refine W.seqk fun k4 hk4 => ?_
    refine W.region ?_
    refine L.pu hC rfl rfl (fun _ => All.nil) rfl rfl ?_; clear hC a; intro a hC
    refine L.call hC rfl rfl Try.call14 rfl (fun _ => All.nil) (fun hg => first20_ok _ _ _ (hC.at m0)) rfl rfl ?_; clear hC a; intro a w hF hC
    refine L.pu hC rfl rfl (fun _ => All.nil) rfl rfl ?_; clear hC a; intro a hC
    refine L.pu hC rfl rfl (fun _ => All.nil) rfl rfl ?_; clear hC a; intro a hC
    refine L.pu hC rfl rfl (fun _ => All.nil) rfl rfl ?_; clear hC a; intro a hC
    refine L.alloc hC rfl rfl Try.zeroValue25 rfl rfl rfl ?_; clear hC a; intro tb a w hF hC
    refine L.st hC rfl rfl rfl rfl Try.sizeOf25 rfl rfl rfl rfl rfl ?_; clear hC a; intro a w hF hC
    refine L.pu hC rfl rfl (fun _ => All.nil) rfl rfl ?_; clear hC a; intro a hC
    refine L.nil ?_
    refine hk4 _ _ ?_; clear hk4; try clear k4
    refine W.seqk fun k5 hk5 => ?_
    refine W.seqk fun k6 hk6 => ?_
    refine W.region ?_
    refine L.pu hC rfl rfl (fun _ => All.nil) rfl rfl ?_; clear hC a; intro a hC
    refine L.call hC rfl rfl Try.call15 rfl (fun _ => All.nil) (fun hg => num20_ok _ _) rfl rfl ?_; clear hC a; intro a w hF hC
    refine L.pu hC rfl rfl (fun _ => All.nil) rfl rfl ?_; clear hC a; intro a hC
    refine L.nil ?_
    refine hk6 _ _ ?_; clear hk6; try clear k6
    refine W.cond hC rfl (fun h2 => ?_) (fun h2 => ?_)
    ·
      refine W.seqk fun k7 hk7 => ?_
      refine W.region ?_
      refine L.lda hC rfl rfl rfl (fun _ => All.nil) m0 Try.isAgg25 Try.sizeOf25 rfl rfl rfl rfl ?_; clear hC a; intro a hC
      refine L.buildS (ps := [(0, 1), (1, 1)]) hC rfl rfl rfl (fun _ => All.nil) Try.zeroValue25 Try.underlying25 ⟨⟨rfl, Try.sizeOf3⟩, ⟨rfl, Try.sizeOf3⟩, trivial⟩ rfl rfl rfl ?_; clear hC a; intro a hC
      refine L.bin hC rfl rfl rfl rfl (fun _ => All.nil) (fun _ => All.nil) (fun _ => run_eqS Try.underlying25 Try.stoodInHeld25 Try.eqGuardType25 ⟨⟨rfl, rfl, ⟨_, Try.underlying3⟩⟩, ⟨rfl, rfl, ⟨_, Try.underlying3⟩⟩, trivial⟩ rfl) rfl rfl ?_; clear hC a; intro a hC
      refine L.pu hC rfl rfl (fun _ => All.nil) rfl rfl ?_; clear hC a; intro a hC
      refine L.nil ?_
      refine hk7 _ _ ?_; clear hk7; try clear k7
      refine W.ret ?_
      refine rets hC rfl (.tmp rfl .nil) ?_
      refine ⟨?_, hC.frm⟩
      refine rb ?_
      exact firstT_zero h2
    ·
      have hf := firstT_pos h2
      have hix := idx_ok at' hf.1 (chk_len hf.2.2)
      refine W.skip ?_
      refine hk5 _ _ ?_; clear hk5; try clear k5
      refine W.seqk fun k8 hk8 => ?_
      refine W.region ?_
      refine L.pu hC rfl rfl (fun _ => All.nil) rfl rfl ?_; clear hC a; intro a hC
      refine L.pu hC rfl rfl (fun _ => All.nil) rfl rfl ?_; clear hC a; intro a hC
      refine L.pu hC rfl rfl (fun _ => All.nil) rfl rfl ?_; clear hC a; intro a hC
      refine L.len hC rfl rfl rfl (fun _ => All.nil) (rd_form (hC.at m1)) Try.underlying22 rfl rfl ?_; clear hC a; intro a hC
      refine L.bin hC rfl rfl rfl rfl (fun _ => All.nil) (fun _ => All.nil) (fun hg => run_rem (by have := hf.1; omega) _) rfl rfl ?_; clear hC a; intro a hC
      refine L.pu hC rfl rfl (fun _ => All.nil) rfl rfl ?_; clear hC a; intro a hC
      refine L.len hC rfl rfl rfl (fun _ => All.nil) (rd_form (hC.at m1)) Try.underlying22 rfl rfl ?_; clear hC a; intro a hC
      refine L.pu hC rfl rfl (fun _ => All.nil) rfl rfl ?_; clear hC a; intro a hC
      refine L.pu hC rfl rfl (fun _ => All.nil) rfl rfl ?_; clear hC a; intro a hC
      refine L.len hC rfl rfl rfl (fun _ => All.nil) (rd_form (hC.at m1)) Try.underlying22 rfl rfl ?_; clear hC a; intro a hC
      refine L.bin hC rfl rfl rfl rfl (fun _ => All.nil) (fun _ => All.nil) (fun hg => run_rem (by have := hf.1; omega) _) rfl rfl ?_; clear hC a; intro a hC
      refine L.ixr hC rfl rfl rfl rfl m1 (fun _ => All.nil) (fun _ => All.nil) Try.underlying22 Try.sizeOf25 (fun _ => hix) rfl rfl ?_; clear hC a; intro a hC
      refine L.ldxa hC rfl rfl rfl rfl (fun _ => All.nil) (fun _ => rd_bang hC m1 (by omega) _) Try.isAgg25 Try.sizeOf25 rfl rfl rfl rfl ?_; clear hC a; intro a hC
      refine L.alloc hC rfl rfl Try.zeroValue25 rfl rfl rfl ?_; clear hC a; intro xb a w hF hC
      refine L.st hC rfl rfl rfl rfl Try.sizeOf25 rfl rfl rfl rfl rfl ?_; clear hC a; intro a w hF hC
      refine L.nil ?_
      refine hk8 _ _ ?_; clear hk8; try clear k8
      refine W.seqk fun k9 hk9 => ?_
      refine W.region ?_
      refine L.lda hC rfl rfl rfl (fun _ => All.nil) m0 Try.isAgg25 Try.sizeOf25 rfl rfl rfl rfl ?_; clear hC a; intro a hC
      refine L.lda hC rfl rfl rfl (fun _ => All.nil) m1 Try.isAgg25 Try.sizeOf25 rfl rfl rfl rfl ?_; clear hC a; intro a hC
      refine L.bin hC rfl rfl rfl rfl (fun _ => All.nil) (fun _ => All.nil) (fun _ => run_eqS Try.underlying25 Try.stoodInHeld25 Try.eqGuardType25 ⟨⟨rfl, rfl, ⟨_, Try.underlying3⟩⟩, ⟨rfl, rfl, ⟨_, Try.underlying3⟩⟩, trivial⟩ rfl) rfl rfl ?_; clear hC a; intro a hC
      refine L.pu hC rfl rfl (fun _ => All.nil) rfl rfl ?_; clear hC a; intro a hC
      refine L.lda hC rfl rfl rfl (fun _ => All.nil) m1 Try.isAgg25 Try.sizeOf25 rfl rfl rfl rfl ?_; clear hC a; intro a hC
      refine L.lda hC rfl rfl rfl (fun _ => All.nil) m0 Try.isAgg25 Try.sizeOf25 rfl rfl rfl rfl ?_; clear hC a; intro a hC
      refine L.call hC rfl rfl Try.call16 rfl (fun hg => by simp only [Gt, Bool.and_eq_true] at hg; simp only [All, List.cons_append, List.nil_append, List.append_nil, List.mem_cons, List.not_mem_nil, or_false, forall_eq_or_imp, forall_eq, Bool.and_eq_true, hg, Bool.not_false, Bool.not_true, and_self]) (fun hg => refahead_ok _ _ _) rfl rfl ?_; clear hC a; intro a w hF hC
      refine L.or hC rfl rfl rfl rfl (fun _ => All.nil) (fun _ hp => by simp only [All, List.cons_append, List.nil_append, List.append_nil, List.mem_cons, List.not_mem_nil, or_false, forall_eq_or_imp, forall_eq, Bool.and_eq_true, hp, Bool.not_false, Bool.not_true, and_self]) rfl rfl ?_; clear hC a; intro a hC
      refine L.pu hC rfl rfl (fun _ => All.nil) rfl rfl ?_; clear hC a; intro a hC
      refine L.nil ?_
      refine hk9 _ _ ?_; clear hk9; try clear k9
      refine W.ret ?_
      refine rets hC rfl (.tmp rfl .nil) ?_
      refine ⟨?_, hC.frm⟩
      refine rb ?_
      exact firstT_ahead h2 (by omega)

end Go.Proofs.E
