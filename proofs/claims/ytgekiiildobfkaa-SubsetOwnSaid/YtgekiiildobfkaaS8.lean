/- SubsetSome, walked. -/
import Derived.Test.YtgekiiildobfkaaS7
set_option linter.unusedVariables false
set_option linter.unusedSimpArgs false
namespace Go.Proofs.E
open Go.RowKit
theorem alive_sub : ofR [1, 2, 3] 0 3 0 = ([1, 2, 3], 0) := by
  unfold ofR
  rw [if_neg (by decide), if_neg (by decide)]
  unfold handR
  rw [if_pos (by decide)]
theorem guard_pos {j : Nat} {c : Bool} (h : Gt (some (c && decide ((j : Int) > 0)))) : 0 < j := by
  simp only [Gt, Bool.and_eq_true, decide_eq_true_eq] at h; omega
theorem of_bad {ids : List Int} {client size seed : Int} (h : ((ofR ids client size seed).2 != 0) = true) : (((ofR ids client size seed).1.length : Int) == 0) = true := by
  unfold ofR at h ⊢
  split
  · rfl
  · rename_i h1
    rw [if_neg h1] at h
    split
    · rfl
    · rename_i h2
      rw [if_neg h2] at h
      simp at h
structure SubLaw (ids L : List Int) (size : Int) : Prop where
  mem : ∀ x ∈ L, x ∈ ids
  up : L.Pairwise (fun x y => x < y)
  len : (L.length : Int) = imin size ids.length
theorem of_law {ids L : List Int} {client size seed : Int} (h : ((ofR ids client size seed).2 != 0) = false) (hL : (ofR ids client size seed).1 = L) : SubLaw ids L size := by
  unfold ofR at h hL
  split at h
  · rename_i h1; rw [h1] at h; cases h
  · rename_i h1
    rw [if_neg h1] at hL
    rw [Bool.not_eq_true] at h1
    split at h
    · rename_i h2; rw [h2] at h; cases h
    · rename_i h2
      rw [if_neg h2] at hL
      rw [Bool.not_eq_true] at h2
      obtain ⟨f1, f2, f3, f4, f5, f6⟩ := of_facts h1 h2
      have hr : rises (-1) ids = true := by
        have h1 : chkD ids = 0 := by simpa using h1
        unfold chkD at h1
        split at h1
        · cases h1
        · split at h1
          · cases h1
          · rename_i h; simpa using h
      generalize (roundR (ids.length : Int) client size).2.1 = at' at *
      have hmul : (at' + 1) * size = at' * size + size := by rw [Int.add_mul, Int.one_mul]
      obtain ⟨g1, g2, g3⟩ := hand_facts (size := size) (seed := seed) (round := (roundR (ids.length : Int) client size).1) (p := (at' * size).toNat) (q := ((at' + 1) * size).toNat) f1 hr (fun h => by have := f6 h; omega)
      simp only at hL
      rw [hL] at g1 g2 g3
      refine ⟨g1, g2, ?_⟩
      rw [g3]
      unfold imin
      split <;> split <;> omega
theorem of_len {ids L : List Int} {size : Int} (h : SubLaw ids L size) : ((L.length : Int) == imin size ids.length) = true := by rw [h.len]; simp
theorem some_ok {ids L : List Int} {size : Int} {j : Nat} (h : SubLaw ids L size) (hj : j < L.length) (hl : L.length ≤ 9223372036854775807) : (!(ids.any fun y => y == L[j]!) || (decide ((j : Int) > 0) && decide (L[j]! ≤ L[(IntKind.i64.wrap ((j : Int) - 1)).toNat]!))) = false := by
  have h1 : (ids.any fun y => y == L[j]!) = true := List.any_eq_true.2 ⟨_, h.mem _ (bang_mem' hj), by simp⟩
  rw [h1, Bool.not_true, Bool.false_or]
  by_cases h0 : 0 < j
  · have hl := h.len
    have e1 : ((j : Int) - 1).toNat = j - 1 := by omega
    have h2 := pair_bang h.up (show j - 1 < j by omega) hj
    rw [w64 (show In64 ((j : Int) - 1) by unfold In64; omega), e1, decide_eq_false (show ¬ L[j]! ≤ L[j - 1]! by omega), Bool.and_false]
  · rw [decide_eq_false (show ¬ (j : Int) > 0 by omega), Bool.false_and]
theorem alive13_ok (w0 : World) : Calls Try.prog 42 #[] w0 fun e w' => e = .returned (.bool true) ∧ Frm Nob w0 w' := by
  refine enter (μ := []) (S := Nob) (vs := []) Try.func42 rfl Try.ntmps42 rfl (Mem.nil _) (by simp) (fun a hC => ?_)
  refine W.seqk fun k1 hk1 => ?_
  refine W.region ?_
  refine L.pu hC rfl rfl (fun _ => All.nil) rfl rfl ?_; clear hC a; intro a hC
  refine L.nil ?_
  refine hk1 _ _ ?_; clear hk1; try clear k1
  refine W.seqk fun k2 hk2 => ?_
  refine W.region ?_
  refine L.litsP hC rfl rfl rfl (fun _ => All.nil) Try.underlying37 Try.infoI3 rfl rfl rfl rfl rfl rfl rfl rfl ?_; clear hC a; intro a w v0 hF hC
  refine L.callg [] hC rfl rfl Try.call43 rfl (Of_ok _ [1, 2, 3] 0 3 0 _ (hC.at m0 trivial)) (fun b h => h.elim) rfl rfl ?_; clear hC a; intro ov a w hQ hC
  refine L.pu hC rfl rfl (fun _ => All.nil) rfl rfl ?_; clear hC a; intro a hC
  refine L.pu hC rfl rfl (fun _ => All.nil) rfl rfl ?_; clear hC a; intro a hC
  refine L.pu hC rfl rfl (fun _ => All.nil) rfl rfl ?_; clear hC a; intro a hC
  refine L.pu hC rfl rfl (fun _ => All.nil) rfl rfl ?_; clear hC a; intro a hC
  refine L.pu hC rfl rfl (fun _ => All.nil) rfl rfl ?_; clear hC a; intro a hC
  refine L.nil ?_
  refine hk2 _ _ ?_; clear hk2; try clear k2
  refine W.seqk fun k3 hk3 => ?_
  refine W.region ?_
  refine L.pu hC rfl rfl (fun _ => All.nil) rfl rfl ?_; clear hC a; intro a hC
  refine L.call hC rfl rfl Try.call44 rfl (fun _ => All.nil) (fun hg => num13_ok _ _) rfl rfl ?_; clear hC a; intro a w hF hC
  refine L.pu hC rfl rfl (fun _ => All.nil) rfl rfl ?_; clear hC a; intro a hC
  refine L.pu hC rfl rfl (fun _ => All.nil) rfl rfl ?_; clear hC a; intro a hC
  refine L.pu hC rfl rfl (fun _ => All.nil) rfl rfl ?_; clear hC a; intro a hC
  refine L.litsP hC rfl rfl rfl (fun _ => All.nil) Try.underlying37 Try.infoI3 rfl rfl rfl rfl rfl rfl rfl rfl ?_; clear hC a; intro a w v5 hF hC
  refine L.call hC rfl rfl Try.call19 rfl (fun hg => by simp only [Gt, Bool.and_eq_true] at hg; simp only [All, List.cons_append, List.nil_append, List.append_nil, List.mem_cons, List.not_mem_nil, or_false, forall_eq_or_imp, forall_eq, Bool.and_eq_true, hg, Bool.not_false, Bool.not_true, and_self]) (fun hg => sameI_ok ov v5 _ [1, 2, 3] _ (own_rd (hC.at m1)) (hC.at m0 hg)) rfl rfl ?_; clear hC a; intro a w hF hC
  refine L.and hC rfl rfl rfl rfl (fun _ => All.nil) (fun _ hp => by simp only [All, List.cons_append, List.nil_append, List.append_nil, List.mem_cons, List.not_mem_nil, or_false, forall_eq_or_imp, forall_eq, Bool.and_eq_true, hp, Bool.not_false, Bool.not_true, and_self]) rfl rfl ?_; clear hC a; intro a hC
  refine L.pu hC rfl rfl (fun _ => All.nil) rfl rfl ?_; clear hC a; intro a hC
  refine L.nil ?_
  refine hk3 _ _ ?_; clear hk3; try clear k3
  refine W.ret ?_
  refine rets hC rfl (.tmp rfl .nil) ?_
  refine ⟨?_, hC.frm⟩
  refine rb ?_
  rw [alive_sub]; decide

theorem some13_law (v : Value) (ids : List Int) (client size seed : Int) (w0 : World) (hr : (rdR v intE ids).ok w0) : Calls Try.prog 9 #[v, .int .i64 client, .int .i64 size, .int .u64 seed] w0 fun e w' => e = .returned (.bool true) ∧ Frm Nob w0 w' := by
  have hlen := rd_lt hr
  obtain ⟨q, hL⟩ : ∃ x, (ofR ids client size seed).1 = x := ⟨_, rfl⟩
  refine enter (μ := [rdR v intE ids]) (S := Nob) (vs := [v, .int .i64 client, .int .i64 size, .int .u64 seed]) Try.func9 rfl Try.ntmps9 rfl ⟨by simpa using hr, by simp⟩ (by simp [rdR]) (fun a hC => ?_)
  refine W.seqk fun k1 hk1 => ?_
  refine W.region ?_
  refine L.pu hC rfl rfl (fun _ => All.nil) rfl rfl ?_; clear hC a; intro a hC
  refine L.nil ?_
  refine hk1 _ _ ?_; clear hk1; try clear k1
  refine W.seqk fun k2 hk2 => ?_
  refine W.seqk fun k3 hk3 => ?_
  refine W.region ?_
  refine L.call hC rfl rfl Try.call42 rfl (fun _ => All.nil) (fun hg => alive13_ok _) rfl rfl ?_; clear hC a; intro a w hF hC
  refine L.pu hC rfl rfl (fun _ => All.nil) rfl rfl ?_; clear hC a; intro a hC
  refine L.nil ?_
  refine hk3 _ _ ?_; clear hk3; try clear k3
  refine W.cond hC rfl (fun h1 => ?_) (fun h1 => ?_)
  ·
    exact absurd h1 (by simp)
  ·
    refine W.skip ?_
    refine hk2 _ _ ?_; clear hk2; try clear k2
    refine W.seqk fun k4 hk4 => ?_
    refine W.region ?_
    refine L.pu hC rfl rfl (fun _ => All.nil) rfl rfl ?_; clear hC a; intro a hC
    refine L.pu hC rfl rfl (fun _ => All.nil) rfl rfl ?_; clear hC a; intro a hC
    refine L.pu hC rfl rfl (fun _ => All.nil) rfl rfl ?_; clear hC a; intro a hC
    refine L.pu hC rfl rfl (fun _ => All.nil) rfl rfl ?_; clear hC a; intro a hC
    refine L.callg [] hC rfl rfl Try.call43 rfl (Of_ok v ids client size seed _ (hC.at m0)) (fun b h => h.elim) rfl rfl ?_; clear hC a; intro ov a w hQ hC
    rw [hL] at hC
    refine L.pu hC rfl rfl (fun _ => All.nil) rfl rfl ?_; clear hC a; intro a hC
    refine L.pu hC rfl rfl (fun _ => All.nil) rfl rfl ?_; clear hC a; intro a hC
    refine L.pu hC rfl rfl (fun _ => All.nil) rfl rfl ?_; clear hC a; intro a hC
    refine L.pu hC rfl rfl (fun _ => All.nil) rfl rfl ?_; clear hC a; intro a hC
    refine L.pu hC rfl rfl (fun _ => All.nil) rfl rfl ?_; clear hC a; intro a hC
    refine L.nil ?_
    refine hk4 _ _ ?_; clear hk4; try clear k4
    refine W.seqk fun k5 hk5 => ?_
    refine W.seqk fun k6 hk6 => ?_
    refine W.region ?_
    refine L.pu hC rfl rfl (fun _ => All.nil) rfl rfl ?_; clear hC a; intro a hC
    refine L.call hC rfl rfl Try.call44 rfl (fun _ => All.nil) (fun hg => num13_ok _ _) rfl rfl ?_; clear hC a; intro a w hF hC
    refine L.pu hC rfl rfl (fun _ => All.nil) rfl rfl ?_; clear hC a; intro a hC
    refine L.nil ?_
    refine hk6 _ _ ?_; clear hk6; try clear k6
    refine W.cond hC rfl (fun h2 => ?_) (fun h2 => ?_)
    ·
      refine W.seqk fun k7 hk7 => ?_
      refine W.region ?_
      refine L.pu hC rfl rfl (fun _ => All.nil) rfl rfl ?_; clear hC a; intro a hC
      refine L.len hC rfl rfl rfl (fun _ => All.nil) (own_form (hC.at m0)) Try.underlying37 rfl rfl ?_; clear hC a; intro a hC
      refine L.pu hC rfl rfl (fun _ => All.nil) rfl rfl ?_; clear hC a; intro a hC
      refine L.pu hC rfl rfl (fun _ => All.nil) rfl rfl ?_; clear hC a; intro a hC
      refine L.nil ?_
      refine hk7 _ _ ?_; clear hk7; try clear k7
      refine W.ret ?_
      refine rets hC rfl (.tmp rfl .nil) ?_
      refine ⟨?_, hC.frm⟩
      refine rb ?_
      rw [← hL]; exact of_bad h2
    ·
      have hf := of_law h2 hL
      refine W.skip ?_
      refine hk5 _ _ ?_; clear hk5; try clear k5
      refine W.seqk fun k8 hk8 => ?_
      refine W.seqk fun k9 hk9 => ?_
      refine W.region ?_
      refine L.pu hC rfl rfl (fun _ => All.nil) rfl rfl ?_; clear hC a; intro a hC
      refine L.nil ?_
      refine hk9 _ _ ?_; clear hk9; try clear k9
      refine W.block ?_
      have hll := own_lt (hC.at m0)
      refine W.loop (fun (j : Nat) a w' => (j ≤ q.length) ∧ Conf 64 Nob w0 [(11, (none, .int .i64 (j : Int))), (9, (none, ov)), (0, (none, v)), (2, (none, .int .i64 size))] [ownR ov 3 intE q, rdR v intE ids] a w') (fun (j : Nat) => q.length - j) 0 ?_ ?_
      · exact ⟨Nat.zero_le _, hC.keep ⟨rfl, rfl, rfl, rfl, trivial⟩⟩
      · rintro j a w ⟨hj, hC⟩
        refine W.seqk fun k10 hk10 => ?_
        refine W.seqk fun k11 hk11 => ?_
        refine W.region ?_
        refine L.pu hC rfl rfl (fun _ => All.nil) rfl rfl ?_; clear hC a; intro a hC
        refine L.pu hC rfl rfl (fun _ => All.nil) rfl rfl ?_; clear hC a; intro a hC
        refine L.len hC rfl rfl rfl (fun _ => All.nil) (own_form (hC.at m0)) Try.underlying37 rfl rfl ?_; clear hC a; intro a hC
        refine L.pu hC rfl rfl (fun _ => All.nil) rfl rfl ?_; clear hC a; intro a hC
        refine L.nil ?_
        refine hk11 _ _ ?_; clear hk11; try clear k11
        refine W.cond hC rfl (fun h3 => ?_) (fun h3 => ?_)
        ·
          have h3 := of_decide_eq_true h3
          refine W.skip ?_
          refine hk10 _ _ ?_; clear hk10; try clear k10
          refine W.seqk fun k12 hk12 => ?_
          refine W.block ?_
          refine W.seqk fun k13 hk13 => ?_
          refine W.drawD hC Try.mixed rfl rfl ?_
          apply DRN.cons (.det _ _) rfl
          · intro a w hC
            refine L.pu hC rfl rfl (fun _ => All.nil) rfl rfl ?_; clear hC a; intro a hC
            exact L.nil ⟨⟨_, [], hC⟩, Frm.refl _ _⟩
          apply DRN.cons (.det _ _) rfl
          · intro a w hC
            refine L.pu hC rfl rfl (fun _ => All.nil) rfl rfl ?_; clear hC a; intro a hC
            exact L.nil ⟨⟨_, [], hC⟩, Frm.refl _ _⟩
          apply DRN.cons (.det _ _) rfl
          · intro a w hC
            refine L.pu hC rfl rfl (fun _ => All.nil) rfl rfl ?_; clear hC a; intro a hC
            exact L.nil ⟨⟨_, [], hC⟩, Frm.refl _ _⟩
          apply DRN.cons (.det _ _) rfl
          · intro a w hC
            refine L.ixo hC rfl rfl rfl rfl m0 (fun _ => All.nil) (fun _ => All.nil) Try.underlying37 Try.sizeOf3 (fun _ => by omega) rfl rfl ?_; clear hC a; intro a hC
            exact L.nil ⟨⟨_, [], hC⟩, Frm.refl _ _⟩
          apply DRN.cons (.det _ _) rfl
          · intro a w hC
            refine L.ldx hC rfl rfl rfl rfl (fun _ => All.nil) (fun hg => own_bang hC m0 (by omega) _) Try.isAgg3 rfl rfl rfl ?_; clear hC a; intro a hC
            exact L.nil ⟨⟨_, [], hC⟩, Frm.refl _ _⟩
          apply DRN.cons (.det _ _) rfl
          · intro a w hC
            refine L.call hC rfl rfl Try.call45 rfl (fun _ => All.nil) (fun hg => has13_ok v ids q[j]! _ (hC.at m1)) rfl rfl ?_; clear hC a; intro a w hF hC
            exact L.nil ⟨⟨_, [], hC⟩, hF⟩
          apply DRN.cons (.det _ _) rfl
          · intro a w hC
            refine L.pu hC rfl rfl (fun _ => All.nil) rfl rfl ?_; clear hC a; intro a hC
            exact L.nil ⟨⟨_, [], hC⟩, Frm.refl _ _⟩
          apply DRN.cons (.det _ _) rfl
          · intro a w hC
            refine L.pu hC rfl rfl (fun _ => All.nil) rfl rfl ?_; clear hC a; intro a hC
            exact L.nil ⟨⟨_, [], hC⟩, Frm.refl _ _⟩
          apply DRN.cons (.det _ _) rfl
          · intro a w hC
            refine L.pu hC rfl rfl (fun _ => All.nil) rfl rfl ?_; clear hC a; intro a hC
            exact L.nil ⟨⟨_, [], hC⟩, Frm.refl _ _⟩
          apply DRN.cons (.det _ _) rfl
          · intro a w hC
            refine L.pu hC rfl rfl (fun hg => by simp only [Gt, Bool.and_eq_true] at hg; simp only [All, List.cons_append, List.nil_append, List.append_nil, List.mem_cons, List.not_mem_nil, or_false, forall_eq_or_imp, forall_eq, Bool.and_eq_true, hg, Bool.not_false, Bool.not_true, and_self]) rfl rfl ?_; clear hC a; intro a hC
            exact L.nil ⟨⟨_, [], hC⟩, Frm.refl _ _⟩
          apply DRN.cons (.det _ _) rfl
          · intro a w hC
            refine L.pu hC rfl rfl (fun hg => by simp only [Gt, Bool.and_eq_true] at hg; simp only [All, List.cons_append, List.nil_append, List.append_nil, List.mem_cons, List.not_mem_nil, or_false, forall_eq_or_imp, forall_eq, Bool.and_eq_true, hg, Bool.not_false, Bool.not_true, and_self]) rfl rfl ?_; clear hC a; intro a hC
            exact L.nil ⟨⟨_, [], hC⟩, Frm.refl _ _⟩
          apply DRN.cons (.det _ _) rfl
          · intro a w hC
            refine L.pu hC rfl rfl (fun _ => All.nil) rfl rfl ?_; clear hC a; intro a hC
            exact L.nil ⟨⟨_, [], hC⟩, Frm.refl _ _⟩
          apply DRN.cons (.det _ _) rfl
          · intro a w hC
            refine L.pu hC rfl rfl (fun _ => All.nil) rfl rfl ?_; clear hC a; intro a hC
            exact L.nil ⟨⟨_, [], hC⟩, Frm.refl _ _⟩
          apply DRN.cons (.det _ _) rfl
          · intro a w hC
            refine L.ixo hC rfl rfl rfl rfl m0 (fun hg => by simp only [Gt, Bool.and_eq_true] at hg; simp only [All, List.cons_append, List.nil_append, List.append_nil, List.mem_cons, List.not_mem_nil, or_false, forall_eq_or_imp, forall_eq, Bool.and_eq_true, hg, Bool.not_false, Bool.not_true, and_self]) (fun hg => by simp only [Gt, Bool.and_eq_true] at hg; simp only [All, List.cons_append, List.nil_append, List.append_nil, List.mem_cons, List.not_mem_nil, or_false, forall_eq_or_imp, forall_eq, Bool.and_eq_true, hg, Bool.not_false, Bool.not_true, and_self]) Try.underlying37 Try.sizeOf3 (fun _ => by omega) rfl rfl ?_; clear hC a; intro a hC
            exact L.nil ⟨⟨_, [], hC⟩, Frm.refl _ _⟩
          apply DRN.cons (.det _ _) rfl
          · intro a w hC
            refine L.ldx hC rfl rfl rfl rfl (fun hg => by simp only [Gt, Bool.and_eq_true] at hg; simp only [All, List.cons_append, List.nil_append, List.append_nil, List.mem_cons, List.not_mem_nil, or_false, forall_eq_or_imp, forall_eq, Bool.and_eq_true, hg, Bool.not_false, Bool.not_true, and_self]) (fun hg => own_bang hC m0 (by omega) _) Try.isAgg3 rfl rfl rfl ?_; clear hC a; intro a hC
            exact L.nil ⟨⟨_, [], hC⟩, Frm.refl _ _⟩
          apply DRN.cons (.det _ _) rfl
          · intro a w hC
            refine L.pu hC rfl rfl (fun _ => All.nil) rfl rfl ?_; clear hC a; intro a hC
            exact L.nil ⟨⟨_, [], hC⟩, Frm.refl _ _⟩
          apply DRN.cons (.det _ _) rfl
          · intro a w hC
            refine L.pu hC rfl rfl (fun _ => All.nil) rfl rfl ?_; clear hC a; intro a hC
            exact L.nil ⟨⟨_, [], hC⟩, Frm.refl _ _⟩
          apply DRN.cons (.det _ _) rfl
          · intro a w hC
            refine L.pu hC rfl rfl (fun hg => by simp only [Gt, Bool.and_eq_true] at hg; simp only [All, List.cons_append, List.nil_append, List.append_nil, List.mem_cons, List.not_mem_nil, or_false, forall_eq_or_imp, forall_eq, Bool.and_eq_true, hg, Bool.not_false, Bool.not_true, and_self]) rfl rfl ?_; clear hC a; intro a hC
            exact L.nil ⟨⟨_, [], hC⟩, Frm.refl _ _⟩
          apply DRN.cons (.det _ _) rfl
          · intro a w hC
            refine L.ixo hC rfl rfl rfl rfl m0 (fun hg => by simp only [Gt, Bool.and_eq_true] at hg; simp only [All, List.cons_append, List.nil_append, List.append_nil, List.mem_cons, List.not_mem_nil, or_false, forall_eq_or_imp, forall_eq, Bool.and_eq_true, hg, Bool.not_false, Bool.not_true, and_self]) (fun hg => by simp only [Gt, Bool.and_eq_true] at hg; simp only [All, List.cons_append, List.nil_append, List.append_nil, List.mem_cons, List.not_mem_nil, or_false, forall_eq_or_imp, forall_eq, Bool.and_eq_true, hg, Bool.not_false, Bool.not_true, and_self]) Try.underlying37 Try.sizeOf3 (fun hg => by have hj1 := guard_pos hg; rw [w64 (by omega)]; omega) rfl rfl ?_; clear hC a; intro a hC
            exact L.nil ⟨⟨_, [], hC⟩, Frm.refl _ _⟩
          apply DRN.cons (.det _ _) rfl
          · intro a w hC
            refine L.ldx hC rfl rfl rfl rfl (fun hg => by simp only [Gt, Bool.and_eq_true] at hg; simp only [All, List.cons_append, List.nil_append, List.append_nil, List.mem_cons, List.not_mem_nil, or_false, forall_eq_or_imp, forall_eq, Bool.and_eq_true, hg, Bool.not_false, Bool.not_true, and_self]) (fun hg => own_bang hC m0 (by have hj1 := guard_pos hg; rw [w64 (by omega)]; omega) _) Try.isAgg3 rfl rfl rfl ?_; clear hC a; intro a hC
            exact L.nil ⟨⟨_, [], hC⟩, Frm.refl _ _⟩
          apply DRN.cons (.det _ _) rfl
          · intro a w hC
            refine L.pu hC rfl rfl (fun hg => by simp only [Gt, Bool.and_eq_true] at hg; simp only [All, List.cons_append, List.nil_append, List.append_nil, List.mem_cons, List.not_mem_nil, or_false, forall_eq_or_imp, forall_eq, Bool.and_eq_true, hg, Bool.not_false, Bool.not_true, and_self]) rfl rfl ?_; clear hC a; intro a hC
            exact L.nil ⟨⟨_, [], hC⟩, Frm.refl _ _⟩
          apply DRN.cons (.det _ _) rfl
          · intro a w hC
            refine L.and hC rfl rfl rfl rfl (fun hg => by simp only [Gt, Bool.and_eq_true] at hg; simp only [All, List.cons_append, List.nil_append, List.append_nil, List.mem_cons, List.not_mem_nil, or_false, forall_eq_or_imp, forall_eq, Bool.and_eq_true, hg, Bool.not_false, Bool.not_true, and_self]) (fun hg hp => by simp only [Gt, Bool.and_eq_true] at hg; simp only [All, List.cons_append, List.nil_append, List.append_nil, List.mem_cons, List.not_mem_nil, or_false, forall_eq_or_imp, forall_eq, Bool.and_eq_true, hg, hp, Bool.not_false, Bool.not_true, and_self]) rfl rfl ?_; clear hC a; intro a hC
            exact L.nil ⟨⟨_, [], hC⟩, Frm.refl _ _⟩
          apply DRN.cons (.det _ _) rfl
          · intro a w hC
            refine L.or hC rfl rfl rfl rfl (fun _ => All.nil) (fun _ hp => by simp only [All, List.cons_append, List.nil_append, List.append_nil, List.mem_cons, List.not_mem_nil, or_false, forall_eq_or_imp, forall_eq, Bool.and_eq_true, hp, Bool.not_false, Bool.not_true, and_self]) rfl rfl ?_; clear hC a; intro a hC
            exact L.nil ⟨⟨_, [], hC⟩, Frm.refl _ _⟩
          refine DRN.nil (fun w' hF => ?_)
          intro a w hC hw
          subst hw
          refine hk13 _ _ ?_; clear hk13; try clear k13
          refine W.cond hC rfl (fun h4 => ?_) (fun h4 => ?_)
          ·
            exact absurd h4 (by rw [Int.toNat_natCast, some_ok hf (by omega) (by omega)]; simp)
          ·
            refine W.skip ?_
            refine hk12 _ _ ?_; clear hk12; try clear k12
            refine W.region ?_
            refine L.pu hC rfl rfl (fun _ => All.nil) rfl rfl ?_; clear hC a; intro a hC
            refine L.pu hC rfl rfl (fun _ => All.nil) rfl rfl ?_; clear hC a; intro a hC
            refine L.pu hC rfl rfl (fun _ => All.nil) rfl rfl ?_; clear hC a; intro a hC
            refine L.nil ?_
            exact ⟨j + 1, ⟨by omega, hC.keep ⟨geti rfl (w64 (by omega)), rfl, rfl, rfl, trivial⟩⟩, by first | omega | (dsimp only; omega)⟩
        ·
          have h3 := of_decide_eq_false h3
          refine W.exit ?_
          refine Kb.here ?_
          refine hk8 _ _ ?_; clear hk8; try clear k8
          refine W.seqk fun k14 hk14 => ?_
          refine W.region ?_
          refine L.pu hC rfl rfl (fun _ => All.nil) rfl rfl ?_; clear hC a; intro a hC
          refine L.len hC rfl rfl rfl (fun _ => All.nil) (own_form (hC.at m0)) Try.underlying37 rfl rfl ?_; clear hC a; intro a hC
          refine L.pu hC rfl rfl (fun _ => All.nil) rfl rfl ?_; clear hC a; intro a hC
          refine L.pu hC rfl rfl (fun _ => All.nil) rfl rfl ?_; clear hC a; intro a hC
          refine L.len hC rfl rfl rfl (fun _ => All.nil) (rd_form (hC.at m1)) Try.underlying37 rfl rfl ?_; clear hC a; intro a hC
          refine L.min2 hC rfl rfl rfl rfl (fun _ => All.nil) (fun _ => All.nil) rfl rfl ?_; clear hC a; intro a hC
          refine L.pu hC rfl rfl (fun _ => All.nil) rfl rfl ?_; clear hC a; intro a hC
          refine L.pu hC rfl rfl (fun _ => All.nil) rfl rfl ?_; clear hC a; intro a hC
          refine L.nil ?_
          refine hk14 _ _ ?_; clear hk14; try clear k14
          refine W.ret ?_
          refine rets hC rfl (.tmp rfl .nil) ?_
          refine ⟨?_, hC.frm⟩
          refine rb ?_
          exact of_len hf

end Go.Proofs.E
