/- Rings of backends: what the small functions compute. -/
import Derived.Test.YtgekiiildobfkabbT
set_option linter.unusedVariables false
set_option linter.unusedSimpArgs false
namespace Go.Proofs.E
open Go.RowKit
def pntE : Enc (Int × Int) where
  sz := 2
  enc x := [.int .u64 x.1, .int .i64 x.2]
  len _ := rfl
  one := by intro x u hu; simp at hu; rcases hu with rfl | rfl <;> rfl
  pos := by decide
def oddBk (x : Int × Int) : Bool := ((decide (x.1 < 0) || decide (x.1 > 2147483647)) || decide (x.2 < 1)) || decide (x.2 > 16)
def wholeW (l : List (Int × Int)) : Int := if decide ((l.length : Int) > 1024) = true then 3 else if (!sortedF ordI l || l.any fun x => decide (x.2 < 0)) = true then 9 else 0
def fallK (l : List (Int × Int)) (j : Nat) : Bool := decide ((j : Int) > 0) && decide (l[j]!.1 ≤ l[(IntKind.i64.wrap ((j : Int) - 1)).toNat]!.1)
def chkW (l : List (Int × Int)) : Int := if decide ((l.length : Int) > 32) = true then 3 else if l.any oddBk = true then 4 else if (List.range l.length).any (fallK l) = true then 6 else 0
section
variable {l : List (Int × Int)} {j : Nat}
theorem chkw_a (h1 : decide ((l.length : Int) > 32) = true) : chkW l = 3 := if_pos h1
theorem chkw_b (h1 : decide ((l.length : Int) > 32) = false) (h2 : l.any oddBk = true) : chkW l = 4 := by unfold chkW; rw [if_neg (nt h1), if_pos h2]
theorem chkw_c (h1 : decide ((l.length : Int) > 32) = false) (h2 : l.any oddBk = false) (hj : j < l.length) (h : fallK l j = true) : chkW l = 6 := by
  unfold chkW; rw [if_neg (nt h1), if_neg (nt h2), if_pos (List.any_eq_true.2 ⟨j, by simpa using hj, h⟩)]
theorem chkw_d (h1 : decide ((l.length : Int) > 32) = false) (h2 : l.any oddBk = false) (h : ∀ i, i < l.length → fallK l i = false) : chkW l = 0 := by
  unfold chkW; rw [if_neg (nt h1), if_neg (nt h2), if_neg]
  rw [List.any_eq_true]
  rintro ⟨i, hi, h3⟩
  rw [h i (by simpa using hi)] at h3
  cases h3
end
theorem isNaNu_ok (x : Int) (w : World) : Calls Try.prog 75 #[.int .u64 x] w fun e w' => e = .returned (.bool (x != x)) ∧ Frm Nob w w' := by
  refine enter (μ := []) (S := Nob) (vs := [.int .u64 x]) Try.func75 rfl Try.ntmps75 rfl (Mem.nil _) (by simp) (fun a hC => ?_)
  refine W.seqk fun k1 hk1 => ?_
  refine W.region ?_
  refine L.pu hC rfl rfl (fun _ => All.nil) rfl rfl ?_; clear hC a; intro a hC
  refine L.nil ?_
  refine hk1 _ _ ?_; clear hk1; try clear k1
  refine W.seqk fun k2 hk2 => ?_
  refine W.region ?_
  refine L.pu hC rfl rfl (fun _ => All.nil) rfl rfl ?_; clear hC a; intro a hC
  refine L.pu hC rfl rfl (fun _ => All.nil) rfl rfl ?_; clear hC a; intro a hC
  refine L.pu hC rfl rfl (fun _ => All.nil) rfl rfl ?_; clear hC a; intro a hC
  refine L.pu hC rfl rfl (fun _ => All.nil) rfl rfl ?_; clear hC a; intro a hC
  refine L.nil ?_
  refine hk2 _ _ ?_; clear hk2; try clear k2
  refine W.ret ?_
  refine ret1 hC rfl rfl ⟨?_, hC.frm⟩
  rfl

theorem compareu_ok (x y : Int) (w : World) : Calls Try.prog 47 #[.int .u64 x, .int .u64 y] w fun e w' => e = .returned (.int .i64 (cmpI x y)) ∧ Frm Nob w w' := by
  refine enter (μ := []) (S := Nob) (vs := [.int .u64 x, .int .u64 y]) Try.func47 rfl Try.ntmps47 rfl (Mem.nil _) (by simp) (fun a hC => ?_)
  refine W.seqk fun k1 hk1 => ?_
  refine W.region ?_
  refine L.pu hC rfl rfl (fun _ => All.nil) rfl rfl ?_; clear hC a; intro a hC
  refine L.nil ?_
  refine hk1 _ _ ?_; clear hk1; try clear k1
  refine W.seqk fun k2 hk2 => ?_
  refine W.region ?_
  refine L.pu hC rfl rfl (fun _ => All.nil) rfl rfl ?_; clear hC a; intro a hC
  refine L.call hC rfl rfl Try.call75 rfl (fun _ => All.nil) (fun hg => isNaNu_ok _ _) rfl rfl ?_; clear hC a; intro a w hF hC
  refine L.pu hC rfl rfl (fun _ => All.nil) rfl rfl ?_; clear hC a; intro a hC
  refine L.nil ?_
  refine hk2 _ _ ?_; clear hk2; try clear k2
  refine W.seqk fun k3 hk3 => ?_
  refine W.region ?_
  refine L.pu hC rfl rfl (fun _ => All.nil) rfl rfl ?_; clear hC a; intro a hC
  refine L.call hC rfl rfl Try.call75 rfl (fun _ => All.nil) (fun hg => isNaNu_ok _ _) rfl rfl ?_; clear hC a; intro a w hF hC
  refine L.pu hC rfl rfl (fun _ => All.nil) rfl rfl ?_; clear hC a; intro a hC
  refine L.nil ?_
  refine hk3 _ _ ?_; clear hk3; try clear k3
  refine W.seqk fun k4 hk4 => ?_
  refine W.seqk fun k5 hk5 => ?_
  refine W.region ?_
  refine L.pu hC rfl rfl (fun _ => All.nil) rfl rfl ?_; clear hC a; intro a hC
  refine L.nil ?_
  refine hk5 _ _ ?_; clear hk5; try clear k5
  refine W.cond hC rfl (fun h1 => ?_) (fun h1 => ?_)
  ·
    exact absurd h1 (by simp)
  ·
    refine W.skip ?_
    refine hk4 _ _ ?_; clear hk4; try clear k4
    refine W.seqk fun k6 hk6 => ?_
    refine W.seqk fun k7 hk7 => ?_
    refine W.region ?_
    refine L.pu hC rfl rfl (fun _ => All.nil) rfl rfl ?_; clear hC a; intro a hC
    refine L.nil ?_
    refine hk7 _ _ ?_; clear hk7; try clear k7
    refine W.cond hC rfl (fun h2 => ?_) (fun h2 => ?_)
    ·
      exact absurd h2 (by simp)
    ·
      refine W.skip ?_
      refine hk6 _ _ ?_; clear hk6; try clear k6
      refine W.seqk fun k8 hk8 => ?_
      refine W.seqk fun k9 hk9 => ?_
      refine W.region ?_
      refine L.pu hC rfl rfl (fun _ => All.nil) rfl rfl ?_; clear hC a; intro a hC
      refine L.pu hC rfl rfl (fun _ => All.nil) rfl rfl ?_; clear hC a; intro a hC
      refine L.pu hC rfl rfl (fun _ => All.nil) rfl rfl ?_; clear hC a; intro a hC
      refine L.nil ?_
      refine hk9 _ _ ?_; clear hk9; try clear k9
      refine W.cond hC rfl (fun h3 => ?_) (fun h3 => ?_)
      ·
        refine W.seqk fun k10 hk10 => ?_
        refine W.region ?_
        refine L.pu hC rfl rfl (fun _ => All.nil) rfl rfl ?_; clear hC a; intro a hC
        refine L.nil ?_
        refine hk10 _ _ ?_; clear hk10; try clear k10
        refine W.ret ?_
        refine ret1 hC rfl rfl ⟨?_, hC.frm⟩
        refine ri ?_; unfold cmpI; simp only [decide_eq_true_eq, decide_eq_false_iff_not] at *; first | rw [if_pos (by omega)] | (rw [if_neg (by omega)]; first | rw [if_pos (by omega)] | rw [if_neg (by omega)])
      ·
        refine W.skip ?_
        refine hk8 _ _ ?_; clear hk8; try clear k8
        refine W.seqk fun k11 hk11 => ?_
        refine W.seqk fun k12 hk12 => ?_
        refine W.region ?_
        refine L.pu hC rfl rfl (fun _ => All.nil) rfl rfl ?_; clear hC a; intro a hC
        refine L.pu hC rfl rfl (fun _ => All.nil) rfl rfl ?_; clear hC a; intro a hC
        refine L.pu hC rfl rfl (fun _ => All.nil) rfl rfl ?_; clear hC a; intro a hC
        refine L.nil ?_
        refine hk12 _ _ ?_; clear hk12; try clear k12
        refine W.cond hC rfl (fun h4 => ?_) (fun h4 => ?_)
        ·
          refine W.seqk fun k13 hk13 => ?_
          refine W.region ?_
          refine L.pu hC rfl rfl (fun _ => All.nil) rfl rfl ?_; clear hC a; intro a hC
          refine L.nil ?_
          refine hk13 _ _ ?_; clear hk13; try clear k13
          refine W.ret ?_
          refine ret1 hC rfl rfl ⟨?_, hC.frm⟩
          refine ri ?_; unfold cmpI; simp only [decide_eq_true_eq, decide_eq_false_iff_not] at *; first | rw [if_pos (by omega)] | (rw [if_neg (by omega)]; first | rw [if_pos (by omega)] | rw [if_neg (by omega)])
        ·
          refine W.skip ?_
          refine hk11 _ _ ?_; clear hk11; try clear k11
          refine W.seqk fun k14 hk14 => ?_
          refine W.region ?_
          refine L.pu hC rfl rfl (fun _ => All.nil) rfl rfl ?_; clear hC a; intro a hC
          refine L.nil ?_
          refine hk14 _ _ ?_; clear hk14; try clear k14
          refine W.ret ?_
          refine ret1 hC rfl rfl ⟨?_, hC.frm⟩
          refine ri ?_; unfold cmpI; simp only [decide_eq_true_eq, decide_eq_false_iff_not] at *; first | rw [if_pos (by omega)] | (rw [if_neg (by omega)]; first | rw [if_pos (by omega)] | rw [if_neg (by omega)])

theorem porder_ok (x y : Int × Int) (w : World) : Calls Try.prog 23 #[.agg (pntE.enc x).toArray, .agg (pntE.enc y).toArray] w fun e w' => e = .returned (.int .i64 (ordI x y)) ∧ Frm Nob w w' := by
  refine enter (μ := []) (S := Nob) (vs := [.agg (pntE.enc x).toArray, .agg (pntE.enc y).toArray]) Try.func23 rfl Try.ntmps23 rfl (Mem.nil _) (by simp) (fun a hC => ?_)
  refine W.seqk fun k1 hk1 => ?_
  refine W.region ?_
  refine L.box hC rfl rfl rfl rfl rfl rfl ?_; clear hC a; intro b1 a w hF hC
  refine L.box hC rfl rfl rfl rfl rfl rfl ?_; clear hC a; intro b2 a w hF hC
  refine L.pu hC rfl rfl (fun _ => All.nil) rfl rfl ?_; clear hC a; intro a hC
  refine L.nil ?_
  refine hk1 _ _ ?_; clear hk1; try clear k1
  refine W.seqk fun k2 hk2 => ?_
  replace hC := hC.del 4
  refine W.drawD hC Try.mixed rfl rfl ?_
  apply DRN.cons (.det _ _) rfl
  · intro a w hC
    refine L.fa hC rfl rfl rfl (fun _ => All.nil) Try.underlying30 rfl Try.sizeOf28 rfl rfl rfl ?_; clear hC a; intro a hC
    exact L.nil ⟨⟨_, [], hC⟩, Frm.refl _ _⟩
  apply DRN.cons (.det _ _) rfl
  · intro a w hC
    refine L.ld hC rfl rfl rfl (fun _ => All.nil) m1 Try.isAgg28 rfl rfl rfl ?_; clear hC a; intro a hC
    exact L.nil ⟨⟨_, [], hC⟩, Frm.refl _ _⟩
  apply DRN.cons (.det _ _) rfl
  · intro a w hC
    refine L.fa hC rfl rfl rfl (fun _ => All.nil) Try.underlying30 rfl Try.sizeOf28 rfl rfl rfl ?_; clear hC a; intro a hC
    exact L.nil ⟨⟨_, [], hC⟩, Frm.refl _ _⟩
  apply DRN.cons (.det _ _) rfl
  · intro a w hC
    refine L.ld hC rfl rfl rfl (fun _ => All.nil) m0 Try.isAgg28 rfl rfl rfl ?_; clear hC a; intro a hC
    exact L.nil ⟨⟨_, [], hC⟩, Frm.refl _ _⟩
  apply DRN.cons (.det _ _) rfl
  · intro a w hC
    refine L.call hC rfl rfl Try.call47 rfl (fun _ => All.nil) (fun hg => compareu_ok _ _ _) rfl rfl ?_; clear hC a; intro a w hF hC
    exact L.nil ⟨⟨_, [], hC⟩, hF⟩
  apply DRN.cons (.det _ _) rfl
  · intro a w hC
    refine L.fa hC rfl rfl rfl (fun _ => All.nil) Try.underlying30 rfl Try.sizeOf3 rfl rfl rfl ?_; clear hC a; intro a hC
    exact L.nil ⟨⟨_, [], hC⟩, Frm.refl _ _⟩
  apply DRN.cons (.det _ _) rfl
  · intro a w hC
    refine L.ld hC rfl rfl rfl (fun _ => All.nil) m1 Try.isAgg3 rfl rfl rfl ?_; clear hC a; intro a hC
    exact L.nil ⟨⟨_, [], hC⟩, Frm.refl _ _⟩
  apply DRN.cons (.det _ _) rfl
  · intro a w hC
    refine L.fa hC rfl rfl rfl (fun _ => All.nil) Try.underlying30 rfl Try.sizeOf3 rfl rfl rfl ?_; clear hC a; intro a hC
    exact L.nil ⟨⟨_, [], hC⟩, Frm.refl _ _⟩
  apply DRN.cons (.det _ _) rfl
  · intro a w hC
    refine L.ld hC rfl rfl rfl (fun _ => All.nil) m0 Try.isAgg3 rfl rfl rfl ?_; clear hC a; intro a hC
    exact L.nil ⟨⟨_, [], hC⟩, Frm.refl _ _⟩
  apply DRN.cons (.det _ _) rfl
  · intro a w hC
    refine L.call hC rfl rfl Try.call48 rfl (fun _ => All.nil) (fun hg => compare_ok _ _ _) rfl rfl ?_; clear hC a; intro a w hF hC
    exact L.nil ⟨⟨_, [], hC⟩, hF⟩
  apply DRN.cons (.lit _ _ fun v => rdR v intE _) rfl
  · intro a w hC
    exact L.litsP hC rfl rfl rfl (fun _ => All.nil) Try.underlying81 Try.infoI3 rfl rfl rfl rfl rfl rfl rfl rfl (fun a w' v hF hC => L.nil ⟨⟨v, _, [], fun _ h => h.2, hC⟩, hF⟩)
  apply DRN.cons (.det _ _) rfl
  · intro v10 a w hC
    refine L.call hC rfl rfl Try.call46 rfl (fun _ => All.nil) (fun hg => or_ok _ _ _ (hC.at m0 hg)) rfl rfl ?_; clear hC a; intro a w hF hC
    exact L.nil ⟨⟨_, [_], hC⟩, hF⟩
  apply DRN.cons (.det _ _) rfl
  · intro v10 a w hC
    refine L.pu hC rfl rfl (fun _ => All.nil) rfl rfl ?_; clear hC a; intro a hC
    exact L.nil ⟨⟨_, [_], hC⟩, Frm.refl _ _⟩
  refine DRN.nil (fun w' hF => ?_)
  intro v10 a w hC hw
  subst hw
  refine hk2 _ _ ?_; clear hk2; try clear k2
  refine W.ret ?_
  refine rets hC rfl (.tmp rfl .nil) ?_
  refine ⟨?_, hC.frm⟩
  rfl

theorem negp_ok (x : Int × Int) (w : World) : Calls Try.prog 96 #[.agg (pntE.enc x).toArray] w fun e w' => e = .returned (.bool (decide (x.2 < 0))) ∧ Frm Nob w w' := by
  refine enter (μ := []) (S := Nob) (vs := [.agg (pntE.enc x).toArray]) Try.func96 rfl Try.ntmps96 rfl (Mem.nil _) (by simp) (fun a hC => ?_)
  refine W.seqk fun k1 hk1 => ?_
  refine W.region ?_
  refine L.box hC rfl rfl rfl rfl rfl rfl ?_; clear hC a; intro b1 a w hF hC
  refine L.pu hC rfl rfl (fun _ => All.nil) rfl rfl ?_; clear hC a; intro a hC
  refine L.nil ?_
  refine hk1 _ _ ?_; clear hk1; try clear k1
  refine W.seqk fun k2 hk2 => ?_
  refine W.region ?_
  refine L.fa hC rfl rfl rfl (fun _ => All.nil) Try.underlying30 rfl Try.sizeOf3 rfl rfl rfl ?_; clear hC a; intro a hC
  refine L.ld hC rfl rfl rfl (fun _ => All.nil) m0 Try.isAgg3 rfl rfl rfl ?_; clear hC a; intro a hC
  refine L.pu hC rfl rfl (fun _ => All.nil) rfl rfl ?_; clear hC a; intro a hC
  refine L.pu hC rfl rfl (fun _ => All.nil) rfl rfl ?_; clear hC a; intro a hC
  refine L.nil ?_
  refine hk2 _ _ ?_; clear hk2; try clear k2
  refine W.ret ?_
  refine rets hC rfl (.tmp rfl .nil) ?_
  refine ⟨?_, hC.frm⟩
  rfl

theorem oddb_ok (x : Int × Int) (w : World) : Calls Try.prog 41 #[.agg (timE.enc x).toArray] w fun e w' => e = .returned (.bool (oddBk x)) ∧ Frm Nob w w' := by
  refine enter (μ := []) (S := Nob) (vs := [.agg (timE.enc x).toArray]) Try.func41 rfl Try.ntmps41 rfl (Mem.nil _) (by simp) (fun a hC => ?_)
  refine W.seqk fun k1 hk1 => ?_
  refine W.region ?_
  refine L.box hC rfl rfl rfl rfl rfl rfl ?_; clear hC a; intro b1 a w hF hC
  refine L.pu hC rfl rfl (fun _ => All.nil) rfl rfl ?_; clear hC a; intro a hC
  refine L.nil ?_
  refine hk1 _ _ ?_; clear hk1; try clear k1
  refine W.seqk fun k2 hk2 => ?_
  refine W.region ?_
  refine L.fa hC rfl rfl rfl (fun _ => All.nil) Try.underlying54 rfl Try.sizeOf3 rfl rfl rfl ?_; clear hC a; intro a hC
  refine L.ld hC rfl rfl rfl (fun _ => All.nil) m0 Try.isAgg3 rfl rfl rfl ?_; clear hC a; intro a hC
  refine L.pu hC rfl rfl (fun _ => All.nil) rfl rfl ?_; clear hC a; intro a hC
  refine L.pu hC rfl rfl (fun _ => All.nil) rfl rfl ?_; clear hC a; intro a hC
  refine L.fa hC rfl rfl rfl (fun _ => All.nil) Try.underlying54 rfl Try.sizeOf3 rfl rfl rfl ?_; clear hC a; intro a hC
  refine L.ld hC rfl rfl rfl (fun hg => by first | (simp only [Gt, Bool.and_eq_true] at hg; simp only [All, List.cons_append, List.nil_append, List.append_nil, List.mem_cons, List.not_mem_nil, or_false, forall_eq_or_imp, forall_eq, Bool.and_eq_true, hg, Bool.not_false, Bool.not_true, and_self]; done) | (simp only [Gt] at hg; simp only [All, List.cons_append, List.nil_append, List.append_nil, List.mem_cons, List.not_mem_nil, or_false, forall_eq_or_imp, forall_eq, hg, and_self])) m0 Try.isAgg3 rfl rfl rfl ?_; clear hC a; intro a hC
  refine L.pu hC rfl rfl (fun hg => by first | (simp only [Gt, Bool.and_eq_true] at hg; simp only [All, List.cons_append, List.nil_append, List.append_nil, List.mem_cons, List.not_mem_nil, or_false, forall_eq_or_imp, forall_eq, Bool.and_eq_true, hg, Bool.not_false, Bool.not_true, and_self]; done) | (simp only [Gt] at hg; simp only [All, List.cons_append, List.nil_append, List.append_nil, List.mem_cons, List.not_mem_nil, or_false, forall_eq_or_imp, forall_eq, hg, and_self])) rfl rfl ?_; clear hC a; intro a hC
  refine L.or hC rfl rfl rfl rfl (fun _ => All.nil) (fun _ hp => by first | (simp only [All, List.cons_append, List.nil_append, List.append_nil, List.mem_cons, List.not_mem_nil, or_false, forall_eq_or_imp, forall_eq, Bool.and_eq_true, hp, Bool.not_false, Bool.not_true, and_self]; done) | simp [All, hp]) rfl rfl ?_; clear hC a; intro a hC
  refine L.pu hC rfl rfl (fun _ => All.nil) rfl rfl ?_; clear hC a; intro a hC
  refine L.fa hC rfl rfl rfl (fun _ => All.nil) Try.underlying54 rfl Try.sizeOf3 rfl rfl rfl ?_; clear hC a; intro a hC
  refine L.ld hC rfl rfl rfl (fun hg => by first | (simp only [Gt, Bool.and_eq_true] at hg; simp only [All, List.cons_append, List.nil_append, List.append_nil, List.mem_cons, List.not_mem_nil, or_false, forall_eq_or_imp, forall_eq, Bool.and_eq_true, hg, Bool.not_false, Bool.not_true, and_self]; done) | (simp only [Gt] at hg; simp only [All, List.cons_append, List.nil_append, List.append_nil, List.mem_cons, List.not_mem_nil, or_false, forall_eq_or_imp, forall_eq, hg, and_self])) m0 Try.isAgg3 rfl rfl rfl ?_; clear hC a; intro a hC
  refine L.pu hC rfl rfl (fun hg => by first | (simp only [Gt, Bool.and_eq_true] at hg; simp only [All, List.cons_append, List.nil_append, List.append_nil, List.mem_cons, List.not_mem_nil, or_false, forall_eq_or_imp, forall_eq, Bool.and_eq_true, hg, Bool.not_false, Bool.not_true, and_self]; done) | (simp only [Gt] at hg; simp only [All, List.cons_append, List.nil_append, List.append_nil, List.mem_cons, List.not_mem_nil, or_false, forall_eq_or_imp, forall_eq, hg, and_self])) rfl rfl ?_; clear hC a; intro a hC
  refine L.or hC rfl rfl rfl rfl (fun _ => All.nil) (fun _ hp => by first | (simp only [All, List.cons_append, List.nil_append, List.append_nil, List.mem_cons, List.not_mem_nil, or_false, forall_eq_or_imp, forall_eq, Bool.and_eq_true, hp, Bool.not_false, Bool.not_true, and_self]; done) | simp [All, hp]) rfl rfl ?_; clear hC a; intro a hC
  refine L.pu hC rfl rfl (fun _ => All.nil) rfl rfl ?_; clear hC a; intro a hC
  refine L.fa hC rfl rfl rfl (fun _ => All.nil) Try.underlying54 rfl Try.sizeOf3 rfl rfl rfl ?_; clear hC a; intro a hC
  refine L.ld hC rfl rfl rfl (fun hg => by first | (simp only [Gt, Bool.and_eq_true] at hg; simp only [All, List.cons_append, List.nil_append, List.append_nil, List.mem_cons, List.not_mem_nil, or_false, forall_eq_or_imp, forall_eq, Bool.and_eq_true, hg, Bool.not_false, Bool.not_true, and_self]; done) | (simp only [Gt] at hg; simp only [All, List.cons_append, List.nil_append, List.append_nil, List.mem_cons, List.not_mem_nil, or_false, forall_eq_or_imp, forall_eq, hg, and_self])) m0 Try.isAgg3 rfl rfl rfl ?_; clear hC a; intro a hC
  refine L.pu hC rfl rfl (fun hg => by first | (simp only [Gt, Bool.and_eq_true] at hg; simp only [All, List.cons_append, List.nil_append, List.append_nil, List.mem_cons, List.not_mem_nil, or_false, forall_eq_or_imp, forall_eq, Bool.and_eq_true, hg, Bool.not_false, Bool.not_true, and_self]; done) | (simp only [Gt] at hg; simp only [All, List.cons_append, List.nil_append, List.append_nil, List.mem_cons, List.not_mem_nil, or_false, forall_eq_or_imp, forall_eq, hg, and_self])) rfl rfl ?_; clear hC a; intro a hC
  refine L.or hC rfl rfl rfl rfl (fun _ => All.nil) (fun _ hp => by first | (simp only [All, List.cons_append, List.nil_append, List.append_nil, List.mem_cons, List.not_mem_nil, or_false, forall_eq_or_imp, forall_eq, Bool.and_eq_true, hp, Bool.not_false, Bool.not_true, and_self]; done) | simp [All, hp]) rfl rfl ?_; clear hC a; intro a hC
  refine L.pu hC rfl rfl (fun _ => All.nil) rfl rfl ?_; clear hC a; intro a hC
  refine L.nil ?_
  refine hk2 _ _ ?_; clear hk2; try clear k2
  refine W.ret ?_
  refine rets hC rfl (.tmp rfl .nil) ?_
  refine ⟨?_, hC.frm⟩
  rfl

theorem idxP_ok (v : Value) (l : List (Int × Int)) (g : FuncId) (lb : Array Value) (p : (Int × Int) → Bool) (w : World) (hr : (rdR v pntE l).ok w) (hcall : ∀ (vs : Array Value) (w : World), (callFunc g vs).run Try.prog w = .ok (.enter g vs) w)
    (hp : ∀ x ∈ l, ∀ w', Frm Nob w w' → Calls Try.prog g (#[.agg (pntE.enc x).toArray] ++ lb) w' fun e w'' => e = .returned (.bool (p x)) ∧ Frm Nob w' w'') : Calls Try.prog 113 #[v, .func (.func g) #[] lb] w fun e w' => e = .returned (.int .i64 (fidx p l)) ∧ Frm Nob w w' := by
  refine enter (μ := [rdR v pntE l]) (S := Nob) (vs := [v, .func (.func g) #[] lb]) Try.func113 rfl Try.ntmps113 rfl ⟨by simpa using hr, by simp⟩ (by simp [rdR]) (fun a hC => ?_)
  refine W.seqk fun k1 hk1 => ?_
  refine W.region ?_
  refine L.pu hC rfl rfl (fun _ => All.nil) rfl rfl ?_; clear hC a; intro a hC
  refine L.nil ?_
  refine hk1 _ _ ?_; clear hk1; try clear k1
  refine W.seqk fun k2 hk2 => ?_
  refine W.seqk fun k3 hk3 => ?_
  refine W.region ?_
  refine L.pu hC rfl rfl (fun _ => All.nil) rfl rfl ?_; clear hC a; intro a hC
  refine L.len hC rfl rfl rfl (fun _ => All.nil) (rd_form (hC.at m0)) Try.underlying24 rfl rfl ?_; clear hC a; intro a hC
  refine L.pu hC rfl rfl (fun _ => All.nil) rfl rfl ?_; clear hC a; intro a hC
  refine L.nil ?_
  refine hk3 _ _ ?_; clear hk3; try clear k3
  refine W.block ?_
  refine W.loop (fun (j : Nat) a w' => j ≤ l.length ∧ (∀ x ∈ l.take j, p x = false) ∧ Conf 19 Nob w [(8, (none, .int .i64 j)), (7, (none, .int .i64 l.length)), (6, (none, v)), (1, (none, .func (.func g) #[] lb)), (0, (none, v))] [rdR v pntE l] a w') (fun j => l.length - j) 0 ?_ ?_
  · exact ⟨Nat.zero_le _, by simp, hC.keep ⟨rfl, rfl, rfl, rfl, rfl, trivial⟩⟩
  ·
    rintro j a w ⟨hj, ho, hC⟩
    refine W.seqk fun k4 hk4 => ?_
    refine W.region ?_
    refine L.pu hC rfl rfl (fun _ => All.nil) rfl rfl ?_; clear hC a; intro a hC
    refine L.nil ?_
    refine hk4 _ _ ?_; clear hk4; try clear k4
    refine W.seqk fun k5 hk5 => ?_
    refine W.cond hC rfl (fun h1 => ?_) (fun h1 => ?_)
    ·
      have h1 := of_decide_eq_true h1
      refine W.skip ?_
      refine hk5 _ _ ?_; clear hk5; try clear k5
      refine W.seqk fun k6 hk6 => ?_
      refine W.block ?_
      refine W.seqk fun k7 hk7 => ?_
      refine W.region ?_
      refine L.pu hC rfl rfl (fun _ => All.nil) rfl rfl ?_; clear hC a; intro a hC
      refine L.pu hC rfl rfl (fun _ => All.nil) rfl rfl ?_; clear hC a; intro a hC
      refine L.nil ?_
      refine hk7 _ _ ?_; clear hk7; try clear k7
      refine W.seqk fun k8 hk8 => ?_
      refine W.region ?_
      refine L.pu hC rfl rfl (fun _ => All.nil) rfl rfl ?_; clear hC a; intro a hC
      refine L.pu hC rfl rfl (fun _ => All.nil) rfl rfl ?_; clear hC a; intro a hC
      refine L.pu hC rfl rfl (fun _ => All.nil) rfl rfl ?_; clear hC a; intro a hC
      refine L.ixr hC rfl rfl rfl rfl m0 (fun _ => All.nil) (fun _ => All.nil) Try.underlying24 Try.sizeOf30 (fun _ => by omega) rfl rfl ?_; clear hC a; intro a hC
      refine L.ldxa hC rfl rfl rfl rfl (fun _ => All.nil) (fun hg => rd_bang hC m0 (by omega) _) Try.isAgg30 Try.sizeOf30 rfl rfl rfl rfl ?_; clear hC a; intro a hC
      refine L.callf hC rfl rfl rfl (fun _ => All.nil) hcall rfl (fun _ => All.nil) (fun hg => hp _ (bang_mem (by omega)) _ (hC.frm)) rfl rfl ?_; clear hC a; intro a w hF hC
      refine L.nil ?_
      refine hk8 _ _ ?_; clear hk8; try clear k8
      refine W.cond hC rfl (fun h2 => ?_) (fun h2 => ?_)
      ·
        refine W.seqk fun k9 hk9 => ?_
        refine W.region ?_
        refine L.pu hC rfl rfl (fun _ => All.nil) rfl rfl ?_; clear hC a; intro a hC
        refine L.pu hC rfl rfl (fun _ => All.nil) rfl rfl ?_; clear hC a; intro a hC
        refine L.nil ?_
        refine hk9 _ _ ?_; clear hk9; try clear k9
        refine W.ret ?_
        refine rets hC rfl (.tmp rfl .nil) ?_
        refine ⟨?_, hC.frm⟩
        refine ri ?_
        exact (fidx_here ho (by omega) h2).symm
      ·
        refine W.skip ?_
        refine hk6 _ _ ?_; clear hk6; try clear k6
        refine W.region ?_
        refine L.pu hC rfl rfl (fun _ => All.nil) rfl rfl ?_; clear hC a; intro a hC
        refine L.pu hC rfl rfl (fun _ => All.nil) rfl rfl ?_; clear hC a; intro a hC
        refine L.nil ?_
        have hl := rd_lt (hC.at m0)
        refine ⟨j + 1, ⟨by omega, fidx_step ho (by omega) h2, hC.keep ⟨?_, rfl, rfl, rfl, rfl, trivial⟩⟩, by omega⟩
        rw [w64 (by omega)]; rfl
    ·
      have h1 := of_decide_eq_false h1
      refine W.exit ?_
      refine Kb.here ?_
      refine hk2 _ _ ?_; clear hk2; try clear k2
      refine W.seqk fun k10 hk10 => ?_
      refine W.region ?_
      refine L.pu hC rfl rfl (fun _ => All.nil) rfl rfl ?_; clear hC a; intro a hC
      refine L.nil ?_
      refine hk10 _ _ ?_; clear hk10; try clear k10
      refine W.ret ?_
      refine rets hC rfl (.tmp rfl .nil) ?_
      refine ⟨?_, hC.frm⟩
      refine ri ?_
      exact (fidx_none (by rwa [List.take_of_length_le (by omega)] at ho)).symm

theorem hasP_ok (v : Value) (l : List (Int × Int)) (g : FuncId) (lb : Array Value) (p : (Int × Int) → Bool) (w : World) (hr : (rdR v pntE l).ok w) (hcall : ∀ (vs : Array Value) (w : World), (callFunc g vs).run Try.prog w = .ok (.enter g vs) w)
    (hp : ∀ x ∈ l, ∀ w', Frm Nob w w' → Calls Try.prog g (#[.agg (pntE.enc x).toArray] ++ lb) w' fun e w'' => e = .returned (.bool (p x)) ∧ Frm Nob w' w'') : Calls Try.prog 95 #[v, .func (.func g) #[] lb] w fun e w' => e = .returned (.bool (l.any p)) ∧ Frm Nob w w' := by
  refine enter (μ := []) (S := Nob) (vs := [v, .func (.func g) #[] lb]) Try.func95 rfl Try.ntmps95 rfl (Mem.nil _) (by simp) (fun a hC => ?_)
  refine W.seqk fun k1 hk1 => ?_
  refine W.region ?_
  refine L.pu hC rfl rfl (fun _ => All.nil) rfl rfl ?_; clear hC a; intro a hC
  refine L.nil ?_
  refine hk1 _ _ ?_; clear hk1; try clear k1
  refine W.seqk fun k2 hk2 => ?_
  refine W.region ?_
  refine L.pu hC rfl rfl (fun _ => All.nil) rfl rfl ?_; clear hC a; intro a hC
  refine L.pu hC rfl rfl (fun _ => All.nil) rfl rfl ?_; clear hC a; intro a hC
  refine L.call hC rfl rfl Try.call113 rfl (fun _ => All.nil) (fun hg => idxP_ok v l g lb p _ ((rdR v pntE l).st _ _ hr (fun b hb => hC.frm.block b ((rdR v pntE l).bd _ hr b hb) (fun h => h))) hcall (fun x hx w' hw => hp x hx w' (hC.frm.trans hw (fun _ _ h => h.elim)))) rfl rfl ?_; clear hC a; intro a w hF hC
  refine L.pu hC rfl rfl (fun _ => All.nil) rfl rfl ?_; clear hC a; intro a hC
  refine L.pu hC rfl rfl (fun _ => All.nil) rfl rfl ?_; clear hC a; intro a hC
  refine L.nil ?_
  refine hk2 _ _ ?_; clear hk2; try clear k2
  refine W.ret ?_
  refine rets hC rfl (.tmp rfl .nil) ?_
  refine ⟨?_, hC.frm⟩
  refine rb ?_
  exact fidx_ge

theorem idxK_ok (v : Value) (l : List (Int × Int)) (g : FuncId) (lb : Array Value) (p : (Int × Int) → Bool) (w : World) (hr : (rdR v timE l).ok w) (hcall : ∀ (vs : Array Value) (w : World), (callFunc g vs).run Try.prog w = .ok (.enter g vs) w)
    (hp : ∀ x ∈ l, ∀ w', Frm Nob w w' → Calls Try.prog g (#[.agg (timE.enc x).toArray] ++ lb) w' fun e w'' => e = .returned (.bool (p x)) ∧ Frm Nob w' w'') : Calls Try.prog 63 #[v, .func (.func g) #[] lb] w fun e w' => e = .returned (.int .i64 (fidx p l)) ∧ Frm Nob w w' := by
  refine enter (μ := [rdR v timE l]) (S := Nob) (vs := [v, .func (.func g) #[] lb]) Try.func63 rfl Try.ntmps63 rfl ⟨by simpa using hr, by simp⟩ (by simp [rdR]) (fun a hC => ?_)
  refine W.seqk fun k1 hk1 => ?_
  refine W.region ?_
  refine L.pu hC rfl rfl (fun _ => All.nil) rfl rfl ?_; clear hC a; intro a hC
  refine L.nil ?_
  refine hk1 _ _ ?_; clear hk1; try clear k1
  refine W.seqk fun k2 hk2 => ?_
  refine W.seqk fun k3 hk3 => ?_
  refine W.region ?_
  refine L.pu hC rfl rfl (fun _ => All.nil) rfl rfl ?_; clear hC a; intro a hC
  refine L.len hC rfl rfl rfl (fun _ => All.nil) (rd_form (hC.at m0)) Try.underlying22 rfl rfl ?_; clear hC a; intro a hC
  refine L.pu hC rfl rfl (fun _ => All.nil) rfl rfl ?_; clear hC a; intro a hC
  refine L.nil ?_
  refine hk3 _ _ ?_; clear hk3; try clear k3
  refine W.block ?_
  refine W.loop (fun (j : Nat) a w' => j ≤ l.length ∧ (∀ x ∈ l.take j, p x = false) ∧ Conf 19 Nob w [(8, (none, .int .i64 j)), (7, (none, .int .i64 l.length)), (6, (none, v)), (1, (none, .func (.func g) #[] lb)), (0, (none, v))] [rdR v timE l] a w') (fun j => l.length - j) 0 ?_ ?_
  · exact ⟨Nat.zero_le _, by simp, hC.keep ⟨rfl, rfl, rfl, rfl, rfl, trivial⟩⟩
  ·
    rintro j a w ⟨hj, ho, hC⟩
    refine W.seqk fun k4 hk4 => ?_
    refine W.region ?_
    refine L.pu hC rfl rfl (fun _ => All.nil) rfl rfl ?_; clear hC a; intro a hC
    refine L.nil ?_
    refine hk4 _ _ ?_; clear hk4; try clear k4
    refine W.seqk fun k5 hk5 => ?_
    refine W.cond hC rfl (fun h1 => ?_) (fun h1 => ?_)
    ·
      have h1 := of_decide_eq_true h1
      refine W.skip ?_
      refine hk5 _ _ ?_; clear hk5; try clear k5
      refine W.seqk fun k6 hk6 => ?_
      refine W.block ?_
      refine W.seqk fun k7 hk7 => ?_
      refine W.region ?_
      refine L.pu hC rfl rfl (fun _ => All.nil) rfl rfl ?_; clear hC a; intro a hC
      refine L.pu hC rfl rfl (fun _ => All.nil) rfl rfl ?_; clear hC a; intro a hC
      refine L.nil ?_
      refine hk7 _ _ ?_; clear hk7; try clear k7
      refine W.seqk fun k8 hk8 => ?_
      refine W.region ?_
      refine L.pu hC rfl rfl (fun _ => All.nil) rfl rfl ?_; clear hC a; intro a hC
      refine L.pu hC rfl rfl (fun _ => All.nil) rfl rfl ?_; clear hC a; intro a hC
      refine L.pu hC rfl rfl (fun _ => All.nil) rfl rfl ?_; clear hC a; intro a hC
      refine L.ixr hC rfl rfl rfl rfl m0 (fun _ => All.nil) (fun _ => All.nil) Try.underlying22 Try.sizeOf54 (fun _ => by omega) rfl rfl ?_; clear hC a; intro a hC
      refine L.ldxa hC rfl rfl rfl rfl (fun _ => All.nil) (fun hg => rd_bang hC m0 (by omega) _) Try.isAgg54 Try.sizeOf54 rfl rfl rfl rfl ?_; clear hC a; intro a hC
      refine L.callf hC rfl rfl rfl (fun _ => All.nil) hcall rfl (fun _ => All.nil) (fun hg => hp _ (bang_mem (by omega)) _ (hC.frm)) rfl rfl ?_; clear hC a; intro a w hF hC
      refine L.nil ?_
      refine hk8 _ _ ?_; clear hk8; try clear k8
      refine W.cond hC rfl (fun h2 => ?_) (fun h2 => ?_)
      ·
        refine W.seqk fun k9 hk9 => ?_
        refine W.region ?_
        refine L.pu hC rfl rfl (fun _ => All.nil) rfl rfl ?_; clear hC a; intro a hC
        refine L.pu hC rfl rfl (fun _ => All.nil) rfl rfl ?_; clear hC a; intro a hC
        refine L.nil ?_
        refine hk9 _ _ ?_; clear hk9; try clear k9
        refine W.ret ?_
        refine rets hC rfl (.tmp rfl .nil) ?_
        refine ⟨?_, hC.frm⟩
        refine ri ?_
        exact (fidx_here ho (by omega) h2).symm
      ·
        refine W.skip ?_
        refine hk6 _ _ ?_; clear hk6; try clear k6
        refine W.region ?_
        refine L.pu hC rfl rfl (fun _ => All.nil) rfl rfl ?_; clear hC a; intro a hC
        refine L.pu hC rfl rfl (fun _ => All.nil) rfl rfl ?_; clear hC a; intro a hC
        refine L.nil ?_
        have hl := rd_lt (hC.at m0)
        refine ⟨j + 1, ⟨by omega, fidx_step ho (by omega) h2, hC.keep ⟨?_, rfl, rfl, rfl, rfl, trivial⟩⟩, by omega⟩
        rw [w64 (by omega)]; rfl
    ·
      have h1 := of_decide_eq_false h1
      refine W.exit ?_
      refine Kb.here ?_
      refine hk2 _ _ ?_; clear hk2; try clear k2
      refine W.seqk fun k10 hk10 => ?_
      refine W.region ?_
      refine L.pu hC rfl rfl (fun _ => All.nil) rfl rfl ?_; clear hC a; intro a hC
      refine L.nil ?_
      refine hk10 _ _ ?_; clear hk10; try clear k10
      refine W.ret ?_
      refine rets hC rfl (.tmp rfl .nil) ?_
      refine ⟨?_, hC.frm⟩
      refine ri ?_
      exact (fidx_none (by rwa [List.take_of_length_le (by omega)] at ho)).symm

theorem hasK_ok (v : Value) (l : List (Int × Int)) (g : FuncId) (lb : Array Value) (p : (Int × Int) → Bool) (w : World) (hr : (rdR v timE l).ok w) (hcall : ∀ (vs : Array Value) (w : World), (callFunc g vs).run Try.prog w = .ok (.enter g vs) w)
    (hp : ∀ x ∈ l, ∀ w', Frm Nob w w' → Calls Try.prog g (#[.agg (timE.enc x).toArray] ++ lb) w' fun e w'' => e = .returned (.bool (p x)) ∧ Frm Nob w' w'') : Calls Try.prog 42 #[v, .func (.func g) #[] lb] w fun e w' => e = .returned (.bool (l.any p)) ∧ Frm Nob w w' := by
  refine enter (μ := []) (S := Nob) (vs := [v, .func (.func g) #[] lb]) Try.func42 rfl Try.ntmps42 rfl (Mem.nil _) (by simp) (fun a hC => ?_)
  refine W.seqk fun k1 hk1 => ?_
  refine W.region ?_
  refine L.pu hC rfl rfl (fun _ => All.nil) rfl rfl ?_; clear hC a; intro a hC
  refine L.nil ?_
  refine hk1 _ _ ?_; clear hk1; try clear k1
  refine W.seqk fun k2 hk2 => ?_
  refine W.region ?_
  refine L.pu hC rfl rfl (fun _ => All.nil) rfl rfl ?_; clear hC a; intro a hC
  refine L.pu hC rfl rfl (fun _ => All.nil) rfl rfl ?_; clear hC a; intro a hC
  refine L.call hC rfl rfl Try.call63 rfl (fun _ => All.nil) (fun hg => idxK_ok v l g lb p _ ((rdR v timE l).st _ _ hr (fun b hb => hC.frm.block b ((rdR v timE l).bd _ hr b hb) (fun h => h))) hcall (fun x hx w' hw => hp x hx w' (hC.frm.trans hw (fun _ _ h => h.elim)))) rfl rfl ?_; clear hC a; intro a w hF hC
  refine L.pu hC rfl rfl (fun _ => All.nil) rfl rfl ?_; clear hC a; intro a hC
  refine L.pu hC rfl rfl (fun _ => All.nil) rfl rfl ?_; clear hC a; intro a hC
  refine L.nil ?_
  refine hk2 _ _ ?_; clear hk2; try clear k2
  refine W.ret ?_
  refine rets hC rfl (.tmp rfl .nil) ?_
  refine ⟨?_, hC.frm⟩
  refine rb ?_
  exact fidx_ge

theorem sortedP_ok (v : Value) (l : List (Int × Int)) (g : FuncId) (lb : Array Value) (cmp : Int × Int → Int × Int → Int) (w0 : World) (hr : (rdR v pntE l).ok w0) (hcall : ∀ (vs : Array Value) (w : World), (callFunc g vs).run Try.prog w = .ok (.enter g vs) w)
    (hp : ∀ x y w', Frm Nob w0 w' → Calls Try.prog g (#[.agg (pntE.enc x).toArray, .agg (pntE.enc y).toArray] ++ lb) w' fun e w'' => e = .returned (.int .i64 (cmp x y)) ∧ Frm Nob w' w'') : Calls Try.prog 94 #[v, .func (.func g) #[] lb] w0 fun e w' => e = .returned (.bool (sortedF cmp l)) ∧ Frm Nob w0 w' := by
  have hlen := rd_lt hr
  refine enter (μ := [rdR v pntE l]) (S := Nob) (vs := [v, .func (.func g) #[] lb]) Try.func94 rfl Try.ntmps94 rfl ⟨by simpa using hr, by simp⟩ (by simp [rdR]) (fun a hC => ?_)
  refine W.seqk fun k1 hk1 => ?_
  refine W.region ?_
  refine L.pu hC rfl rfl (fun _ => All.nil) rfl rfl ?_; clear hC a; intro a hC
  refine L.nil ?_
  refine hk1 _ _ ?_; clear hk1; try clear k1
  refine W.seqk fun k2 hk2 => ?_
  refine W.seqk fun k3 hk3 => ?_
  refine W.region ?_
  refine L.pu hC rfl rfl (fun _ => All.nil) rfl rfl ?_; clear hC a; intro a hC
  refine L.len hC rfl rfl rfl (fun _ => All.nil) (rd_form (hC.at m0)) Try.underlying24 rfl rfl ?_; clear hC a; intro a hC
  refine L.pu hC rfl rfl (fun _ => All.nil) rfl rfl ?_; clear hC a; intro a hC
  refine L.pu hC rfl rfl (fun _ => All.nil) rfl rfl ?_; clear hC a; intro a hC
  refine L.nil ?_
  refine hk3 _ _ ?_; clear hk3; try clear k3
  refine W.block ?_
  refine W.loop (fun (i : Int) a w' => (-1 ≤ i) ∧ (i < l.length) ∧ (∀ m : Nat, i < m → m < l.length → 0 < m → ¬ cmp l[m]! l[m - 1]! < 0) ∧ Conf 25 Nob w0 [(5, (none, .int .i64 i)), (1, (none, .func (.func g) #[] lb)), (0, (none, v))] [rdR v pntE l] a w') (fun (i : Int) => i.toNat) ((l.length : Int) - 1) ?_ ?_
  · exact ⟨by omega, by omega, fun m h1 h2 _ => by omega, hC.keep ⟨geti rfl (w64 (by omega)), rfl, rfl, trivial⟩⟩
  · rintro i a w ⟨hi0, hi1, hs, hC⟩
    refine W.seqk fun k4 hk4 => ?_
    refine W.seqk fun k5 hk5 => ?_
    refine W.region ?_
    refine L.pu hC rfl rfl (fun _ => All.nil) rfl rfl ?_; clear hC a; intro a hC
    refine L.pu hC rfl rfl (fun _ => All.nil) rfl rfl ?_; clear hC a; intro a hC
    refine L.nil ?_
    refine hk5 _ _ ?_; clear hk5; try clear k5
    refine W.cond hC rfl (fun h1 => ?_) (fun h1 => ?_)
    ·
      have h1' := of_decide_eq_true h1
      have hw : IntKind.i64.wrap (i - 1) = i - 1 := w64 (by omega)
      refine W.skip ?_
      refine hk4 _ _ ?_; clear hk4; try clear k4
      refine W.seqk fun k6 hk6 => ?_
      refine W.block ?_
      refine W.seqk fun k7 hk7 => ?_
      refine W.drawD hC Try.mixed rfl rfl ?_
      apply DRN.cons (.det _ _) rfl
      · intro a w hC
        refine L.pu hC rfl rfl (fun _ => All.nil) rfl rfl ?_; clear hC a; intro a hC
        exact L.nil ⟨⟨_, [], hC⟩, Frm.refl _ _⟩
      apply DRN.cons (.det _ _) rfl
      · intro a w hC
        refine L.pu hC rfl rfl (fun _ => All.nil) rfl rfl ?_; clear hC a; intro a hC
        exact L.nil ⟨⟨_, [], hC⟩, Frm.refl _ _⟩
      apply DRN.cons (.det _ _) rfl
      · intro a w hC
        refine L.pu hC rfl rfl (fun _ => All.nil) rfl rfl ?_; clear hC a; intro a hC
        exact L.nil ⟨⟨_, [], hC⟩, Frm.refl _ _⟩
      apply DRN.cons (.det _ _) rfl
      · intro a w hC
        refine L.ixr hC rfl rfl rfl rfl m0 (fun _ => All.nil) (fun _ => All.nil) Try.underlying24 Try.sizeOf30 (fun _ => by omega) rfl rfl ?_; clear hC a; intro a hC
        exact L.nil ⟨⟨_, [], hC⟩, Frm.refl _ _⟩
      apply DRN.cons (.det _ _) rfl
      · intro a w hC
        refine L.ldxa hC rfl rfl rfl rfl (fun _ => All.nil) (fun hg => rd_bang hC m0 (by omega) _) Try.isAgg30 Try.sizeOf30 rfl rfl rfl rfl ?_; clear hC a; intro a hC
        exact L.nil ⟨⟨_, [], hC⟩, Frm.refl _ _⟩
      apply DRN.cons (.det _ _) rfl
      · intro a w hC
        refine L.pu hC rfl rfl (fun _ => All.nil) rfl rfl ?_; clear hC a; intro a hC
        exact L.nil ⟨⟨_, [], hC⟩, Frm.refl _ _⟩
      apply DRN.cons (.det _ _) rfl
      · intro a w hC
        refine L.pu hC rfl rfl (fun _ => All.nil) rfl rfl ?_; clear hC a; intro a hC
        exact L.nil ⟨⟨_, [], hC⟩, Frm.refl _ _⟩
      apply DRN.cons (.det _ _) rfl
      · intro a w hC
        refine L.pu hC rfl rfl (fun _ => All.nil) rfl rfl ?_; clear hC a; intro a hC
        exact L.nil ⟨⟨_, [], hC⟩, Frm.refl _ _⟩
      apply DRN.cons (.det _ _) rfl
      · intro a w hC
        refine L.ixr hC rfl rfl rfl rfl m0 (fun _ => All.nil) (fun _ => All.nil) Try.underlying24 Try.sizeOf30 (fun _ => by rw [hw]; omega) rfl rfl ?_; clear hC a; intro a hC
        exact L.nil ⟨⟨_, [], hC⟩, Frm.refl _ _⟩
      apply DRN.cons (.det _ _) rfl
      · intro a w hC
        refine L.ldxa hC rfl rfl rfl rfl (fun _ => All.nil) (fun hg => rd_bang hC m0 (by rw [hw]; omega) _) Try.isAgg30 Try.sizeOf30 rfl rfl rfl rfl ?_; clear hC a; intro a hC
        exact L.nil ⟨⟨_, [], hC⟩, Frm.refl _ _⟩
      apply DRN.cons (.det _ _) rfl
      · intro a w hC
        refine L.callf hC rfl rfl rfl (fun _ => All.nil) hcall rfl (fun _ => All.nil) (fun hg => hp _ _ _ hC.frm) rfl rfl ?_; clear hC a; intro a w hF hC
        exact L.nil ⟨⟨_, [], hC⟩, hF⟩
      apply DRN.cons (.det _ _) rfl
      · intro a w hC
        refine L.pu hC rfl rfl (fun _ => All.nil) rfl rfl ?_; clear hC a; intro a hC
        exact L.nil ⟨⟨_, [], hC⟩, Frm.refl _ _⟩
      refine DRN.nil (fun w' hF => ?_)
      intro a w hC hw
      subst hw
      refine hk7 _ _ ?_; clear hk7; try clear k7
      refine W.cond hC rfl (fun h2 => ?_) (fun h2 => ?_)
      ·
        refine W.seqk fun k8 hk8 => ?_
        refine W.region ?_
        refine L.pu hC rfl rfl (fun _ => All.nil) rfl rfl ?_; clear hC a; intro a hC
        refine L.nil ?_
        refine hk8 _ _ ?_; clear hk8; try clear k8
        refine W.ret ?_
        refine rets hC rfl (.tmp rfl .nil) ?_
        refine ⟨?_, hC.frm⟩
        refine rb ?_
        exact (sorted_no (by omega) h1' (by simpa [hw] using h2)).symm
      ·
        refine W.skip ?_
        refine hk6 _ _ ?_; clear hk6; try clear k6
        refine W.region ?_
        refine L.pu hC rfl rfl (fun _ => All.nil) rfl rfl ?_; clear hC a; intro a hC
        refine L.pu hC rfl rfl (fun _ => All.nil) rfl rfl ?_; clear hC a; intro a hC
        refine L.pu hC rfl rfl (fun _ => All.nil) rfl rfl ?_; clear hC a; intro a hC
        refine L.nil ?_
        exact ⟨i - 1, ⟨by omega, by omega, sorted_step hs h1' (by simpa [hw] using h2), hC.keep ⟨geti rfl hw, rfl, rfl, trivial⟩⟩, by first | omega | (dsimp only; omega)⟩
    ·
      have h1' := of_decide_eq_false h1
      refine W.exit ?_
      refine Kb.here ?_
      refine hk2 _ _ ?_; clear hk2; try clear k2
      refine W.seqk fun k9 hk9 => ?_
      refine W.region ?_
      refine L.pu hC rfl rfl (fun _ => All.nil) rfl rfl ?_; clear hC a; intro a hC
      refine L.nil ?_
      refine hk9 _ _ ?_; clear hk9; try clear k9
      refine W.ret ?_
      refine rets hC rfl (.tmp rfl .nil) ?_
      refine ⟨?_, hC.frm⟩
      refine rb ?_
      exact (sorted_yes (fun m h2 h3 => hs m (by omega) h2 h3)).symm

theorem whole_ok (v : Value) (l : List (Int × Int)) (w0 : World) (hr : (rdR v pntE l).ok w0) : Calls Try.prog 60 #[v] w0 fun e w' => e = .returned (.int .i64 (wholeW l)) ∧ Frm Nob w0 w' := by
  refine enter (μ := [rdR v pntE l]) (S := Nob) (vs := [v]) Try.func60 rfl Try.ntmps60 rfl ⟨by simpa using hr, by simp⟩ (by simp [rdR]) (fun a hC => ?_)
  refine W.seqk fun k1 hk1 => ?_
  refine W.region ?_
  refine L.pu hC rfl rfl (fun _ => All.nil) rfl rfl ?_; clear hC a; intro a hC
  refine L.nil ?_
  refine hk1 _ _ ?_; clear hk1; try clear k1
  refine W.seqk fun k2 hk2 => ?_
  refine W.block ?_
  refine W.seqk fun k3 hk3 => ?_
  refine W.region ?_
  refine L.pu hC rfl rfl (fun _ => All.nil) rfl rfl ?_; clear hC a; intro a hC
  refine L.len hC rfl rfl rfl (fun _ => All.nil) (rd_form (hC.at m0)) Try.underlying24 rfl rfl ?_; clear hC a; intro a hC
  refine L.pu hC rfl rfl (fun _ => All.nil) rfl rfl ?_; clear hC a; intro a hC
  refine L.pu hC rfl rfl (fun _ => All.nil) rfl rfl ?_; clear hC a; intro a hC
  refine L.nil ?_
  refine hk3 _ _ ?_; clear hk3; try clear k3
  refine W.cond hC rfl (fun h1 => ?_) (fun h1 => ?_)
  ·
    refine W.seqk fun k4 hk4 => ?_
    refine W.region ?_
    refine L.pu hC rfl rfl (fun _ => All.nil) rfl rfl ?_; clear hC a; intro a hC
    refine L.nil ?_
    refine hk4 _ _ ?_; clear hk4; try clear k4
    refine W.ret ?_
    refine rets hC rfl (.tmp rfl .nil) ?_
    exact ⟨(by unfold wholeW; rw [if_pos h1]; try rfl), hC.frm⟩
  ·
    refine W.seqk fun k5 hk5 => ?_
    refine W.region ?_
    refine L.pu hC rfl rfl (fun _ => All.nil) rfl rfl ?_; clear hC a; intro a hC
    refine L.call hC rfl rfl Try.call94 rfl (fun _ => All.nil) (fun hg => sortedP_ok v l 23 #[] ordI _ (hC.at m0) Try.call23 (fun x y w' hw => by simpa using porder_ok x y w')) rfl rfl ?_; clear hC a; intro a w hF hC
    refine L.pu hC rfl rfl (fun _ => All.nil) rfl rfl ?_; clear hC a; intro a hC
    refine L.pu hC rfl rfl (fun _ => All.nil) rfl rfl ?_; clear hC a; intro a hC
    refine L.pu hC rfl rfl (fun _ => All.nil) rfl rfl ?_; clear hC a; intro a hC
    refine L.call hC rfl rfl Try.call95 rfl (fun hg => by first | (simp only [Gt, Bool.and_eq_true] at hg; simp only [All, List.cons_append, List.nil_append, List.append_nil, List.mem_cons, List.not_mem_nil, or_false, forall_eq_or_imp, forall_eq, Bool.and_eq_true, hg, Bool.not_false, Bool.not_true, and_self]; done) | (simp only [Gt] at hg; simp only [All, List.cons_append, List.nil_append, List.append_nil, List.mem_cons, List.not_mem_nil, or_false, forall_eq_or_imp, forall_eq, hg, and_self])) (fun hg => hasP_ok v l 96 #[] (fun x => decide (x.2 < 0)) _ (hC.at m0) Try.call96 (fun x hx w' hw => by simpa using negp_ok x w')) rfl rfl ?_; clear hC a; intro a w hF hC
    refine L.or hC rfl rfl rfl rfl (fun _ => All.nil) (fun _ hp => by first | (simp only [All, List.cons_append, List.nil_append, List.append_nil, List.mem_cons, List.not_mem_nil, or_false, forall_eq_or_imp, forall_eq, Bool.and_eq_true, hp, Bool.not_false, Bool.not_true, and_self]; done) | simp [All, hp]) rfl rfl ?_; clear hC a; intro a hC
    refine L.pu hC rfl rfl (fun _ => All.nil) rfl rfl ?_; clear hC a; intro a hC
    refine L.nil ?_
    refine hk5 _ _ ?_; clear hk5; try clear k5
    refine W.cond hC rfl (fun h2 => ?_) (fun h2 => ?_)
    ·
      refine W.seqk fun k6 hk6 => ?_
      refine W.region ?_
      refine L.pu hC rfl rfl (fun _ => All.nil) rfl rfl ?_; clear hC a; intro a hC
      refine L.nil ?_
      refine hk6 _ _ ?_; clear hk6; try clear k6
      refine W.ret ?_
      refine rets hC rfl (.tmp rfl .nil) ?_
      exact ⟨(by unfold wholeW; rw [if_neg (nt h1), if_pos h2]; try rfl), hC.frm⟩
    ·
      refine W.skip ?_
      refine hk2 _ _ ?_; clear hk2; try clear k2
      refine W.seqk fun k7 hk7 => ?_
      refine W.region ?_
      refine L.pu hC rfl rfl (fun _ => All.nil) rfl rfl ?_; clear hC a; intro a hC
      refine L.nil ?_
      refine hk7 _ _ ?_; clear hk7; try clear k7
      refine W.ret ?_
      refine rets hC rfl (.tmp rfl .nil) ?_
      exact ⟨(by unfold wholeW; rw [if_neg (nt h1), if_neg (nt h2)]; try rfl), hC.frm⟩

theorem chk12_ok (v : Value) (l : List (Int × Int)) (w0 : World) (hr : (rdR v timE l).ok w0) : Calls Try.prog 20 #[v] w0 fun e w' => e = .returned (.int .i64 (chkW l)) ∧ Frm Nob w0 w' := by
  have hlen := rd_lt hr
  refine enter (μ := [rdR v timE l]) (S := Nob) (vs := [v]) Try.func20 rfl Try.ntmps20 rfl ⟨by simpa using hr, by simp⟩ (by simp [rdR]) (fun a hC => ?_)
  refine W.seqk fun k1 hk1 => ?_
  refine W.region ?_
  refine L.pu hC rfl rfl (fun _ => All.nil) rfl rfl ?_; clear hC a; intro a hC
  refine L.nil ?_
  refine hk1 _ _ ?_; clear hk1; try clear k1
  refine W.seqk fun k2 hk2 => ?_
  refine W.region ?_
  refine L.pu hC rfl rfl (fun _ => All.nil) rfl rfl ?_; clear hC a; intro a hC
  refine L.nil ?_
  refine hk2 _ _ ?_; clear hk2; try clear k2
  refine W.seqk fun k3 hk3 => ?_
  refine W.block ?_
  refine W.seqk fun k4 hk4 => ?_
  refine W.region ?_
  refine L.pu hC rfl rfl (fun _ => All.nil) rfl rfl ?_; clear hC a; intro a hC
  refine L.len hC rfl rfl rfl (fun _ => All.nil) (rd_form (hC.at m0)) Try.underlying22 rfl rfl ?_; clear hC a; intro a hC
  refine L.pu hC rfl rfl (fun _ => All.nil) rfl rfl ?_; clear hC a; intro a hC
  refine L.pu hC rfl rfl (fun _ => All.nil) rfl rfl ?_; clear hC a; intro a hC
  refine L.nil ?_
  refine hk4 _ _ ?_; clear hk4; try clear k4
  refine W.cond hC rfl (fun h1 => ?_) (fun h1 => ?_)
  ·
    refine W.seqk fun k5 hk5 => ?_
    refine W.region ?_
    refine L.pu hC rfl rfl (fun _ => All.nil) rfl rfl ?_; clear hC a; intro a hC
    refine L.nil ?_
    refine hk5 _ _ ?_; clear hk5; try clear k5
    refine W.ret ?_
    refine rets hC rfl (.tmp rfl .nil) ?_
    refine ⟨?_, hC.frm⟩
    exact congrArg (fun x => Ending.returned (.int .i64 x)) ((chkw_a h1).symm)
  ·
    refine W.seqk fun k6 hk6 => ?_
    refine W.region ?_
    refine L.pu hC rfl rfl (fun _ => All.nil) rfl rfl ?_; clear hC a; intro a hC
    refine L.pu hC rfl rfl (fun _ => All.nil) rfl rfl ?_; clear hC a; intro a hC
    refine L.call hC rfl rfl Try.call42 rfl (fun _ => All.nil) (fun hg => hasK_ok v l 41 #[] oddBk _ (hC.at m0) Try.call41 (fun x hx w' hw => by simpa using oddb_ok x w')) rfl rfl ?_; clear hC a; intro a w hF hC
    refine L.pu hC rfl rfl (fun _ => All.nil) rfl rfl ?_; clear hC a; intro a hC
    refine L.nil ?_
    refine hk6 _ _ ?_; clear hk6; try clear k6
    refine W.cond hC rfl (fun h2 => ?_) (fun h2 => ?_)
    ·
      refine W.seqk fun k7 hk7 => ?_
      refine W.region ?_
      refine L.pu hC rfl rfl (fun _ => All.nil) rfl rfl ?_; clear hC a; intro a hC
      refine L.nil ?_
      refine hk7 _ _ ?_; clear hk7; try clear k7
      refine W.ret ?_
      refine rets hC rfl (.tmp rfl .nil) ?_
      refine ⟨?_, hC.frm⟩
      exact congrArg (fun x => Ending.returned (.int .i64 x)) ((chkw_b h1 h2).symm)
    ·
      refine W.skip ?_
      refine hk3 _ _ ?_; clear hk3; try clear k3
      refine W.seqk fun k8 hk8 => ?_
      refine W.seqk fun k9 hk9 => ?_
      refine W.region ?_
      refine L.pu hC rfl rfl (fun _ => All.nil) rfl rfl ?_; clear hC a; intro a hC
      refine L.len hC rfl rfl rfl (fun _ => All.nil) (rd_form (hC.at m0)) Try.underlying22 rfl rfl ?_; clear hC a; intro a hC
      refine L.pu hC rfl rfl (fun _ => All.nil) rfl rfl ?_; clear hC a; intro a hC
      refine L.nil ?_
      refine hk9 _ _ ?_; clear hk9; try clear k9
      refine W.block ?_
      refine W.loop (fun (j : Nat) a w' => (j ≤ l.length) ∧ (∀ i, i < j → fallK l i = false) ∧ Conf 35 Nob w0 [(15, (none, .int .i64 (j : Int))), (14, (none, .int .i64 (l.length : Int))), (0, (none, v))] [rdR v timE l] a w') (fun (j : Nat) => l.length - j) 0 ?_ ?_
      · exact ⟨Nat.zero_le _, fun i hi => by omega, hC.keep ⟨rfl, rfl, rfl, trivial⟩⟩
      · rintro j a w ⟨hj, ho, hC⟩
        refine W.seqk fun k10 hk10 => ?_
        refine W.region ?_
        refine L.pu hC rfl rfl (fun _ => All.nil) rfl rfl ?_; clear hC a; intro a hC
        refine L.nil ?_
        refine hk10 _ _ ?_; clear hk10; try clear k10
        refine W.seqk fun k11 hk11 => ?_
        refine W.cond hC rfl (fun h3 => ?_) (fun h3 => ?_)
        ·
          have h3 := of_decide_eq_true h3
          refine W.skip ?_
          refine hk11 _ _ ?_; clear hk11; try clear k11
          refine W.seqk fun k12 hk12 => ?_
          refine W.block ?_
          refine W.seqk fun k13 hk13 => ?_
          refine W.region ?_
          refine L.pu hC rfl rfl (fun _ => All.nil) rfl rfl ?_; clear hC a; intro a hC
          refine L.pu hC rfl rfl (fun _ => All.nil) rfl rfl ?_; clear hC a; intro a hC
          refine L.nil ?_
          refine hk13 _ _ ?_; clear hk13; try clear k13
          refine W.seqk fun k14 hk14 => ?_
          refine W.drawD hC Try.mixed rfl rfl ?_
          apply DRN.cons (.det _ _) rfl
          · intro a w hC
            refine L.pu hC rfl rfl (fun _ => All.nil) rfl rfl ?_; clear hC a; intro a hC
            exact L.nil ⟨⟨_, [], hC⟩, Frm.refl _ _⟩
          apply DRN.cons (.det _ _) rfl
          · intro a w hC
            refine L.pu hC rfl rfl (fun _ => All.nil) rfl rfl ?_; clear hC a; intro a hC
            exact L.nil ⟨⟨_, [], hC⟩, Frm.refl _ _⟩
          apply DRN.cons (.det _ _) rfl
          · intro a w hC
            refine L.pu hC rfl rfl (fun _ => All.nil) rfl rfl ?_; clear hC a; intro a hC
            exact L.nil ⟨⟨_, [], hC⟩, Frm.refl _ _⟩
          apply DRN.cons (.det _ _) rfl
          · intro a w hC
            refine L.pu hC rfl rfl (fun _ => All.nil) rfl rfl ?_; clear hC a; intro a hC
            exact L.nil ⟨⟨_, [], hC⟩, Frm.refl _ _⟩
          apply DRN.cons (.det _ _) rfl
          · intro a w hC
            refine L.pu hC rfl rfl (fun _ => All.nil) rfl rfl ?_; clear hC a; intro a hC
            exact L.nil ⟨⟨_, [], hC⟩, Frm.refl _ _⟩
          apply DRN.cons (.det _ _) rfl
          · intro a w hC
            refine L.ixr hC rfl rfl rfl rfl m0 (fun hg => by first | (simp only [Gt, Bool.and_eq_true] at hg; simp only [All, List.cons_append, List.nil_append, List.append_nil, List.mem_cons, List.not_mem_nil, or_false, forall_eq_or_imp, forall_eq, Bool.and_eq_true, hg, Bool.not_false, Bool.not_true, and_self]; done) | (simp only [Gt] at hg; simp only [All, List.cons_append, List.nil_append, List.append_nil, List.mem_cons, List.not_mem_nil, or_false, forall_eq_or_imp, forall_eq, hg, and_self])) (fun hg => by first | (simp only [Gt, Bool.and_eq_true] at hg; simp only [All, List.cons_append, List.nil_append, List.append_nil, List.mem_cons, List.not_mem_nil, or_false, forall_eq_or_imp, forall_eq, Bool.and_eq_true, hg, Bool.not_false, Bool.not_true, and_self]; done) | (simp only [Gt] at hg; simp only [All, List.cons_append, List.nil_append, List.append_nil, List.mem_cons, List.not_mem_nil, or_false, forall_eq_or_imp, forall_eq, hg, and_self])) Try.underlying22 Try.sizeOf54 (fun _ => by omega) rfl rfl ?_; clear hC a; intro a hC
            exact L.nil ⟨⟨_, [], hC⟩, Frm.refl _ _⟩
          apply DRN.cons (.det _ _) rfl
          · intro a w hC
            refine L.fae hC rfl rfl rfl (fun hg => by first | (simp only [Gt, Bool.and_eq_true] at hg; simp only [All, List.cons_append, List.nil_append, List.append_nil, List.mem_cons, List.not_mem_nil, or_false, forall_eq_or_imp, forall_eq, Bool.and_eq_true, hg, Bool.not_false, Bool.not_true, and_self]; done) | (simp only [Gt] at hg; simp only [All, List.cons_append, List.nil_append, List.append_nil, List.mem_cons, List.not_mem_nil, or_false, forall_eq_or_imp, forall_eq, hg, and_self])) Try.underlying54 rfl Try.sizeOf3 rfl (fun hg => rd_some (hC.at m0) (by omega)) rfl rfl ?_; clear hC a; intro a hC
            exact L.nil ⟨⟨_, [], hC⟩, Frm.refl _ _⟩
          apply DRN.cons (.det _ _) rfl
          · intro a w hC
            refine L.ldx hC rfl rfl rfl rfl (fun hg => by first | (simp only [Gt, Bool.and_eq_true] at hg; simp only [All, List.cons_append, List.nil_append, List.append_nil, List.mem_cons, List.not_mem_nil, or_false, forall_eq_or_imp, forall_eq, Bool.and_eq_true, hg, Bool.not_false, Bool.not_true, and_self]; done) | (simp only [Gt] at hg; simp only [All, List.cons_append, List.nil_append, List.append_nil, List.mem_cons, List.not_mem_nil, or_false, forall_eq_or_imp, forall_eq, hg, and_self])) (fun hg => rd_bang hC m0 (by omega) _) Try.isAgg3 rfl rfl rfl ?_; clear hC a; intro a hC
            exact L.nil ⟨⟨_, [], hC⟩, Frm.refl _ _⟩
          apply DRN.cons (.det _ _) rfl
          · intro a w hC
            refine L.pu hC rfl rfl (fun _ => All.nil) rfl rfl ?_; clear hC a; intro a hC
            exact L.nil ⟨⟨_, [], hC⟩, Frm.refl _ _⟩
          apply DRN.cons (.det _ _) rfl
          · intro a w hC
            refine L.pu hC rfl rfl (fun _ => All.nil) rfl rfl ?_; clear hC a; intro a hC
            exact L.nil ⟨⟨_, [], hC⟩, Frm.refl _ _⟩
          apply DRN.cons (.det _ _) rfl
          · intro a w hC
            refine L.pu hC rfl rfl (fun hg => by first | (simp only [Gt, Bool.and_eq_true] at hg; simp only [All, List.cons_append, List.nil_append, List.append_nil, List.mem_cons, List.not_mem_nil, or_false, forall_eq_or_imp, forall_eq, Bool.and_eq_true, hg, Bool.not_false, Bool.not_true, and_self]; done) | (simp only [Gt] at hg; simp only [All, List.cons_append, List.nil_append, List.append_nil, List.mem_cons, List.not_mem_nil, or_false, forall_eq_or_imp, forall_eq, hg, and_self])) rfl rfl ?_; clear hC a; intro a hC
            exact L.nil ⟨⟨_, [], hC⟩, Frm.refl _ _⟩
          apply DRN.cons (.det _ _) rfl
          · intro a w hC
            refine L.ixr hC rfl rfl rfl rfl m0 (fun hg => by first | (simp only [Gt, Bool.and_eq_true] at hg; simp only [All, List.cons_append, List.nil_append, List.append_nil, List.mem_cons, List.not_mem_nil, or_false, forall_eq_or_imp, forall_eq, Bool.and_eq_true, hg, Bool.not_false, Bool.not_true, and_self]; done) | (simp only [Gt] at hg; simp only [All, List.cons_append, List.nil_append, List.append_nil, List.mem_cons, List.not_mem_nil, or_false, forall_eq_or_imp, forall_eq, hg, and_self])) (fun hg => by first | (simp only [Gt, Bool.and_eq_true] at hg; simp only [All, List.cons_append, List.nil_append, List.append_nil, List.mem_cons, List.not_mem_nil, or_false, forall_eq_or_imp, forall_eq, Bool.and_eq_true, hg, Bool.not_false, Bool.not_true, and_self]; done) | (simp only [Gt] at hg; simp only [All, List.cons_append, List.nil_append, List.append_nil, List.mem_cons, List.not_mem_nil, or_false, forall_eq_or_imp, forall_eq, hg, and_self])) Try.underlying22 Try.sizeOf54 (fun hg => by have := of_decide_eq_true hg; rw [w64 (by omega)]; omega) rfl rfl ?_; clear hC a; intro a hC
            exact L.nil ⟨⟨_, [], hC⟩, Frm.refl _ _⟩
          apply DRN.cons (.det _ _) rfl
          · intro a w hC
            refine L.fae hC rfl rfl rfl (fun hg => by first | (simp only [Gt, Bool.and_eq_true] at hg; simp only [All, List.cons_append, List.nil_append, List.append_nil, List.mem_cons, List.not_mem_nil, or_false, forall_eq_or_imp, forall_eq, Bool.and_eq_true, hg, Bool.not_false, Bool.not_true, and_self]; done) | (simp only [Gt] at hg; simp only [All, List.cons_append, List.nil_append, List.append_nil, List.mem_cons, List.not_mem_nil, or_false, forall_eq_or_imp, forall_eq, hg, and_self])) Try.underlying54 rfl Try.sizeOf3 rfl (fun hg => rd_some (hC.at m0) (by first | omega | (have := of_decide_eq_true hg; rw [w64 (by omega)]; omega))) rfl rfl ?_; clear hC a; intro a hC
            exact L.nil ⟨⟨_, [], hC⟩, Frm.refl _ _⟩
          apply DRN.cons (.det _ _) rfl
          · intro a w hC
            refine L.ldx hC rfl rfl rfl rfl (fun hg => by first | (simp only [Gt, Bool.and_eq_true] at hg; simp only [All, List.cons_append, List.nil_append, List.append_nil, List.mem_cons, List.not_mem_nil, or_false, forall_eq_or_imp, forall_eq, Bool.and_eq_true, hg, Bool.not_false, Bool.not_true, and_self]; done) | (simp only [Gt] at hg; simp only [All, List.cons_append, List.nil_append, List.append_nil, List.mem_cons, List.not_mem_nil, or_false, forall_eq_or_imp, forall_eq, hg, and_self])) (fun hg => rd_bang hC m0 (by first | omega | (have := of_decide_eq_true hg; rw [w64 (by omega)]; omega)) _) Try.isAgg3 rfl rfl rfl ?_; clear hC a; intro a hC
            exact L.nil ⟨⟨_, [], hC⟩, Frm.refl _ _⟩
          apply DRN.cons (.det _ _) rfl
          · intro a w hC
            refine L.pu hC rfl rfl (fun hg => by first | (simp only [Gt, Bool.and_eq_true] at hg; simp only [All, List.cons_append, List.nil_append, List.append_nil, List.mem_cons, List.not_mem_nil, or_false, forall_eq_or_imp, forall_eq, Bool.and_eq_true, hg, Bool.not_false, Bool.not_true, and_self]; done) | (simp only [Gt] at hg; simp only [All, List.cons_append, List.nil_append, List.append_nil, List.mem_cons, List.not_mem_nil, or_false, forall_eq_or_imp, forall_eq, hg, and_self])) rfl rfl ?_; clear hC a; intro a hC
            exact L.nil ⟨⟨_, [], hC⟩, Frm.refl _ _⟩
          apply DRN.cons (.det _ _) rfl
          · intro a w hC
            refine L.and hC rfl rfl rfl rfl (fun _ => All.nil) (fun _ hp => by first | (simp only [All, List.cons_append, List.nil_append, List.append_nil, List.mem_cons, List.not_mem_nil, or_false, forall_eq_or_imp, forall_eq, Bool.and_eq_true, hp, Bool.not_false, Bool.not_true, and_self]; done) | simp [All, hp]) rfl rfl ?_; clear hC a; intro a hC
            exact L.nil ⟨⟨_, [], hC⟩, Frm.refl _ _⟩
          refine DRN.nil (fun w' hF => ?_)
          intro a w hC hw
          subst hw
          refine hk14 _ _ ?_; clear hk14; try clear k14
          refine W.cond hC rfl (fun h4 => ?_) (fun h4 => ?_)
          ·
            refine W.seqk fun k15 hk15 => ?_
            refine W.region ?_
            refine L.pu hC rfl rfl (fun _ => All.nil) rfl rfl ?_; clear hC a; intro a hC
            refine L.nil ?_
            refine hk15 _ _ ?_; clear hk15; try clear k15
            refine W.ret ?_
            refine rets hC rfl (.tmp rfl .nil) ?_
            refine ⟨?_, hC.frm⟩
            exact congrArg (fun x => Ending.returned (.int .i64 x)) ((chkw_c h1 h2 (show j < l.length by omega) h4).symm)
          ·
            refine W.skip ?_
            refine hk12 _ _ ?_; clear hk12; try clear k12
            refine W.region ?_
            refine L.pu hC rfl rfl (fun _ => All.nil) rfl rfl ?_; clear hC a; intro a hC
            refine L.pu hC rfl rfl (fun _ => All.nil) rfl rfl ?_; clear hC a; intro a hC
            refine L.nil ?_
            exact ⟨j + 1, ⟨by omega, fun i hi => (Nat.lt_succ_iff_lt_or_eq.1 hi).elim (ho i) (fun e => by rw [e]; exact h4), hC.keep ⟨geti rfl (w64 (by omega)), rfl, rfl, trivial⟩⟩, by first | omega | (dsimp only; omega)⟩
        ·
          have h3 := of_decide_eq_false h3
          refine W.exit ?_
          refine Kb.here ?_
          refine hk8 _ _ ?_; clear hk8; try clear k8
          refine W.seqk fun k16 hk16 => ?_
          refine W.region ?_
          refine L.pu hC rfl rfl (fun _ => All.nil) rfl rfl ?_; clear hC a; intro a hC
          refine L.nil ?_
          refine hk16 _ _ ?_; clear hk16; try clear k16
          refine W.ret ?_
          refine rets hC rfl (.tmp rfl .nil) ?_
          refine ⟨?_, hC.frm⟩
          exact congrArg (fun x => Ending.returned (.int .i64 x)) ((chkw_d h1 h2 (fun i hi => ho i (by omega))).symm)

end Go.Proofs.E
