/- Subsets: what their functions compute. -/
import Derived.Test.YtgekiiildobfkaaS3
import Derived.Test.YtgekiiildobfkaaE17
set_option linter.unusedVariables false
set_option linter.unusedSimpArgs false
namespace Go.Proofs.E
open Go.RowKit
def roundR (n c s : Int) : Int × Int × Int :=
  if (((((decide (n < 0) || decide (n > 32)) || decide (c < 0)) || decide (c > 1048576)) || decide (s < 1)) || decide (s > 32)) = true then (0, 0, 4) else if decide (n ≤ s) = true then (0, 0, 0)
  else (IntKind.i64.wrap (c.tdiv (IntKind.i64.wrap (n.tdiv s))), c.tmod (IntKind.i64.wrap (n.tdiv s)), 0)
theorem round_size {n c s : Int} (h : (((((decide (n < 0) || decide (n > 32)) || decide (c < 0)) || decide (c > 1048576)) || decide (s < 1)) || decide (s > 32)) = false) : s ≠ 0 := by
  simp only [Bool.or_eq_false_iff, decide_eq_false_iff_not] at h; omega
theorem round_val {n c s : Int} (h : (((((decide (n < 0) || decide (n > 32)) || decide (c < 0)) || decide (c > 1048576)) || decide (s < 1)) || decide (s > 32)) = false) (h2 : decide (n ≤ s) = false) : IntKind.i64.wrap (n.tdiv s) = n / s ∧ 1 ≤ n / s ∧ n / s ≤ 32 := by
  simp only [Bool.or_eq_false_iff, decide_eq_false_iff_not] at h h2
  have e : n.tdiv s = n / s := Int.tdiv_eq_ediv_of_nonneg (by omega)
  have h3 : 1 ≤ n / s := Int.le_ediv_of_mul_le (by omega) (by omega)
  have h4 : n / s ≤ 32 := by
    have := Int.ediv_le_self s (a := n) (by omega)
    omega
  rw [e, w64 (by omega)]
  exact ⟨rfl, h3, h4⟩
theorem round_each {n c s : Int} (h : (((((decide (n < 0) || decide (n > 32)) || decide (c < 0)) || decide (c > 1048576)) || decide (s < 1)) || decide (s > 32)) = false) (h2 : decide (n ≤ s) = false) : IntKind.i64.wrap (n.tdiv s) ≠ 0 := by
  have := round_val h h2
  omega
def dE (v : Value) (size seed : Int) : List Value := [v, .int .i64 size, .int .u64 seed]
def rises : Int → List Int → Bool
  | _, [] => true
  | last, x :: l => if decide (x ≤ last) = true then false else rises x l
theorem rises_step {last : Int} {l : List Int} {j : Nat} (hj : j < l.length) (h : decide (l[j]! ≤ last) = false) : rises last (l.drop j) = rises l[j]! (l.drop (j + 1)) := by
  rw [List.drop_eq_getElem_cons hj, rises]
  rw [bang hj] at h ⊢
  rw [if_neg (nt h)]
theorem rises_here {last : Int} {l : List Int} {j : Nat} (hj : j < l.length) (h : decide (l[j]! ≤ last) = true) : rises last (l.drop j) = false := by
  rw [List.drop_eq_getElem_cons hj, rises]
  rw [bang hj] at h
  rw [if_pos h]
def chkD (l : List Int) : Int := if decide ((l.length : Int) > 32) = true then 3 else if (!rises (-1) l) = true then 9 else 0
theorem cloneI_ok (v : Value) (l : List Int) (w0 : World) (hr : (rdR v intE l).ok w0) (hl : l.length ≤ 1000000) : Calls Try.prog 156 #[v] w0 fun e w' => ∃ r : Value, e = .returned r ∧ True ∧ Post Nob [ownR r 3 intE l] w0 w' := by
  obtain ⟨A, c, hv, hm, hA⟩ := id hr
  subst hv
  refine enter (μ := [rdR (.slice A l.length c) intE l]) (S := Nob) (vs := [.slice A l.length c]) Try.func156 rfl Try.ntmps156 rfl ⟨by simpa using hr, by simp⟩ (by simp [rdR]) (fun a hC => ?_)
  refine W.seqk fun k1 hk1 => ?_
  refine W.region ?_
  refine L.pu hC rfl rfl (fun _ => All.nil) rfl rfl ?_; clear hC a; intro a hC
  refine L.nil ?_
  refine hk1 _ _ ?_; clear hk1; try clear k1
  refine W.seqk fun k2 hk2 => ?_
  refine W.seqk fun k3 hk3 => ?_
  refine W.region ?_
  refine L.pu hC rfl rfl (fun _ => All.nil) rfl rfl ?_; clear hC a; intro a hC
  refine L.bin hC rfl rfl rfl rfl (fun _ => All.nil) (fun _ => All.nil) (fun _ => run_nilS Try.underlying37 _) rfl rfl ?_; clear hC a; intro a hC
  refine L.nil ?_
  refine hk3 _ _ ?_; clear hk3; try clear k3
  refine W.cond hC rfl (fun h1 => ?_) (fun h1 => ?_)
  ·
    refine W.seqk fun k4 hk4 => ?_
    refine W.region ?_
    refine L.pu hC rfl rfl (fun _ => All.nil) rfl rfl ?_; clear hC a; intro a hC
    refine L.nil ?_
    refine hk4 _ _ ?_; clear hk4; try clear k4
    refine W.ret ?_
    refine rets hC rfl (.tmp rfl .nil) ?_
    have hl : l = [] := by
      apply Classical.byContradiction
      intro hn
      obtain ⟨q, hq, _⟩ := hA hn
      rw [hq] at h1; cases h1
    subst hl
    replace hC := hC.tail.nilown (ty := 3) (E := intE)
    exact ⟨_, rfl, trivial, hC.toPost (by simp [ownR])⟩
  ·
    refine W.skip ?_
    refine hk2 _ _ ?_; clear hk2; try clear k2
    refine W.seqk fun k5 hk5 => ?_
    refine W.region ?_
    refine L.bs0 (E := intE) hC rfl rfl Try.underlying37 Try.sizeOf3 rfl rfl ?_; clear hC a; intro vs1 a w hF hC
    refine L.pu hC rfl rfl (fun _ => All.nil) rfl rfl ?_; clear hC a; intro a hC
    refine L.appr hC rfl rfl rfl rfl (hC.at m1) Try.underlying37 Try.infoI3 rfl (by simp; omega) (by simp; omega) rfl rfl ?_; clear hC a; intro v2 a w hF hC
    refine L.pu hC rfl rfl (fun _ => All.nil) rfl rfl ?_; clear hC a; intro a hC
    refine L.nil ?_
    refine hk5 _ _ ?_; clear hk5; try clear k5
    refine W.ret ?_
    refine rets hC rfl (.tmp rfl .nil) ?_
    replace hC := hC.subl (.cons_cons _ (.cons _ .slnil))
    exact ⟨_, rfl, trivial, hC.toPost (by simp [ownR])⟩

theorem num13_ok (x : Int) (w0 : World) : Calls Try.prog 44 #[.int .i64 x] w0 fun e w' => e = .returned (.int .i64 x) ∧ Frm Nob w0 w' := by
  refine enter (μ := []) (S := Nob) (vs := [.int .i64 x]) Try.func44 rfl Try.ntmps44 rfl (Mem.nil _) (by simp) (fun a hC => ?_)
  refine W.seqk fun k1 hk1 => ?_
  refine W.region ?_
  refine L.pu hC rfl rfl (fun _ => All.nil) rfl rfl ?_; clear hC a; intro a hC
  refine L.nil ?_
  refine hk1 _ _ ?_; clear hk1; try clear k1
  refine W.seqk fun k2 hk2 => ?_
  refine W.region ?_
  refine L.pu hC rfl rfl (fun _ => All.nil) rfl rfl ?_; clear hC a; intro a hC
  refine L.pu hC rfl rfl (fun _ => All.nil) rfl rfl ?_; clear hC a; intro a hC
  refine L.nil ?_
  refine hk2 _ _ ?_; clear hk2; try clear k2
  refine W.ret ?_
  refine rets hC rfl (.tmp rfl .nil) ?_
  refine ⟨?_, hC.frm⟩
  rfl

theorem round_ok (n c s : Int) (w0 : World) : Calls Try.prog 46 #[.int .i64 n, .int .i64 c, .int .i64 s] w0 fun e w' => e = .returned (.tuple #[.int .i64 (roundR n c s).1, .int .i64 (roundR n c s).2.1, .int .i64 (roundR n c s).2.2]) ∧ Frm Nob w0 w' := by
  refine enter (μ := []) (S := Nob) (vs := [.int .i64 n, .int .i64 c, .int .i64 s]) Try.func46 rfl Try.ntmps46 rfl (Mem.nil _) (by simp) (fun a hC => ?_)
  refine W.seqk fun k1 hk1 => ?_
  refine W.region ?_
  refine L.pu hC rfl rfl (fun _ => All.nil) rfl rfl ?_; clear hC a; intro a hC
  refine L.pu hC rfl rfl (fun _ => All.nil) rfl rfl ?_; clear hC a; intro a hC
  refine L.pu hC rfl rfl (fun _ => All.nil) rfl rfl ?_; clear hC a; intro a hC
  refine L.nil ?_
  refine hk1 _ _ ?_; clear hk1; try clear k1
  refine W.seqk fun k2 hk2 => ?_
  refine W.seqk fun k3 hk3 => ?_
  refine W.region ?_
  refine L.pu hC rfl rfl (fun _ => All.nil) rfl rfl ?_; clear hC a; intro a hC
  refine L.pu hC rfl rfl (fun _ => All.nil) rfl rfl ?_; clear hC a; intro a hC
  refine L.pu hC rfl rfl (fun _ => All.nil) rfl rfl ?_; clear hC a; intro a hC
  refine L.pu hC rfl rfl (fun _ => All.nil) rfl rfl ?_; clear hC a; intro a hC
  refine L.pu hC rfl rfl (fun hg => by simp only [Gt, Bool.and_eq_true] at hg; simp only [All, List.cons_append, List.nil_append, List.append_nil, List.mem_cons, List.not_mem_nil, or_false, forall_eq_or_imp, forall_eq, Bool.and_eq_true, hg, Bool.not_false, Bool.not_true, and_self]) rfl rfl ?_; clear hC a; intro a hC
  refine L.or hC rfl rfl rfl rfl (fun _ => All.nil) (fun _ hp => by simp only [All, List.cons_append, List.nil_append, List.append_nil, List.mem_cons, List.not_mem_nil, or_false, forall_eq_or_imp, forall_eq, Bool.and_eq_true, hp, Bool.not_false, Bool.not_true, and_self]) rfl rfl ?_; clear hC a; intro a hC
  refine L.pu hC rfl rfl (fun _ => All.nil) rfl rfl ?_; clear hC a; intro a hC
  refine L.pu hC rfl rfl (fun _ => All.nil) rfl rfl ?_; clear hC a; intro a hC
  refine L.pu hC rfl rfl (fun hg => by simp only [Gt, Bool.and_eq_true] at hg; simp only [All, List.cons_append, List.nil_append, List.append_nil, List.mem_cons, List.not_mem_nil, or_false, forall_eq_or_imp, forall_eq, Bool.and_eq_true, hg, Bool.not_false, Bool.not_true, and_self]) rfl rfl ?_; clear hC a; intro a hC
  refine L.or hC rfl rfl rfl rfl (fun _ => All.nil) (fun _ hp => by simp only [All, List.cons_append, List.nil_append, List.append_nil, List.mem_cons, List.not_mem_nil, or_false, forall_eq_or_imp, forall_eq, Bool.and_eq_true, hp, Bool.not_false, Bool.not_true, and_self]) rfl rfl ?_; clear hC a; intro a hC
  refine L.pu hC rfl rfl (fun _ => All.nil) rfl rfl ?_; clear hC a; intro a hC
  refine L.pu hC rfl rfl (fun _ => All.nil) rfl rfl ?_; clear hC a; intro a hC
  refine L.pu hC rfl rfl (fun hg => by simp only [Gt, Bool.and_eq_true] at hg; simp only [All, List.cons_append, List.nil_append, List.append_nil, List.mem_cons, List.not_mem_nil, or_false, forall_eq_or_imp, forall_eq, Bool.and_eq_true, hg, Bool.not_false, Bool.not_true, and_self]) rfl rfl ?_; clear hC a; intro a hC
  refine L.or hC rfl rfl rfl rfl (fun _ => All.nil) (fun _ hp => by simp only [All, List.cons_append, List.nil_append, List.append_nil, List.mem_cons, List.not_mem_nil, or_false, forall_eq_or_imp, forall_eq, Bool.and_eq_true, hp, Bool.not_false, Bool.not_true, and_self]) rfl rfl ?_; clear hC a; intro a hC
  refine L.pu hC rfl rfl (fun _ => All.nil) rfl rfl ?_; clear hC a; intro a hC
  refine L.pu hC rfl rfl (fun _ => All.nil) rfl rfl ?_; clear hC a; intro a hC
  refine L.pu hC rfl rfl (fun hg => by simp only [Gt, Bool.and_eq_true] at hg; simp only [All, List.cons_append, List.nil_append, List.append_nil, List.mem_cons, List.not_mem_nil, or_false, forall_eq_or_imp, forall_eq, Bool.and_eq_true, hg, Bool.not_false, Bool.not_true, and_self]) rfl rfl ?_; clear hC a; intro a hC
  refine L.or hC rfl rfl rfl rfl (fun _ => All.nil) (fun _ hp => by simp only [All, List.cons_append, List.nil_append, List.append_nil, List.mem_cons, List.not_mem_nil, or_false, forall_eq_or_imp, forall_eq, Bool.and_eq_true, hp, Bool.not_false, Bool.not_true, and_self]) rfl rfl ?_; clear hC a; intro a hC
  refine L.pu hC rfl rfl (fun _ => All.nil) rfl rfl ?_; clear hC a; intro a hC
  refine L.pu hC rfl rfl (fun _ => All.nil) rfl rfl ?_; clear hC a; intro a hC
  refine L.pu hC rfl rfl (fun hg => by simp only [Gt, Bool.and_eq_true] at hg; simp only [All, List.cons_append, List.nil_append, List.append_nil, List.mem_cons, List.not_mem_nil, or_false, forall_eq_or_imp, forall_eq, Bool.and_eq_true, hg, Bool.not_false, Bool.not_true, and_self]) rfl rfl ?_; clear hC a; intro a hC
  refine L.or hC rfl rfl rfl rfl (fun _ => All.nil) (fun _ hp => by simp only [All, List.cons_append, List.nil_append, List.append_nil, List.mem_cons, List.not_mem_nil, or_false, forall_eq_or_imp, forall_eq, Bool.and_eq_true, hp, Bool.not_false, Bool.not_true, and_self]) rfl rfl ?_; clear hC a; intro a hC
  refine L.nil ?_
  refine hk3 _ _ ?_; clear hk3; try clear k3
  refine W.cond hC rfl (fun h1 => ?_) (fun h1 => ?_)
  ·
    refine W.seqk fun k4 hk4 => ?_
    refine W.region ?_
    refine L.pu hC rfl rfl (fun _ => All.nil) rfl rfl ?_; clear hC a; intro a hC
    refine L.pu hC rfl rfl (fun _ => All.nil) rfl rfl ?_; clear hC a; intro a hC
    refine L.pu hC rfl rfl (fun _ => All.nil) rfl rfl ?_; clear hC a; intro a hC
    refine L.nil ?_
    refine hk4 _ _ ?_; clear hk4; try clear k4
    refine W.ret ?_
    refine retl hC rfl (.tmp rfl (.tmp rfl (.tmp rfl .nil))) rfl ?_
    exact ⟨(by unfold roundR; rw [if_pos h1]; try rfl), hC.frm⟩
  ·
    refine W.skip ?_
    refine hk2 _ _ ?_; clear hk2; try clear k2
    refine W.seqk fun k5 hk5 => ?_
    refine W.seqk fun k6 hk6 => ?_
    refine W.region ?_
    refine L.pu hC rfl rfl (fun _ => All.nil) rfl rfl ?_; clear hC a; intro a hC
    refine L.pu hC rfl rfl (fun _ => All.nil) rfl rfl ?_; clear hC a; intro a hC
    refine L.pu hC rfl rfl (fun _ => All.nil) rfl rfl ?_; clear hC a; intro a hC
    refine L.nil ?_
    refine hk6 _ _ ?_; clear hk6; try clear k6
    refine W.cond hC rfl (fun h2 => ?_) (fun h2 => ?_)
    ·
      refine W.seqk fun k7 hk7 => ?_
      refine W.region ?_
      refine L.pu hC rfl rfl (fun _ => All.nil) rfl rfl ?_; clear hC a; intro a hC
      refine L.pu hC rfl rfl (fun _ => All.nil) rfl rfl ?_; clear hC a; intro a hC
      refine L.pu hC rfl rfl (fun _ => All.nil) rfl rfl ?_; clear hC a; intro a hC
      refine L.nil ?_
      refine hk7 _ _ ?_; clear hk7; try clear k7
      refine W.ret ?_
      refine retl hC rfl (.tmp rfl (.tmp rfl (.tmp rfl .nil))) rfl ?_
      exact ⟨(by unfold roundR; rw [if_neg (nt h1), if_pos h2]; try rfl), hC.frm⟩
    ·
      have he := round_each h1 h2
      have hs0 := round_size h1
      refine W.skip ?_
      refine hk5 _ _ ?_; clear hk5; try clear k5
      refine W.seqk fun k8 hk8 => ?_
      refine W.region ?_
      refine L.pu hC rfl rfl (fun _ => All.nil) rfl rfl ?_; clear hC a; intro a hC
      refine L.pu hC rfl rfl (fun _ => All.nil) rfl rfl ?_; clear hC a; intro a hC
      refine L.bin hC rfl rfl rfl rfl (fun _ => All.nil) (fun _ => All.nil) (fun hg => run_quo hs0 _) rfl rfl ?_; clear hC a; intro a hC
      refine L.pu hC rfl rfl (fun _ => All.nil) rfl rfl ?_; clear hC a; intro a hC
      refine L.nil ?_
      refine hk8 _ _ ?_; clear hk8; try clear k8
      refine W.seqk fun k9 hk9 => ?_
      replace hC := hC.del 6
      replace hC := hC.del 7
      replace hC := hC.del 8
      refine W.drawD hC Try.mixed rfl rfl ?_
      apply DRN.cons (.det _ _) rfl
      · intro a w hC
        refine L.pu hC rfl rfl (fun _ => All.nil) rfl rfl ?_; clear hC a; intro a hC
        exact L.nil ⟨⟨_, [], hC⟩, Frm.refl _ _⟩
      apply DRN.cons (.det _ _) rfl
      · intro a w hC
        refine L.pu hC rfl rfl (fun _ => All.nil) rfl rfl ?_; clear hC a; intro a hC
        exact L.nil ⟨⟨_, [], hC⟩, Frm.refl _ _⟩
      apply DRN.cons (.det _ _) rfl
      · intro a w hC
        refine L.bin hC rfl rfl rfl rfl (fun _ => All.nil) (fun _ => All.nil) (fun hg => run_quo he _) rfl rfl ?_; clear hC a; intro a hC
        exact L.nil ⟨⟨_, [], hC⟩, Frm.refl _ _⟩
      apply DRN.cons (.det _ _) rfl
      · intro a w hC
        refine L.pu hC rfl rfl (fun _ => All.nil) rfl rfl ?_; clear hC a; intro a hC
        exact L.nil ⟨⟨_, [], hC⟩, Frm.refl _ _⟩
      apply DRN.cons (.det _ _) rfl
      · intro a w hC
        refine L.pu hC rfl rfl (fun _ => All.nil) rfl rfl ?_; clear hC a; intro a hC
        exact L.nil ⟨⟨_, [], hC⟩, Frm.refl _ _⟩
      apply DRN.cons (.det _ _) rfl
      · intro a w hC
        refine L.bin hC rfl rfl rfl rfl (fun _ => All.nil) (fun _ => All.nil) (fun hg => run_rem he _) rfl rfl ?_; clear hC a; intro a hC
        exact L.nil ⟨⟨_, [], hC⟩, Frm.refl _ _⟩
      apply DRN.cons (.det _ _) rfl
      · intro a w hC
        refine L.pu hC rfl rfl (fun _ => All.nil) rfl rfl ?_; clear hC a; intro a hC
        exact L.nil ⟨⟨_, [], hC⟩, Frm.refl _ _⟩
      apply DRN.cons (.det _ _) rfl
      · intro a w hC
        refine L.pu hC rfl rfl (fun _ => All.nil) rfl rfl ?_; clear hC a; intro a hC
        exact L.nil ⟨⟨_, [], hC⟩, Frm.refl _ _⟩
      apply DRN.cons (.det _ _) rfl
      · intro a w hC
        refine L.pu hC rfl rfl (fun _ => All.nil) rfl rfl ?_; clear hC a; intro a hC
        exact L.nil ⟨⟨_, [], hC⟩, Frm.refl _ _⟩
      refine DRN.nil (fun w' hF => ?_)
      intro a w hC hw
      subst hw
      refine hk9 _ _ ?_; clear hk9; try clear k9
      refine W.ret ?_
      refine retl hC rfl (.tmp rfl (.tmp rfl (.tmp rfl .nil))) rfl ?_
      exact ⟨(by unfold roundR; rw [if_neg (nt h1), if_neg (nt h2)]; try rfl), hC.frm⟩

theorem chkD_ok (v : Value) (size seed : Int) (l : List Int) (w0 : World) (hr : (rdR v intE l).ok w0) : Calls Try.prog 131 #[.agg (dE v size seed).toArray] w0 fun e w' => e = .returned (.int .i64 (chkD l)) ∧ Frm Nob w0 w' := by
  have hlen := rd_lt hr
  refine enter (μ := [rdR v intE l]) (S := Nob) (vs := [.agg (dE v size seed).toArray]) Try.func131 rfl Try.ntmps131 rfl ⟨by simpa using hr, by simp⟩ (by simp [rdR]) (fun a hC => ?_)
  refine W.seqk fun k1 hk1 => ?_
  refine W.region ?_
  refine L.box hC rfl rfl rfl rfl rfl rfl ?_; clear hC a; intro db a w hF hC
  refine L.pu hC rfl rfl (fun _ => All.nil) rfl rfl ?_; clear hC a; intro a hC
  refine L.nil ?_
  refine hk1 _ _ ?_; clear hk1; try clear k1
  refine W.seqk fun k2 hk2 => ?_
  refine W.seqk fun k3 hk3 => ?_
  refine W.region ?_
  refine L.fa hC rfl rfl rfl (fun _ => All.nil) Try.underlying157 rfl Try.sizeOf37 rfl rfl rfl ?_; clear hC a; intro a hC
  refine L.ld hC rfl rfl rfl (fun _ => All.nil) m0 Try.isAgg37 rfl rfl rfl ?_; clear hC a; intro a hC
  refine L.len hC rfl rfl rfl (fun _ => All.nil) (rd_form (hC.at m1)) Try.underlying37 rfl rfl ?_; clear hC a; intro a hC
  refine L.pu hC rfl rfl (fun _ => All.nil) rfl rfl ?_; clear hC a; intro a hC
  refine L.nil ?_
  refine hk3 _ _ ?_; clear hk3; try clear k3
  refine W.cond hC rfl (fun h1 => ?_) (fun h1 => ?_)
  ·
    refine W.seqk fun k4 hk4 => ?_
    refine W.region ?_
    refine L.pu hC rfl rfl (fun _ => All.nil) rfl rfl ?_; clear hC a; intro a hC
    refine L.nil ?_
    refine hk4 _ _ ?_; clear hk4; try clear k4
    refine W.ret ?_
    refine rets hC rfl (.tmp rfl .nil) ?_
    refine ⟨?_, hC.frm⟩
    exact congrArg (fun x => Ending.returned (.int .i64 x)) (by unfold chkD; rw [if_pos h1])
  ·
    refine W.skip ?_
    refine hk2 _ _ ?_; clear hk2; try clear k2
    refine W.seqk fun k5 hk5 => ?_
    refine W.region ?_
    refine L.pu hC rfl rfl (fun _ => All.nil) rfl rfl ?_; clear hC a; intro a hC
    refine L.nil ?_
    refine hk5 _ _ ?_; clear hk5; try clear k5
    refine W.seqk fun k6 hk6 => ?_
    refine W.seqk fun k7 hk7 => ?_
    refine W.region ?_
    refine L.fa hC rfl rfl rfl (fun _ => All.nil) Try.underlying157 rfl Try.sizeOf37 rfl rfl rfl ?_; clear hC a; intro a hC
    refine L.ld hC rfl rfl rfl (fun _ => All.nil) m0 Try.isAgg37 rfl rfl rfl ?_; clear hC a; intro a hC
    refine L.len hC rfl rfl rfl (fun _ => All.nil) (rd_form (hC.at m1)) Try.underlying37 rfl rfl ?_; clear hC a; intro a hC
    refine L.pu hC rfl rfl (fun _ => All.nil) rfl rfl ?_; clear hC a; intro a hC
    refine L.nil ?_
    refine hk7 _ _ ?_; clear hk7; try clear k7
    refine W.block ?_
    replace hC := hC.subl (.cons _ (.cons_cons _ .slnil))
    refine W.loop (fun (gst : Nat × Int) a w' => match gst with | ⟨j, last⟩ => (j ≤ l.length) ∧ (rises last (l.drop j) = rises (-1) l) ∧ Conf 22 Nob w0 [(13, (none, .int .i64 (j : Int))), (12, (none, .int .i64 (l.length : Int))), (11, (none, v)), (3, (none, .int .i64 last)), (2, (none, .int .i64 0))] [rdR v intE l] a w') (fun (gst : Nat × Int) => match gst with | ⟨j, last⟩ => l.length - j) (0, -1) ?_ ?_
    · exact ⟨Nat.zero_le _, rfl, hC.keep ⟨rfl, rfl, rfl, rfl, rfl, trivial⟩⟩
    · rintro ⟨j, last⟩ a w ⟨hj, hs, hC⟩
      refine W.seqk fun k8 hk8 => ?_
      refine W.region ?_
      refine L.pu hC rfl rfl (fun _ => All.nil) rfl rfl ?_; clear hC a; intro a hC
      refine L.nil ?_
      refine hk8 _ _ ?_; clear hk8; try clear k8
      refine W.seqk fun k9 hk9 => ?_
      refine W.cond hC rfl (fun h2 => ?_) (fun h2 => ?_)
      ·
        have h2 := of_decide_eq_true h2
        refine W.skip ?_
        refine hk9 _ _ ?_; clear hk9; try clear k9
        refine W.seqk fun k10 hk10 => ?_
        refine W.block ?_
        refine W.seqk fun k11 hk11 => ?_
        refine W.region ?_
        refine L.ixr hC rfl rfl rfl rfl m0 (fun _ => All.nil) (fun _ => All.nil) Try.underlying37 Try.sizeOf3 (fun _ => by omega) rfl rfl ?_; clear hC a; intro a hC
        refine L.ldx hC rfl rfl rfl rfl (fun _ => All.nil) (fun hg => rd_bang hC m0 (by omega) _) Try.isAgg3 rfl rfl rfl ?_; clear hC a; intro a hC
        refine L.pu hC rfl rfl (fun _ => All.nil) rfl rfl ?_; clear hC a; intro a hC
        refine L.nil ?_
        refine hk11 _ _ ?_; clear hk11; try clear k11
        refine W.seqk fun k12 hk12 => ?_
        refine W.seqk fun k13 hk13 => ?_
        refine W.region ?_
        refine L.pu hC rfl rfl (fun _ => All.nil) rfl rfl ?_; clear hC a; intro a hC
        refine L.pu hC rfl rfl (fun _ => All.nil) rfl rfl ?_; clear hC a; intro a hC
        refine L.pu hC rfl rfl (fun _ => All.nil) rfl rfl ?_; clear hC a; intro a hC
        refine L.nil ?_
        refine hk13 _ _ ?_; clear hk13; try clear k13
        refine W.cond hC rfl (fun h3 => ?_) (fun h3 => ?_)
        ·
          refine W.seqk fun k14 hk14 => ?_
          refine W.region ?_
          refine L.pu hC rfl rfl (fun _ => All.nil) rfl rfl ?_; clear hC a; intro a hC
          refine L.nil ?_
          refine hk14 _ _ ?_; clear hk14; try clear k14
          refine W.ret ?_
          refine rets hC rfl (.tmp rfl .nil) ?_
          refine ⟨?_, hC.frm⟩
          exact congrArg (fun x => Ending.returned (.int .i64 x)) (by unfold chkD; rw [if_neg (nt h1), if_pos (show (!rises (-1) l) = true by rw [← hs, rises_here (l := l) (j := j) (by omega) h3]; rfl)])
        ·
          refine W.skip ?_
          refine hk12 _ _ ?_; clear hk12; try clear k12
          refine W.region ?_
          refine L.pu hC rfl rfl (fun _ => All.nil) rfl rfl ?_; clear hC a; intro a hC
          refine L.pu hC rfl rfl (fun _ => All.nil) rfl rfl ?_; clear hC a; intro a hC
          refine L.nil ?_
          refine hk10 _ _ ?_; clear hk10; try clear k10
          refine W.region ?_
          refine L.pu hC rfl rfl (fun _ => All.nil) rfl rfl ?_; clear hC a; intro a hC
          refine L.pu hC rfl rfl (fun _ => All.nil) rfl rfl ?_; clear hC a; intro a hC
          refine L.nil ?_
          exact ⟨(j + 1, l[j]!), ⟨by omega, by rw [← hs]; exact (rises_step (l := l) (j := j) (by omega) h3).symm, hC.keep ⟨geti rfl (w64 (by omega)), rfl, rfl, rfl, rfl, trivial⟩⟩, by first | omega | (dsimp only; omega)⟩
      ·
        have h2 := of_decide_eq_false h2
        refine W.exit ?_
        refine Kb.here ?_
        refine hk6 _ _ ?_; clear hk6; try clear k6
        refine W.seqk fun k15 hk15 => ?_
        refine W.region ?_
        refine L.pu hC rfl rfl (fun _ => All.nil) rfl rfl ?_; clear hC a; intro a hC
        refine L.nil ?_
        refine hk15 _ _ ?_; clear hk15; try clear k15
        refine W.ret ?_
        refine rets hC rfl (.tmp rfl .nil) ?_
        refine ⟨?_, hC.frm⟩
        exact congrArg (fun x => Ending.returned (.int .i64 x)) (by unfold chkD; rw [if_neg (nt h1), if_neg (nt (show (!rises (-1) l) = false by rw [← hs, List.drop_of_length_le (by omega)]; rfl))])

end Go.Proofs.E
