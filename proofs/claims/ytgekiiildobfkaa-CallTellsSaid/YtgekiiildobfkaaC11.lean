/- Plans and slow attempts, on the page; calls that are the same. -/
import Derived.Test.YtgekiiildobfkaaC10
set_option linter.unusedVariables false
set_option linter.unusedSimpArgs false
namespace Go.Proofs.E
open Go.RowKit
section
variable {c : CallH} {s : CSet} {l : List Att} {j : Nat} {tick wait : Int}
theorem cntA_pos (l : List Att) : 0 ≤ cntA l := by unfold cntA; omega
abbrev lastI (l : List Att) : Nat := (IntKind.i64.wrap ((l.length : Int) - 1)).toNat
theorem planr_a (h1 : (chkA c s l != 0) = true) : planT c s l tick wait = (0, chkA c s l) := if_pos h1
theorem planr_b (h1 : (chkA c s l != 0) = false) (h2 : decide (tick ≥ c.dl) = true) : planT c s l tick wait = (4, 0) := by unfold planT planR; rw [if_neg (nt h1), if_pos h2]
theorem planr_c (h1 : (chkA c s l != 0) = false) (h2 : decide (tick ≥ c.dl) = false) (h3 : ((l.length : Int) == 0) = true) : planT c s l tick wait = (1, 0) := by
  unfold planT planR; rw [if_neg (nt h1), if_neg (nt h2), if_pos h3]
theorem planr_d (h1 : (chkA c s l != 0) = false) (h2 : decide (tick ≥ c.dl) = false) (h3 : ((l.length : Int) == 0) = false)
    (h4 : ((cntA l == 0 && decide ((l.length : Int) < s.att)) && decide (tick ≥ c.nx)) = true) : planT c s l tick wait = (2, 0) := by
  rw [Bool.and_eq_true, Bool.and_eq_true, decide_eq_true_eq] at h4
  unfold planT planR
  rw [if_neg (nt h1), if_neg (nt h2), if_neg (nt h3), if_neg (by rw [decide_eq_true_eq]; omega), if_pos (by rw [Bool.and_eq_true]; exact ⟨h4.1.1, h4.2⟩)]
theorem planr_e (h1 : (chkA c s l != 0) = false) (h2 : decide (tick ≥ c.dl) = false) (h3 : ((l.length : Int) == 0) = false)
    (h4 : ((cntA l == 0 && decide ((l.length : Int) < s.att)) && decide (tick ≥ c.nx)) = false)
    (h5 : (((((decide (cntA l > 0) && !c.once) && decide ((l.length : Int) < s.att)) && decide (hedA l < s.hed)) && decide (tick > l[lastI l]!.at')) && decide (wait ≤ IntKind.i64.wrap (tick - l[lastI l]!.at'))) = true) : planT c s l tick wait = (3, 0) := by
  simp only [Bool.and_eq_true, decide_eq_true_eq] at h5
  unfold planT planR
  rw [if_neg (nt h1), if_neg (nt h2), if_neg (nt h3), if_neg (by rw [decide_eq_true_eq]; omega), if_neg (by rw [Bool.and_eq_true]; intro h; have := h5.1.1.1.1.1; have h6 := h.1; simp at h6; omega), if_pos]
  unfold hedgesR
  simp only [Bool.and_eq_true, decide_eq_true_eq]
  exact ⟨⟨⟨⟨h5.1.1.1.1.1, h5.1.1.1.1.2⟩, h5.1.1.2⟩, h5.1.2⟩, h5.2⟩
theorem planr_f (h1 : (chkA c s l != 0) = false) (h2 : decide (tick ≥ c.dl) = false) (h3 : ((l.length : Int) == 0) = false)
    (h4 : ((cntA l == 0 && decide ((l.length : Int) < s.att)) && decide (tick ≥ c.nx)) = false)
    (h5 : (((((decide (cntA l > 0) && !c.once) && decide ((l.length : Int) < s.att)) && decide (hedA l < s.hed)) && decide (tick > l[lastI l]!.at')) && decide (wait ≤ IntKind.i64.wrap (tick - l[lastI l]!.at'))) = false) : planT c s l tick wait = (0, 0) := by
  unfold planT planR
  rw [if_neg (nt h1), if_neg (nt h2), if_neg (nt h3)]
  split
  · rfl
  · rename_i h6
    rw [decide_eq_true_eq] at h6
    have h7 : decide ((l.length : Int) < s.att) = true := by rw [decide_eq_true_eq]; omega
    rw [h7, Bool.and_true] at h4 h5
    rw [if_neg (nt h4), if_neg]
    unfold hedgesR
    exact nt h5
theorem outs_app (a : Att) : ∀ (l : List Att) (k : Nat), outsP k (l ++ [a]) = outsP k l ++ (if (!a.over) = true then [(k + l.length, a)] else [])
  | [], k => by simp only [List.nil_append, outsP, List.length_nil, Nat.add_zero]
  | b :: r, k => by
    rw [List.cons_append, outsP, outsP, outs_app a r (k + 1)]
    have e : k + 1 + r.length = k + (b :: r).length := by simp; omega
    rw [e]
    split <;> simp
theorem slowJ_len (s : CSet) (l : List Att) (tick : Int) (j : Nat) : (slowR s (l.take j) tick).length ≤ l.length := by
  unfold slowR
  rw [List.length_map]
  have h1 := List.length_filter_le (slowP s tick) (outsP 0 (l.take j))
  have h2 := outs_bound (l.take j) 0
  have h3 : (l.take j).length ≤ l.length := by simp; omega
  omega
theorem slowJ_yes (hj : j < l.length) (h : (!l[j]!.over && decide (tick ≥ IntKind.i64.wrap (l[j]!.at' + s.tmo))) = true) : slowR s (l.take (j + 1)) tick = slowR s (l.take j) tick ++ [(j : Int)] := by
  rw [Bool.and_eq_true] at h
  unfold slowR
  rw [take_one hj, outs_app, if_pos h.1, List.filter_append, List.filter_cons_of_pos (by unfold slowP; exact h.2), List.filter_nil, List.map_append]
  simp only [List.map_cons, List.map_nil, List.length_take, Nat.zero_add, Nat.min_eq_left (Nat.le_of_lt hj)]
theorem slowJ_no (hj : j < l.length) (h : (!l[j]!.over && decide (tick ≥ IntKind.i64.wrap (l[j]!.at' + s.tmo))) = false) : slowR s (l.take (j + 1)) tick = slowR s (l.take j) tick := by
  unfold slowR
  rw [take_one hj, outs_app]
  split
  · rename_i h1
    rw [h1, Bool.true_and] at h
    rw [List.filter_append, List.filter_cons_of_neg (by unfold slowP; exact nt h), List.filter_nil, List.append_nil]
  · rw [List.append_nil]
end
theorem sameC_ok (c : CallH) (v u : Value) (l : List Att) (w0 : World) (hr : (rdR v attE l).ok w0) (hm : (rdR u attE l).ok w0) : Calls Try.prog 34 #[.agg (callE c v).toArray, .agg (callE c u).toArray] w0 fun e w' => e = .returned (.bool true) ∧ Frm Nob w0 w' := by
  obtain ⟨vA, vc, hv, _, _⟩ := id hr
  subst hv
  obtain ⟨uA, uc, hu, _, _⟩ := id hm
  subst hu
  have hlen := rd_lt hr
  refine enter (μ := [rdR (.slice vA l.length vc) attE l, rdR (.slice uA l.length uc) attE l]) (S := Nob) (vs := [.agg (callE c (.slice vA l.length vc)).toArray, .agg (callE c (.slice uA l.length uc)).toArray]) Try.func34 rfl Try.ntmps34 rfl (Mem.rdd hr hm) (by simp [rdR]) (fun a hC => ?_)
  refine W.seqk fun k1 hk1 => ?_
  refine W.region ?_
  refine L.box hC rfl rfl rfl rfl rfl rfl ?_; clear hC a; intro xb a w hF hC
  refine L.box hC rfl rfl rfl rfl rfl rfl ?_; clear hC a; intro yb a w hF hC
  refine L.pu hC rfl rfl (fun _ => All.nil) rfl rfl ?_; clear hC a; intro a hC
  refine L.nil ?_
  refine hk1 _ _ ?_; clear hk1; try clear k1
  refine W.seqk fun k2 hk2 => ?_
  refine W.seqk fun k3 hk3 => ?_
  refine W.region ?_
  refine L.fa hC rfl rfl rfl (fun _ => All.nil) Try.underlying56 rfl Try.sizeOf3 rfl rfl rfl ?_; clear hC a; intro a hC
  refine L.ld hC rfl rfl rfl (fun _ => All.nil) m1 Try.isAgg3 rfl rfl rfl ?_; clear hC a; intro a hC
  refine L.fa hC rfl rfl rfl (fun _ => All.nil) Try.underlying56 rfl Try.sizeOf3 rfl rfl rfl ?_; clear hC a; intro a hC
  refine L.ld hC rfl rfl rfl (fun _ => All.nil) m0 Try.isAgg3 rfl rfl rfl ?_; clear hC a; intro a hC
  refine L.pu hC rfl rfl (fun _ => All.nil) rfl rfl ?_; clear hC a; intro a hC
  refine L.pu hC rfl rfl (fun _ => All.nil) rfl rfl ?_; clear hC a; intro a hC
  refine L.fa hC rfl rfl rfl (fun _ => All.nil) Try.underlying56 rfl Try.sizeOf53 rfl rfl rfl ?_; clear hC a; intro a hC
  refine L.lda hC rfl rfl rfl (fun hg => by first | (simp only [Gt, Bool.and_eq_true] at hg; simp only [All, List.cons_append, List.nil_append, List.append_nil, List.mem_cons, List.not_mem_nil, or_false, forall_eq_or_imp, forall_eq, Bool.and_eq_true, hg, Bool.not_false, Bool.not_true, and_self]; done) | (simp only [Gt] at hg; simp only [All, List.cons_append, List.nil_append, List.append_nil, List.mem_cons, List.not_mem_nil, or_false, forall_eq_or_imp, forall_eq, hg, and_self])) m1 Try.isAgg53 Try.sizeOf53 rfl rfl rfl rfl ?_; clear hC a; intro a hC
  refine L.fa hC rfl rfl rfl (fun _ => All.nil) Try.underlying56 rfl Try.sizeOf53 rfl rfl rfl ?_; clear hC a; intro a hC
  refine L.lda hC rfl rfl rfl (fun hg => by first | (simp only [Gt, Bool.and_eq_true] at hg; simp only [All, List.cons_append, List.nil_append, List.append_nil, List.mem_cons, List.not_mem_nil, or_false, forall_eq_or_imp, forall_eq, Bool.and_eq_true, hg, Bool.not_false, Bool.not_true, and_self]; done) | (simp only [Gt] at hg; simp only [All, List.cons_append, List.nil_append, List.append_nil, List.mem_cons, List.not_mem_nil, or_false, forall_eq_or_imp, forall_eq, hg, and_self])) m0 Try.isAgg53 Try.sizeOf53 rfl rfl rfl rfl ?_; clear hC a; intro a hC
  refine L.bin hC rfl rfl rfl rfl (fun hg => by first | (simp only [Gt, Bool.and_eq_true] at hg; simp only [All, List.cons_append, List.nil_append, List.append_nil, List.mem_cons, List.not_mem_nil, or_false, forall_eq_or_imp, forall_eq, Bool.and_eq_true, hg, Bool.not_false, Bool.not_true, and_self]; done) | (simp only [Gt] at hg; simp only [All, List.cons_append, List.nil_append, List.append_nil, List.mem_cons, List.not_mem_nil, or_false, forall_eq_or_imp, forall_eq, hg, and_self])) (fun hg => by first | (simp only [Gt, Bool.and_eq_true] at hg; simp only [All, List.cons_append, List.nil_append, List.append_nil, List.mem_cons, List.not_mem_nil, or_false, forall_eq_or_imp, forall_eq, Bool.and_eq_true, hg, Bool.not_false, Bool.not_true, and_self]; done) | (simp only [Gt] at hg; simp only [All, List.cons_append, List.nil_append, List.append_nil, List.mem_cons, List.not_mem_nil, or_false, forall_eq_or_imp, forall_eq, hg, and_self])) (fun _ => run_neS Try.underlying53 Try.stoodInHeld53 Try.eqGuardType53 ⟨⟨rfl, rfl, ⟨_, Try.underlying3⟩⟩, ⟨rfl, rfl, ⟨_, Try.underlying3⟩⟩, ⟨rfl, rfl, ⟨_, Try.underlying3⟩⟩, ⟨rfl, rfl, ⟨_, Try.underlying3⟩⟩, trivial⟩ rfl) rfl rfl ?_; clear hC a; intro a hC
  refine L.or hC rfl rfl rfl rfl (fun _ => All.nil) (fun _ hp => by first | (simp only [All, List.cons_append, List.nil_append, List.append_nil, List.mem_cons, List.not_mem_nil, or_false, forall_eq_or_imp, forall_eq, Bool.and_eq_true, hp, Bool.not_false, Bool.not_true, and_self]; done) | simp [All, hp]) rfl rfl ?_; clear hC a; intro a hC
  refine L.pu hC rfl rfl (fun _ => All.nil) rfl rfl ?_; clear hC a; intro a hC
  refine L.fa hC rfl rfl rfl (fun _ => All.nil) Try.underlying56 rfl Try.sizeOf4 rfl rfl rfl ?_; clear hC a; intro a hC
  refine L.ld hC rfl rfl rfl (fun hg => by first | (simp only [Gt, Bool.and_eq_true] at hg; simp only [All, List.cons_append, List.nil_append, List.append_nil, List.mem_cons, List.not_mem_nil, or_false, forall_eq_or_imp, forall_eq, Bool.and_eq_true, hg, Bool.not_false, Bool.not_true, and_self]; done) | (simp only [Gt] at hg; simp only [All, List.cons_append, List.nil_append, List.append_nil, List.mem_cons, List.not_mem_nil, or_false, forall_eq_or_imp, forall_eq, hg, and_self])) m1 Try.isAgg4 rfl rfl rfl ?_; clear hC a; intro a hC
  refine L.fa hC rfl rfl rfl (fun _ => All.nil) Try.underlying56 rfl Try.sizeOf4 rfl rfl rfl ?_; clear hC a; intro a hC
  refine L.ld hC rfl rfl rfl (fun hg => by first | (simp only [Gt, Bool.and_eq_true] at hg; simp only [All, List.cons_append, List.nil_append, List.append_nil, List.mem_cons, List.not_mem_nil, or_false, forall_eq_or_imp, forall_eq, Bool.and_eq_true, hg, Bool.not_false, Bool.not_true, and_self]; done) | (simp only [Gt] at hg; simp only [All, List.cons_append, List.nil_append, List.append_nil, List.mem_cons, List.not_mem_nil, or_false, forall_eq_or_imp, forall_eq, hg, and_self])) m0 Try.isAgg4 rfl rfl rfl ?_; clear hC a; intro a hC
  refine L.neb hC rfl rfl rfl rfl (fun hg => by first | (simp only [Gt, Bool.and_eq_true] at hg; simp only [All, List.cons_append, List.nil_append, List.append_nil, List.mem_cons, List.not_mem_nil, or_false, forall_eq_or_imp, forall_eq, Bool.and_eq_true, hg, Bool.not_false, Bool.not_true, and_self]; done) | (simp only [Gt] at hg; simp only [All, List.cons_append, List.nil_append, List.append_nil, List.mem_cons, List.not_mem_nil, or_false, forall_eq_or_imp, forall_eq, hg, and_self])) (fun hg => by first | (simp only [Gt, Bool.and_eq_true] at hg; simp only [All, List.cons_append, List.nil_append, List.append_nil, List.mem_cons, List.not_mem_nil, or_false, forall_eq_or_imp, forall_eq, Bool.and_eq_true, hg, Bool.not_false, Bool.not_true, and_self]; done) | (simp only [Gt] at hg; simp only [All, List.cons_append, List.nil_append, List.append_nil, List.mem_cons, List.not_mem_nil, or_false, forall_eq_or_imp, forall_eq, hg, and_self])) Try.underlying4 rfl rfl ?_; clear hC a; intro a hC
  refine L.or hC rfl rfl rfl rfl (fun _ => All.nil) (fun _ hp => by first | (simp only [All, List.cons_append, List.nil_append, List.append_nil, List.mem_cons, List.not_mem_nil, or_false, forall_eq_or_imp, forall_eq, Bool.and_eq_true, hp, Bool.not_false, Bool.not_true, and_self]; done) | simp [All, hp]) rfl rfl ?_; clear hC a; intro a hC
  refine L.pu hC rfl rfl (fun _ => All.nil) rfl rfl ?_; clear hC a; intro a hC
  refine L.fa hC rfl rfl rfl (fun _ => All.nil) Try.underlying56 rfl Try.sizeOf3 rfl rfl rfl ?_; clear hC a; intro a hC
  refine L.ld hC rfl rfl rfl (fun hg => by first | (simp only [Gt, Bool.and_eq_true] at hg; simp only [All, List.cons_append, List.nil_append, List.append_nil, List.mem_cons, List.not_mem_nil, or_false, forall_eq_or_imp, forall_eq, Bool.and_eq_true, hg, Bool.not_false, Bool.not_true, and_self]; done) | (simp only [Gt] at hg; simp only [All, List.cons_append, List.nil_append, List.append_nil, List.mem_cons, List.not_mem_nil, or_false, forall_eq_or_imp, forall_eq, hg, and_self])) m1 Try.isAgg3 rfl rfl rfl ?_; clear hC a; intro a hC
  refine L.fa hC rfl rfl rfl (fun _ => All.nil) Try.underlying56 rfl Try.sizeOf3 rfl rfl rfl ?_; clear hC a; intro a hC
  refine L.ld hC rfl rfl rfl (fun hg => by first | (simp only [Gt, Bool.and_eq_true] at hg; simp only [All, List.cons_append, List.nil_append, List.append_nil, List.mem_cons, List.not_mem_nil, or_false, forall_eq_or_imp, forall_eq, Bool.and_eq_true, hg, Bool.not_false, Bool.not_true, and_self]; done) | (simp only [Gt] at hg; simp only [All, List.cons_append, List.nil_append, List.append_nil, List.mem_cons, List.not_mem_nil, or_false, forall_eq_or_imp, forall_eq, hg, and_self])) m0 Try.isAgg3 rfl rfl rfl ?_; clear hC a; intro a hC
  refine L.pu hC rfl rfl (fun hg => by first | (simp only [Gt, Bool.and_eq_true] at hg; simp only [All, List.cons_append, List.nil_append, List.append_nil, List.mem_cons, List.not_mem_nil, or_false, forall_eq_or_imp, forall_eq, Bool.and_eq_true, hg, Bool.not_false, Bool.not_true, and_self]; done) | (simp only [Gt] at hg; simp only [All, List.cons_append, List.nil_append, List.append_nil, List.mem_cons, List.not_mem_nil, or_false, forall_eq_or_imp, forall_eq, hg, and_self])) rfl rfl ?_; clear hC a; intro a hC
  refine L.or hC rfl rfl rfl rfl (fun _ => All.nil) (fun _ hp => by first | (simp only [All, List.cons_append, List.nil_append, List.append_nil, List.mem_cons, List.not_mem_nil, or_false, forall_eq_or_imp, forall_eq, Bool.and_eq_true, hp, Bool.not_false, Bool.not_true, and_self]; done) | simp [All, hp]) rfl rfl ?_; clear hC a; intro a hC
  refine L.pu hC rfl rfl (fun _ => All.nil) rfl rfl ?_; clear hC a; intro a hC
  refine L.fa hC rfl rfl rfl (fun _ => All.nil) Try.underlying56 rfl Try.sizeOf3 rfl rfl rfl ?_; clear hC a; intro a hC
  refine L.ld hC rfl rfl rfl (fun hg => by first | (simp only [Gt, Bool.and_eq_true] at hg; simp only [All, List.cons_append, List.nil_append, List.append_nil, List.mem_cons, List.not_mem_nil, or_false, forall_eq_or_imp, forall_eq, Bool.and_eq_true, hg, Bool.not_false, Bool.not_true, and_self]; done) | (simp only [Gt] at hg; simp only [All, List.cons_append, List.nil_append, List.append_nil, List.mem_cons, List.not_mem_nil, or_false, forall_eq_or_imp, forall_eq, hg, and_self])) m1 Try.isAgg3 rfl rfl rfl ?_; clear hC a; intro a hC
  refine L.fa hC rfl rfl rfl (fun _ => All.nil) Try.underlying56 rfl Try.sizeOf3 rfl rfl rfl ?_; clear hC a; intro a hC
  refine L.ld hC rfl rfl rfl (fun hg => by first | (simp only [Gt, Bool.and_eq_true] at hg; simp only [All, List.cons_append, List.nil_append, List.append_nil, List.mem_cons, List.not_mem_nil, or_false, forall_eq_or_imp, forall_eq, Bool.and_eq_true, hg, Bool.not_false, Bool.not_true, and_self]; done) | (simp only [Gt] at hg; simp only [All, List.cons_append, List.nil_append, List.append_nil, List.mem_cons, List.not_mem_nil, or_false, forall_eq_or_imp, forall_eq, hg, and_self])) m0 Try.isAgg3 rfl rfl rfl ?_; clear hC a; intro a hC
  refine L.pu hC rfl rfl (fun hg => by first | (simp only [Gt, Bool.and_eq_true] at hg; simp only [All, List.cons_append, List.nil_append, List.append_nil, List.mem_cons, List.not_mem_nil, or_false, forall_eq_or_imp, forall_eq, Bool.and_eq_true, hg, Bool.not_false, Bool.not_true, and_self]; done) | (simp only [Gt] at hg; simp only [All, List.cons_append, List.nil_append, List.append_nil, List.mem_cons, List.not_mem_nil, or_false, forall_eq_or_imp, forall_eq, hg, and_self])) rfl rfl ?_; clear hC a; intro a hC
  refine L.or hC rfl rfl rfl rfl (fun _ => All.nil) (fun _ hp => by first | (simp only [All, List.cons_append, List.nil_append, List.append_nil, List.mem_cons, List.not_mem_nil, or_false, forall_eq_or_imp, forall_eq, Bool.and_eq_true, hp, Bool.not_false, Bool.not_true, and_self]; done) | simp [All, hp]) rfl rfl ?_; clear hC a; intro a hC
  refine L.pu hC rfl rfl (fun _ => All.nil) rfl rfl ?_; clear hC a; intro a hC
  refine L.fa hC rfl rfl rfl (fun _ => All.nil) Try.underlying56 rfl Try.sizeOf3 rfl rfl rfl ?_; clear hC a; intro a hC
  refine L.ld hC rfl rfl rfl (fun hg => by first | (simp only [Gt, Bool.and_eq_true] at hg; simp only [All, List.cons_append, List.nil_append, List.append_nil, List.mem_cons, List.not_mem_nil, or_false, forall_eq_or_imp, forall_eq, Bool.and_eq_true, hg, Bool.not_false, Bool.not_true, and_self]; done) | (simp only [Gt] at hg; simp only [All, List.cons_append, List.nil_append, List.append_nil, List.mem_cons, List.not_mem_nil, or_false, forall_eq_or_imp, forall_eq, hg, and_self])) m1 Try.isAgg3 rfl rfl rfl ?_; clear hC a; intro a hC
  refine L.fa hC rfl rfl rfl (fun _ => All.nil) Try.underlying56 rfl Try.sizeOf3 rfl rfl rfl ?_; clear hC a; intro a hC
  refine L.ld hC rfl rfl rfl (fun hg => by first | (simp only [Gt, Bool.and_eq_true] at hg; simp only [All, List.cons_append, List.nil_append, List.append_nil, List.mem_cons, List.not_mem_nil, or_false, forall_eq_or_imp, forall_eq, Bool.and_eq_true, hg, Bool.not_false, Bool.not_true, and_self]; done) | (simp only [Gt] at hg; simp only [All, List.cons_append, List.nil_append, List.append_nil, List.mem_cons, List.not_mem_nil, or_false, forall_eq_or_imp, forall_eq, hg, and_self])) m0 Try.isAgg3 rfl rfl rfl ?_; clear hC a; intro a hC
  refine L.pu hC rfl rfl (fun hg => by first | (simp only [Gt, Bool.and_eq_true] at hg; simp only [All, List.cons_append, List.nil_append, List.append_nil, List.mem_cons, List.not_mem_nil, or_false, forall_eq_or_imp, forall_eq, Bool.and_eq_true, hg, Bool.not_false, Bool.not_true, and_self]; done) | (simp only [Gt] at hg; simp only [All, List.cons_append, List.nil_append, List.append_nil, List.mem_cons, List.not_mem_nil, or_false, forall_eq_or_imp, forall_eq, hg, and_self])) rfl rfl ?_; clear hC a; intro a hC
  refine L.or hC rfl rfl rfl rfl (fun _ => All.nil) (fun _ hp => by first | (simp only [All, List.cons_append, List.nil_append, List.append_nil, List.mem_cons, List.not_mem_nil, or_false, forall_eq_or_imp, forall_eq, Bool.and_eq_true, hp, Bool.not_false, Bool.not_true, and_self]; done) | simp [All, hp]) rfl rfl ?_; clear hC a; intro a hC
  refine L.pu hC rfl rfl (fun _ => All.nil) rfl rfl ?_; clear hC a; intro a hC
  refine L.fa hC rfl rfl rfl (fun _ => All.nil) Try.underlying56 rfl Try.sizeOf54 rfl rfl rfl ?_; clear hC a; intro a hC
  refine L.ld hC rfl rfl rfl (fun hg => by first | (simp only [Gt, Bool.and_eq_true] at hg; simp only [All, List.cons_append, List.nil_append, List.append_nil, List.mem_cons, List.not_mem_nil, or_false, forall_eq_or_imp, forall_eq, Bool.and_eq_true, hg, Bool.not_false, Bool.not_true, and_self]; done) | (simp only [Gt] at hg; simp only [All, List.cons_append, List.nil_append, List.append_nil, List.mem_cons, List.not_mem_nil, or_false, forall_eq_or_imp, forall_eq, hg, and_self])) m1 Try.isAgg54 rfl rfl rfl ?_; clear hC a; intro a hC
  refine L.len hC rfl rfl rfl (fun hg => by first | (simp only [Gt, Bool.and_eq_true] at hg; simp only [All, List.cons_append, List.nil_append, List.append_nil, List.mem_cons, List.not_mem_nil, or_false, forall_eq_or_imp, forall_eq, Bool.and_eq_true, hg, Bool.not_false, Bool.not_true, and_self]; done) | (simp only [Gt] at hg; simp only [All, List.cons_append, List.nil_append, List.append_nil, List.mem_cons, List.not_mem_nil, or_false, forall_eq_or_imp, forall_eq, hg, and_self])) (rd_form (hC.at m2)) Try.underlying54 rfl rfl ?_; clear hC a; intro a hC
  refine L.fa hC rfl rfl rfl (fun _ => All.nil) Try.underlying56 rfl Try.sizeOf54 rfl rfl rfl ?_; clear hC a; intro a hC
  refine L.ld hC rfl rfl rfl (fun hg => by first | (simp only [Gt, Bool.and_eq_true] at hg; simp only [All, List.cons_append, List.nil_append, List.append_nil, List.mem_cons, List.not_mem_nil, or_false, forall_eq_or_imp, forall_eq, Bool.and_eq_true, hg, Bool.not_false, Bool.not_true, and_self]; done) | (simp only [Gt] at hg; simp only [All, List.cons_append, List.nil_append, List.append_nil, List.mem_cons, List.not_mem_nil, or_false, forall_eq_or_imp, forall_eq, hg, and_self])) m0 Try.isAgg54 rfl rfl rfl ?_; clear hC a; intro a hC
  refine L.len hC rfl rfl rfl (fun hg => by first | (simp only [Gt, Bool.and_eq_true] at hg; simp only [All, List.cons_append, List.nil_append, List.append_nil, List.mem_cons, List.not_mem_nil, or_false, forall_eq_or_imp, forall_eq, Bool.and_eq_true, hg, Bool.not_false, Bool.not_true, and_self]; done) | (simp only [Gt] at hg; simp only [All, List.cons_append, List.nil_append, List.append_nil, List.mem_cons, List.not_mem_nil, or_false, forall_eq_or_imp, forall_eq, hg, and_self])) (rd_form (hC.at m3)) Try.underlying54 rfl rfl ?_; clear hC a; intro a hC
  refine L.pu hC rfl rfl (fun hg => by first | (simp only [Gt, Bool.and_eq_true] at hg; simp only [All, List.cons_append, List.nil_append, List.append_nil, List.mem_cons, List.not_mem_nil, or_false, forall_eq_or_imp, forall_eq, Bool.and_eq_true, hg, Bool.not_false, Bool.not_true, and_self]; done) | (simp only [Gt] at hg; simp only [All, List.cons_append, List.nil_append, List.append_nil, List.mem_cons, List.not_mem_nil, or_false, forall_eq_or_imp, forall_eq, hg, and_self])) rfl rfl ?_; clear hC a; intro a hC
  refine L.or hC rfl rfl rfl rfl (fun _ => All.nil) (fun _ hp => by first | (simp only [All, List.cons_append, List.nil_append, List.append_nil, List.mem_cons, List.not_mem_nil, or_false, forall_eq_or_imp, forall_eq, Bool.and_eq_true, hp, Bool.not_false, Bool.not_true, and_self]; done) | simp [All, hp]) rfl rfl ?_; clear hC a; intro a hC
  refine L.nil ?_
  refine hk3 _ _ ?_; clear hk3; try clear k3
  refine W.cond hC rfl (fun h1 => ?_) (fun h1 => ?_)
  ·
    exact absurd (show (((((((c.num != c.num || !veqs (opE c.op) (opE c.op)) || c.once != c.once) || c.at' != c.at') || c.dl != c.dl) || c.nx != c.nx) || ((l.length : Int) != l.length))) = true from h1) (by simp [opE, veqs, veq])
  ·
    refine W.skip ?_
    refine hk2 _ _ ?_; clear hk2; try clear k2
    refine W.seqk fun k4 hk4 => ?_
    refine W.seqk fun k5 hk5 => ?_
    refine W.region ?_
    refine L.pu hC rfl rfl (fun _ => All.nil) rfl rfl ?_; clear hC a; intro a hC
    refine L.nil ?_
    refine hk5 _ _ ?_; clear hk5; try clear k5
    refine W.block ?_
    replace hC := hC.fr3
    replace hC := hC.fr3
    replace hC := hC.fr2
    replace hC := hC.fr3
    refine W.loop (fun (j : Nat) a w' => (j ≤ l.length) ∧ Conf 73 Nob w0 [(5, (none, .int .i64 (j : Int))), (2, (none, .pointer (some ⟨xb, 0, none⟩))), (3, (none, .pointer (some ⟨yb, 0, none⟩)))] [blkR xb (callE c (.slice vA l.length vc)) 56, blkR yb (callE c (.slice uA l.length uc)) 56, rdR (.slice vA l.length vc) attE l, rdR (.slice uA l.length uc) attE l] a w') (fun (j : Nat) => l.length - j) 0 ?_ ?_
    · exact ⟨Nat.zero_le _, hC.keep ⟨rfl, rfl, rfl, trivial⟩⟩
    · rintro j a w ⟨hj, hC⟩
      refine W.seqk fun k6 hk6 => ?_
      refine W.seqk fun k7 hk7 => ?_
      refine W.region ?_
      refine L.pu hC rfl rfl (fun _ => All.nil) rfl rfl ?_; clear hC a; intro a hC
      refine L.fa hC rfl rfl rfl (fun _ => All.nil) Try.underlying56 rfl Try.sizeOf54 rfl rfl rfl ?_; clear hC a; intro a hC
      refine L.ld hC rfl rfl rfl (fun _ => All.nil) m0 Try.isAgg54 rfl rfl rfl ?_; clear hC a; intro a hC
      refine L.len hC rfl rfl rfl (fun _ => All.nil) (rd_form (hC.at m2)) Try.underlying54 rfl rfl ?_; clear hC a; intro a hC
      refine L.pu hC rfl rfl (fun _ => All.nil) rfl rfl ?_; clear hC a; intro a hC
      refine L.nil ?_
      refine hk7 _ _ ?_; clear hk7; try clear k7
      refine W.cond hC rfl (fun h2 => ?_) (fun h2 => ?_)
      ·
        have h2 := of_decide_eq_true h2
        refine W.skip ?_
        refine hk6 _ _ ?_; clear hk6; try clear k6
        refine W.seqk fun k8 hk8 => ?_
        refine W.block ?_
        refine W.seqk fun k9 hk9 => ?_
        refine W.drawD hC Try.mixed rfl rfl ?_
        apply DRN.cons (.det _ _) rfl
        · intro a w hC
          refine L.fa hC rfl rfl rfl (fun _ => All.nil) Try.underlying56 rfl Try.sizeOf54 rfl rfl rfl ?_; clear hC a; intro a hC
          exact L.nil ⟨⟨_, [], hC⟩, Frm.refl _ _⟩
        apply DRN.cons (.det _ _) rfl
        · intro a w hC
          refine L.ld hC rfl rfl rfl (fun _ => All.nil) m0 Try.isAgg54 rfl rfl rfl ?_; clear hC a; intro a hC
          exact L.nil ⟨⟨_, [], hC⟩, Frm.refl _ _⟩
        apply DRN.cons (.det _ _) rfl
        · intro a w hC
          refine L.pu hC rfl rfl (fun _ => All.nil) rfl rfl ?_; clear hC a; intro a hC
          exact L.nil ⟨⟨_, [], hC⟩, Frm.refl _ _⟩
        apply DRN.cons (.det _ _) rfl
        · intro a w hC
          refine L.ixr hC rfl rfl rfl rfl m2 (fun _ => All.nil) (fun _ => All.nil) Try.underlying54 Try.sizeOf65 (fun _ => by omega) rfl rfl ?_; clear hC a; intro a hC
          exact L.nil ⟨⟨_, [], hC⟩, Frm.refl _ _⟩
        apply DRN.cons (.det _ _) rfl
        · intro a w hC
          refine L.ldxa hC rfl rfl rfl rfl (fun _ => All.nil) (fun hg => rd_bang hC m2 (by omega) _) Try.isAgg65 Try.sizeOf65 rfl rfl rfl rfl ?_; clear hC a; intro a hC
          exact L.nil ⟨⟨_, [], hC⟩, Frm.refl _ _⟩
        apply DRN.cons (.det _ _) rfl
        · intro a w hC
          refine L.fa hC rfl rfl rfl (fun _ => All.nil) Try.underlying56 rfl Try.sizeOf54 rfl rfl rfl ?_; clear hC a; intro a hC
          exact L.nil ⟨⟨_, [], hC⟩, Frm.refl _ _⟩
        apply DRN.cons (.det _ _) rfl
        · intro a w hC
          refine L.ld hC rfl rfl rfl (fun _ => All.nil) m1 Try.isAgg54 rfl rfl rfl ?_; clear hC a; intro a hC
          exact L.nil ⟨⟨_, [], hC⟩, Frm.refl _ _⟩
        apply DRN.cons (.det _ _) rfl
        · intro a w hC
          refine L.pu hC rfl rfl (fun _ => All.nil) rfl rfl ?_; clear hC a; intro a hC
          exact L.nil ⟨⟨_, [], hC⟩, Frm.refl _ _⟩
        apply DRN.cons (.det _ _) rfl
        · intro a w hC
          refine L.ixr hC rfl rfl rfl rfl m3 (fun _ => All.nil) (fun _ => All.nil) Try.underlying54 Try.sizeOf65 (fun _ => by omega) rfl rfl ?_; clear hC a; intro a hC
          exact L.nil ⟨⟨_, [], hC⟩, Frm.refl _ _⟩
        apply DRN.cons (.det _ _) rfl
        · intro a w hC
          refine L.ldxa hC rfl rfl rfl rfl (fun _ => All.nil) (fun hg => rd_bang hC m3 (by omega) _) Try.isAgg65 Try.sizeOf65 rfl rfl rfl rfl ?_; clear hC a; intro a hC
          exact L.nil ⟨⟨_, [], hC⟩, Frm.refl _ _⟩
        apply DRN.cons (.det _ _) rfl
        · intro a w hC
          refine L.bin hC rfl rfl rfl rfl (fun _ => All.nil) (fun _ => All.nil) (fun _ => run_neS Try.underlying65 Try.stoodInHeld65 Try.eqGuardType65 ⟨⟨rfl, rfl, ⟨_, Try.underlying3⟩⟩, ⟨rfl, rfl, ⟨_, Try.underlying3⟩⟩, ⟨rfl, rfl, ⟨_, Try.underlying3⟩⟩, ⟨rfl, rfl, ⟨_, Try.underlying3⟩⟩, ⟨rfl, rfl, ⟨_, Try.underlying3⟩⟩, ⟨rfl, rfl, Try.underlying4⟩, ⟨rfl, rfl, Try.underlying4⟩, ⟨rfl, rfl, Try.underlying4⟩, trivial⟩ rfl) rfl rfl ?_; clear hC a; intro a hC
          exact L.nil ⟨⟨_, [], hC⟩, Frm.refl _ _⟩
        refine DRN.nil (fun w' hF => ?_)
        intro a w hC hw
        subst hw
        refine hk9 _ _ ?_; clear hk9; try clear k9
        refine W.cond hC rfl (fun h3 => ?_) (fun h3 => ?_)
        ·
          exact absurd (show (!veqs (attE.enc l[j]!) (attE.enc l[j]!)) = true from h3) (by simp [attE, veqs, veq])
        ·
          refine W.skip ?_
          refine hk8 _ _ ?_; clear hk8; try clear k8
          refine W.region ?_
          refine L.pu hC rfl rfl (fun _ => All.nil) rfl rfl ?_; clear hC a; intro a hC
          refine L.pu hC rfl rfl (fun _ => All.nil) rfl rfl ?_; clear hC a; intro a hC
          refine L.pu hC rfl rfl (fun _ => All.nil) rfl rfl ?_; clear hC a; intro a hC
          refine L.nil ?_
          replace hC := hC.fr3
          replace hC := hC.fr3
          replace hC := hC.fr3
          replace hC := hC.fr3
          exact ⟨j + 1, ⟨by omega, hC.keep ⟨geti rfl (w64 (by omega)), rfl, rfl, trivial⟩⟩, by first | omega | (dsimp only; omega)⟩
      ·
        have h2 := of_decide_eq_false h2
        refine W.exit ?_
        refine Kb.here ?_
        refine hk4 _ _ ?_; clear hk4; try clear k4
        refine W.seqk fun k10 hk10 => ?_
        refine W.region ?_
        refine L.pu hC rfl rfl (fun _ => All.nil) rfl rfl ?_; clear hC a; intro a hC
        refine L.nil ?_
        refine hk10 _ _ ?_; clear hk10; try clear k10
        refine W.ret ?_
        refine rets hC rfl (.tmp rfl .nil) ?_
        exact ⟨rfl, hC.frm⟩

theorem Planr_ok (c : CallH) (v : Value) (s : CSet) (l : List Att) (tick wait : Int) (w0 : World) (hr : (rdR v attE l).ok w0) : Calls Try.prog 36 #[.agg (callE c v).toArray, .agg (csE s).toArray, .int .i64 tick, .int .i64 wait] w0 fun e w' => e = .returned (.tuple #[.int .i64 (planT c s l tick wait).1, .int .i64 (planT c s l tick wait).2]) ∧ Frm Nob w0 w' := by
  obtain ⟨vA, vc, hv, _, _⟩ := id hr
  subst hv
  have hlen := rd_lt hr
  refine enter (μ := [rdR (.slice vA l.length vc) attE l]) (S := Nob) (vs := [.agg (callE c (.slice vA l.length vc)).toArray, .agg (csE s).toArray, .int .i64 tick, .int .i64 wait]) Try.func36 rfl Try.ntmps36 rfl ⟨by simpa using hr, by simp⟩ (by simp [rdR]) (fun a hC => ?_)
  refine W.seqk fun k1 hk1 => ?_
  refine W.region ?_
  refine L.box hC rfl rfl rfl rfl rfl rfl ?_; clear hC a; intro cb a w hF hC
  refine L.box hC rfl rfl rfl rfl rfl rfl ?_; clear hC a; intro sb a w hF hC
  refine L.pu hC rfl rfl (fun _ => All.nil) rfl rfl ?_; clear hC a; intro a hC
  refine L.pu hC rfl rfl (fun _ => All.nil) rfl rfl ?_; clear hC a; intro a hC
  refine L.nil ?_
  refine hk1 _ _ ?_; clear hk1; try clear k1
  refine W.seqk fun k2 hk2 => ?_
  refine W.region ?_
  refine L.lda hC rfl rfl rfl (fun _ => All.nil) m1 Try.isAgg56 Try.sizeOf56 rfl rfl rfl rfl ?_; clear hC a; intro a hC
  refine L.lda hC rfl rfl rfl (fun _ => All.nil) m0 Try.isAgg60 Try.sizeOf60 rfl rfl rfl rfl ?_; clear hC a; intro a hC
  refine L.call hC rfl rfl Try.call39 rfl (fun _ => All.nil) (fun hg => chkr_ok c _ s l _ (hC.at m2)) rfl rfl ?_; clear hC a; intro a w hF hC
  refine L.pu hC rfl rfl (fun _ => All.nil) rfl rfl ?_; clear hC a; intro a hC
  refine L.nil ?_
  refine hk2 _ _ ?_; clear hk2; try clear k2
  refine W.seqk fun k3 hk3 => ?_
  refine W.seqk fun k4 hk4 => ?_
  refine W.region ?_
  refine L.pu hC rfl rfl (fun _ => All.nil) rfl rfl ?_; clear hC a; intro a hC
  refine L.pu hC rfl rfl (fun _ => All.nil) rfl rfl ?_; clear hC a; intro a hC
  refine L.nil ?_
  refine hk4 _ _ ?_; clear hk4; try clear k4
  refine W.cond hC rfl (fun h1 => ?_) (fun h1 => ?_)
  ·
    refine W.seqk fun k5 hk5 => ?_
    refine W.region ?_
    refine L.pu hC rfl rfl (fun _ => All.nil) rfl rfl ?_; clear hC a; intro a hC
    refine L.pu hC rfl rfl (fun _ => All.nil) rfl rfl ?_; clear hC a; intro a hC
    refine L.pu hC rfl rfl (fun _ => All.nil) rfl rfl ?_; clear hC a; intro a hC
    refine L.nil ?_
    refine hk5 _ _ ?_; clear hk5; try clear k5
    refine W.ret ?_
    refine retl hC rfl (.tmp rfl (.tmp rfl .nil)) rfl ?_
    exact ⟨(by rw [planr_a h1]), hC.frm⟩
  ·
    refine W.skip ?_
    refine hk3 _ _ ?_; clear hk3; try clear k3
    refine W.seqk fun k6 hk6 => ?_
    refine W.region ?_
    refine L.lda hC rfl rfl rfl (fun _ => All.nil) m1 Try.isAgg56 Try.sizeOf56 rfl rfl rfl rfl ?_; clear hC a; intro a hC
    refine L.call hC rfl rfl Try.call83 rfl (fun _ => All.nil) (fun hg => outsr_ok c _ l _ (hC.at m2)) rfl rfl ?_; clear hC a; intro a w hF hC
    refine L.pu hC rfl rfl (fun _ => All.nil) rfl rfl ?_; clear hC a; intro a hC
    refine L.pu hC rfl rfl (fun _ => All.nil) rfl rfl ?_; clear hC a; intro a hC
    refine L.pu hC rfl rfl (fun _ => All.nil) rfl rfl ?_; clear hC a; intro a hC
    refine L.pu hC rfl rfl (fun _ => All.nil) rfl rfl ?_; clear hC a; intro a hC
    refine L.pu hC rfl rfl (fun _ => All.nil) rfl rfl ?_; clear hC a; intro a hC
    refine L.nil ?_
    refine hk6 _ _ ?_; clear hk6; try clear k6
    refine W.seqk fun k7 hk7 => ?_
    refine W.region ?_
    refine L.fa hC rfl rfl rfl (fun _ => All.nil) Try.underlying56 rfl Try.sizeOf54 rfl rfl rfl ?_; clear hC a; intro a hC
    refine L.ld hC rfl rfl rfl (fun _ => All.nil) m1 Try.isAgg54 rfl rfl rfl ?_; clear hC a; intro a hC
    refine L.len hC rfl rfl rfl (fun _ => All.nil) (rd_form (hC.at m2)) Try.underlying54 rfl rfl ?_; clear hC a; intro a hC
    refine L.pu hC rfl rfl (fun _ => All.nil) rfl rfl ?_; clear hC a; intro a hC
    refine L.nil ?_
    refine hk7 _ _ ?_; clear hk7; try clear k7
    refine W.seqk fun k8 hk8 => ?_
    refine W.block ?_
    refine W.seqk fun k9 hk9 => ?_
    refine W.region ?_
    refine L.pu hC rfl rfl (fun _ => All.nil) rfl rfl ?_; clear hC a; intro a hC
    refine L.fa hC rfl rfl rfl (fun _ => All.nil) Try.underlying56 rfl Try.sizeOf3 rfl rfl rfl ?_; clear hC a; intro a hC
    refine L.ld hC rfl rfl rfl (fun _ => All.nil) m1 Try.isAgg3 rfl rfl rfl ?_; clear hC a; intro a hC
    refine L.pu hC rfl rfl (fun _ => All.nil) rfl rfl ?_; clear hC a; intro a hC
    refine L.pu hC rfl rfl (fun _ => All.nil) rfl rfl ?_; clear hC a; intro a hC
    refine L.nil ?_
    refine hk9 _ _ ?_; clear hk9; try clear k9
    refine W.cond hC rfl (fun h2 => ?_) (fun h2 => ?_)
    ·
      refine W.seqk fun k10 hk10 => ?_
      refine W.region ?_
      refine L.pu hC rfl rfl (fun _ => All.nil) rfl rfl ?_; clear hC a; intro a hC
      refine L.pu hC rfl rfl (fun _ => All.nil) rfl rfl ?_; clear hC a; intro a hC
      refine L.nil ?_
      refine hk10 _ _ ?_; clear hk10; try clear k10
      refine W.ret ?_
      refine retl hC rfl (.tmp rfl (.tmp rfl .nil)) rfl ?_
      exact ⟨(by rw [planr_b h1 h2]), hC.frm⟩
    ·
      refine W.seqk fun k11 hk11 => ?_
      refine W.region ?_
      refine L.pu hC rfl rfl (fun _ => All.nil) rfl rfl ?_; clear hC a; intro a hC
      refine L.pu hC rfl rfl (fun _ => All.nil) rfl rfl ?_; clear hC a; intro a hC
      refine L.pu hC rfl rfl (fun _ => All.nil) rfl rfl ?_; clear hC a; intro a hC
      refine L.nil ?_
      refine hk11 _ _ ?_; clear hk11; try clear k11
      refine W.cond hC rfl (fun h3 => ?_) (fun h3 => ?_)
      ·
        refine W.seqk fun k12 hk12 => ?_
        refine W.region ?_
        refine L.pu hC rfl rfl (fun _ => All.nil) rfl rfl ?_; clear hC a; intro a hC
        refine L.pu hC rfl rfl (fun _ => All.nil) rfl rfl ?_; clear hC a; intro a hC
        refine L.nil ?_
        refine hk12 _ _ ?_; clear hk12; try clear k12
        refine W.ret ?_
        refine retl hC rfl (.tmp rfl (.tmp rfl .nil)) rfl ?_
        exact ⟨(by rw [planr_c h1 h2 h3]), hC.frm⟩
      ·
        refine W.seqk fun k13 hk13 => ?_
        refine W.region ?_
        refine L.pu hC rfl rfl (fun _ => All.nil) rfl rfl ?_; clear hC a; intro a hC
        refine L.pu hC rfl rfl (fun _ => All.nil) rfl rfl ?_; clear hC a; intro a hC
        refine L.pu hC rfl rfl (fun _ => All.nil) rfl rfl ?_; clear hC a; intro a hC
        refine L.pu hC rfl rfl (fun _ => All.nil) rfl rfl ?_; clear hC a; intro a hC
        refine L.fa hC rfl rfl rfl (fun _ => All.nil) Try.underlying60 rfl Try.sizeOf3 rfl rfl rfl ?_; clear hC a; intro a hC
        refine L.ld hC rfl rfl rfl (fun hg => by first | (simp only [Gt, Bool.and_eq_true] at hg; simp only [All, List.cons_append, List.nil_append, List.append_nil, List.mem_cons, List.not_mem_nil, or_false, forall_eq_or_imp, forall_eq, Bool.and_eq_true, hg, Bool.not_false, Bool.not_true, and_self]; done) | (simp only [Gt] at hg; simp only [All, List.cons_append, List.nil_append, List.append_nil, List.mem_cons, List.not_mem_nil, or_false, forall_eq_or_imp, forall_eq, hg, and_self])) m0 Try.isAgg3 rfl rfl rfl ?_; clear hC a; intro a hC
        refine L.pu hC rfl rfl (fun hg => by first | (simp only [Gt, Bool.and_eq_true] at hg; simp only [All, List.cons_append, List.nil_append, List.append_nil, List.mem_cons, List.not_mem_nil, or_false, forall_eq_or_imp, forall_eq, Bool.and_eq_true, hg, Bool.not_false, Bool.not_true, and_self]; done) | (simp only [Gt] at hg; simp only [All, List.cons_append, List.nil_append, List.append_nil, List.mem_cons, List.not_mem_nil, or_false, forall_eq_or_imp, forall_eq, hg, and_self])) rfl rfl ?_; clear hC a; intro a hC
        refine L.and hC rfl rfl rfl rfl (fun _ => All.nil) (fun _ hp => by first | (simp only [All, List.cons_append, List.nil_append, List.append_nil, List.mem_cons, List.not_mem_nil, or_false, forall_eq_or_imp, forall_eq, Bool.and_eq_true, hp, Bool.not_false, Bool.not_true, and_self]; done) | simp [All, hp]) rfl rfl ?_; clear hC a; intro a hC
        refine L.pu hC rfl rfl (fun _ => All.nil) rfl rfl ?_; clear hC a; intro a hC
        refine L.pu hC rfl rfl (fun _ => All.nil) rfl rfl ?_; clear hC a; intro a hC
        refine L.fa hC rfl rfl rfl (fun _ => All.nil) Try.underlying56 rfl Try.sizeOf3 rfl rfl rfl ?_; clear hC a; intro a hC
        refine L.ld hC rfl rfl rfl (fun hg => by first | (simp only [Gt, Bool.and_eq_true] at hg; simp only [All, List.cons_append, List.nil_append, List.append_nil, List.mem_cons, List.not_mem_nil, or_false, forall_eq_or_imp, forall_eq, Bool.and_eq_true, hg, Bool.not_false, Bool.not_true, and_self]; done) | (simp only [Gt] at hg; simp only [All, List.cons_append, List.nil_append, List.append_nil, List.mem_cons, List.not_mem_nil, or_false, forall_eq_or_imp, forall_eq, hg, and_self])) m1 Try.isAgg3 rfl rfl rfl ?_; clear hC a; intro a hC
        refine L.pu hC rfl rfl (fun hg => by first | (simp only [Gt, Bool.and_eq_true] at hg; simp only [All, List.cons_append, List.nil_append, List.append_nil, List.mem_cons, List.not_mem_nil, or_false, forall_eq_or_imp, forall_eq, Bool.and_eq_true, hg, Bool.not_false, Bool.not_true, and_self]; done) | (simp only [Gt] at hg; simp only [All, List.cons_append, List.nil_append, List.append_nil, List.mem_cons, List.not_mem_nil, or_false, forall_eq_or_imp, forall_eq, hg, and_self])) rfl rfl ?_; clear hC a; intro a hC
        refine L.and hC rfl rfl rfl rfl (fun _ => All.nil) (fun _ hp => by first | (simp only [All, List.cons_append, List.nil_append, List.append_nil, List.mem_cons, List.not_mem_nil, or_false, forall_eq_or_imp, forall_eq, Bool.and_eq_true, hp, Bool.not_false, Bool.not_true, and_self]; done) | simp [All, hp]) rfl rfl ?_; clear hC a; intro a hC
        refine L.pu hC rfl rfl (fun _ => All.nil) rfl rfl ?_; clear hC a; intro a hC
        refine L.nil ?_
        refine hk13 _ _ ?_; clear hk13; try clear k13
        refine W.cond hC rfl (fun h4 => ?_) (fun h4 => ?_)
        ·
          refine W.seqk fun k14 hk14 => ?_
          refine W.region ?_
          refine L.pu hC rfl rfl (fun _ => All.nil) rfl rfl ?_; clear hC a; intro a hC
          refine L.pu hC rfl rfl (fun _ => All.nil) rfl rfl ?_; clear hC a; intro a hC
          refine L.nil ?_
          refine hk14 _ _ ?_; clear hk14; try clear k14
          refine W.ret ?_
          refine retl hC rfl (.tmp rfl (.tmp rfl .nil)) rfl ?_
          exact ⟨(by rw [planr_d h1 h2 h3 h4]), hC.frm⟩
        ·
          refine W.seqk fun k15 hk15 => ?_
          refine W.region ?_
          refine L.pu hC rfl rfl (fun _ => All.nil) rfl rfl ?_; clear hC a; intro a hC
          refine L.pu hC rfl rfl (fun _ => All.nil) rfl rfl ?_; clear hC a; intro a hC
          refine L.pu hC rfl rfl (fun _ => All.nil) rfl rfl ?_; clear hC a; intro a hC
          refine L.fa hC rfl rfl rfl (fun _ => All.nil) Try.underlying56 rfl Try.sizeOf4 rfl rfl rfl ?_; clear hC a; intro a hC
          refine L.ld hC rfl rfl rfl (fun hg => by first | (simp only [Gt, Bool.and_eq_true] at hg; simp only [All, List.cons_append, List.nil_append, List.append_nil, List.mem_cons, List.not_mem_nil, or_false, forall_eq_or_imp, forall_eq, Bool.and_eq_true, hg, Bool.not_false, Bool.not_true, and_self]; done) | (simp only [Gt] at hg; simp only [All, List.cons_append, List.nil_append, List.append_nil, List.mem_cons, List.not_mem_nil, or_false, forall_eq_or_imp, forall_eq, hg, and_self])) m1 Try.isAgg4 rfl rfl rfl ?_; clear hC a; intro a hC
          refine L.pu hC rfl rfl (fun hg => by first | (simp only [Gt, Bool.and_eq_true] at hg; simp only [All, List.cons_append, List.nil_append, List.append_nil, List.mem_cons, List.not_mem_nil, or_false, forall_eq_or_imp, forall_eq, Bool.and_eq_true, hg, Bool.not_false, Bool.not_true, and_self]; done) | (simp only [Gt] at hg; simp only [All, List.cons_append, List.nil_append, List.append_nil, List.mem_cons, List.not_mem_nil, or_false, forall_eq_or_imp, forall_eq, hg, and_self])) rfl rfl ?_; clear hC a; intro a hC
          refine L.and hC rfl rfl rfl rfl (fun _ => All.nil) (fun _ hp => by first | (simp only [All, List.cons_append, List.nil_append, List.append_nil, List.mem_cons, List.not_mem_nil, or_false, forall_eq_or_imp, forall_eq, Bool.and_eq_true, hp, Bool.not_false, Bool.not_true, and_self]; done) | simp [All, hp]) rfl rfl ?_; clear hC a; intro a hC
          refine L.pu hC rfl rfl (fun _ => All.nil) rfl rfl ?_; clear hC a; intro a hC
          refine L.pu hC rfl rfl (fun _ => All.nil) rfl rfl ?_; clear hC a; intro a hC
          refine L.fa hC rfl rfl rfl (fun _ => All.nil) Try.underlying60 rfl Try.sizeOf3 rfl rfl rfl ?_; clear hC a; intro a hC
          refine L.ld hC rfl rfl rfl (fun hg => by first | (simp only [Gt, Bool.and_eq_true] at hg; simp only [All, List.cons_append, List.nil_append, List.append_nil, List.mem_cons, List.not_mem_nil, or_false, forall_eq_or_imp, forall_eq, Bool.and_eq_true, hg, Bool.not_false, Bool.not_true, and_self]; done) | (simp only [Gt] at hg; simp only [All, List.cons_append, List.nil_append, List.append_nil, List.mem_cons, List.not_mem_nil, or_false, forall_eq_or_imp, forall_eq, hg, and_self])) m0 Try.isAgg3 rfl rfl rfl ?_; clear hC a; intro a hC
          refine L.pu hC rfl rfl (fun hg => by first | (simp only [Gt, Bool.and_eq_true] at hg; simp only [All, List.cons_append, List.nil_append, List.append_nil, List.mem_cons, List.not_mem_nil, or_false, forall_eq_or_imp, forall_eq, Bool.and_eq_true, hg, Bool.not_false, Bool.not_true, and_self]; done) | (simp only [Gt] at hg; simp only [All, List.cons_append, List.nil_append, List.append_nil, List.mem_cons, List.not_mem_nil, or_false, forall_eq_or_imp, forall_eq, hg, and_self])) rfl rfl ?_; clear hC a; intro a hC
          refine L.and hC rfl rfl rfl rfl (fun _ => All.nil) (fun _ hp => by first | (simp only [All, List.cons_append, List.nil_append, List.append_nil, List.mem_cons, List.not_mem_nil, or_false, forall_eq_or_imp, forall_eq, Bool.and_eq_true, hp, Bool.not_false, Bool.not_true, and_self]; done) | simp [All, hp]) rfl rfl ?_; clear hC a; intro a hC
          refine L.pu hC rfl rfl (fun _ => All.nil) rfl rfl ?_; clear hC a; intro a hC
          refine L.pu hC rfl rfl (fun _ => All.nil) rfl rfl ?_; clear hC a; intro a hC
          refine L.fa hC rfl rfl rfl (fun _ => All.nil) Try.underlying60 rfl Try.sizeOf3 rfl rfl rfl ?_; clear hC a; intro a hC
          refine L.ld hC rfl rfl rfl (fun hg => by first | (simp only [Gt, Bool.and_eq_true] at hg; simp only [All, List.cons_append, List.nil_append, List.append_nil, List.mem_cons, List.not_mem_nil, or_false, forall_eq_or_imp, forall_eq, Bool.and_eq_true, hg, Bool.not_false, Bool.not_true, and_self]; done) | (simp only [Gt] at hg; simp only [All, List.cons_append, List.nil_append, List.append_nil, List.mem_cons, List.not_mem_nil, or_false, forall_eq_or_imp, forall_eq, hg, and_self])) m0 Try.isAgg3 rfl rfl rfl ?_; clear hC a; intro a hC
          refine L.pu hC rfl rfl (fun hg => by first | (simp only [Gt, Bool.and_eq_true] at hg; simp only [All, List.cons_append, List.nil_append, List.append_nil, List.mem_cons, List.not_mem_nil, or_false, forall_eq_or_imp, forall_eq, Bool.and_eq_true, hg, Bool.not_false, Bool.not_true, and_self]; done) | (simp only [Gt] at hg; simp only [All, List.cons_append, List.nil_append, List.append_nil, List.mem_cons, List.not_mem_nil, or_false, forall_eq_or_imp, forall_eq, hg, and_self])) rfl rfl ?_; clear hC a; intro a hC
          refine L.and hC rfl rfl rfl rfl (fun _ => All.nil) (fun _ hp => by first | (simp only [All, List.cons_append, List.nil_append, List.append_nil, List.mem_cons, List.not_mem_nil, or_false, forall_eq_or_imp, forall_eq, Bool.and_eq_true, hp, Bool.not_false, Bool.not_true, and_self]; done) | simp [All, hp]) rfl rfl ?_; clear hC a; intro a hC
          refine L.pu hC rfl rfl (fun _ => All.nil) rfl rfl ?_; clear hC a; intro a hC
          refine L.pu hC rfl rfl (fun _ => All.nil) rfl rfl ?_; clear hC a; intro a hC
          refine L.fa hC rfl rfl rfl (fun _ => All.nil) Try.underlying56 rfl Try.sizeOf54 rfl rfl rfl ?_; clear hC a; intro a hC
          refine L.ld hC rfl rfl rfl (fun hg => by first | (simp only [Gt, Bool.and_eq_true] at hg; simp only [All, List.cons_append, List.nil_append, List.append_nil, List.mem_cons, List.not_mem_nil, or_false, forall_eq_or_imp, forall_eq, Bool.and_eq_true, hg, Bool.not_false, Bool.not_true, and_self]; done) | (simp only [Gt] at hg; simp only [All, List.cons_append, List.nil_append, List.append_nil, List.mem_cons, List.not_mem_nil, or_false, forall_eq_or_imp, forall_eq, hg, and_self])) m1 Try.isAgg54 rfl rfl rfl ?_; clear hC a; intro a hC
          refine L.pu hC rfl rfl (fun _ => All.nil) rfl rfl ?_; clear hC a; intro a hC
          refine L.pu hC rfl rfl (fun hg => by first | (simp only [Gt, Bool.and_eq_true] at hg; simp only [All, List.cons_append, List.nil_append, List.append_nil, List.mem_cons, List.not_mem_nil, or_false, forall_eq_or_imp, forall_eq, Bool.and_eq_true, hg, Bool.not_false, Bool.not_true, and_self]; done) | (simp only [Gt] at hg; simp only [All, List.cons_append, List.nil_append, List.append_nil, List.mem_cons, List.not_mem_nil, or_false, forall_eq_or_imp, forall_eq, hg, and_self])) rfl rfl ?_; clear hC a; intro a hC
          refine L.ixr hC rfl rfl rfl rfl m2 (fun hg => by first | (simp only [Gt, Bool.and_eq_true] at hg; simp only [All, List.cons_append, List.nil_append, List.append_nil, List.mem_cons, List.not_mem_nil, or_false, forall_eq_or_imp, forall_eq, Bool.and_eq_true, hg, Bool.not_false, Bool.not_true, and_self]; done) | (simp only [Gt] at hg; simp only [All, List.cons_append, List.nil_append, List.append_nil, List.mem_cons, List.not_mem_nil, or_false, forall_eq_or_imp, forall_eq, hg, and_self])) (fun hg => by first | (simp only [Gt, Bool.and_eq_true] at hg; simp only [All, List.cons_append, List.nil_append, List.append_nil, List.mem_cons, List.not_mem_nil, or_false, forall_eq_or_imp, forall_eq, Bool.and_eq_true, hg, Bool.not_false, Bool.not_true, and_self]; done) | (simp only [Gt] at hg; simp only [All, List.cons_append, List.nil_append, List.append_nil, List.mem_cons, List.not_mem_nil, or_false, forall_eq_or_imp, forall_eq, hg, and_self])) Try.underlying54 Try.sizeOf65 (fun _ => by have := len_pos2 h3; rw [w64 (show -9223372036854775808 ≤ (l.length : Int) - 1 ∧ (l.length : Int) - 1 ≤ 9223372036854775807 by omega)]; omega) rfl rfl ?_; clear hC a; intro a hC
          refine L.fae hC rfl rfl rfl (fun hg => by first | (simp only [Gt, Bool.and_eq_true] at hg; simp only [All, List.cons_append, List.nil_append, List.append_nil, List.mem_cons, List.not_mem_nil, or_false, forall_eq_or_imp, forall_eq, Bool.and_eq_true, hg, Bool.not_false, Bool.not_true, and_self]; done) | (simp only [Gt] at hg; simp only [All, List.cons_append, List.nil_append, List.append_nil, List.mem_cons, List.not_mem_nil, or_false, forall_eq_or_imp, forall_eq, hg, and_self])) Try.underlying65 rfl Try.sizeOf3 rfl (fun hg => rd_some (hC.at m2) (by first | exact len_pos2 h3 | (have := len_pos2 h3; rw [w64 (by omega)]; omega))) rfl rfl ?_; clear hC a; intro a hC
          refine L.ldx hC rfl rfl rfl rfl (fun hg => by first | (simp only [Gt, Bool.and_eq_true] at hg; simp only [All, List.cons_append, List.nil_append, List.append_nil, List.mem_cons, List.not_mem_nil, or_false, forall_eq_or_imp, forall_eq, Bool.and_eq_true, hg, Bool.not_false, Bool.not_true, and_self]; done) | (simp only [Gt] at hg; simp only [All, List.cons_append, List.nil_append, List.append_nil, List.mem_cons, List.not_mem_nil, or_false, forall_eq_or_imp, forall_eq, hg, and_self])) (fun hg => rd_bang hC m2 (by first | exact len_pos2 h3 | (have := len_pos2 h3; rw [w64 (by omega)]; omega)) _) Try.isAgg3 rfl rfl rfl ?_; clear hC a; intro a hC
          refine L.pu hC rfl rfl (fun hg => by first | (simp only [Gt, Bool.and_eq_true] at hg; simp only [All, List.cons_append, List.nil_append, List.append_nil, List.mem_cons, List.not_mem_nil, or_false, forall_eq_or_imp, forall_eq, Bool.and_eq_true, hg, Bool.not_false, Bool.not_true, and_self]; done) | (simp only [Gt] at hg; simp only [All, List.cons_append, List.nil_append, List.append_nil, List.mem_cons, List.not_mem_nil, or_false, forall_eq_or_imp, forall_eq, hg, and_self])) rfl rfl ?_; clear hC a; intro a hC
          refine L.and hC rfl rfl rfl rfl (fun _ => All.nil) (fun _ hp => by first | (simp only [All, List.cons_append, List.nil_append, List.append_nil, List.mem_cons, List.not_mem_nil, or_false, forall_eq_or_imp, forall_eq, Bool.and_eq_true, hp, Bool.not_false, Bool.not_true, and_self]; done) | simp [All, hp]) rfl rfl ?_; clear hC a; intro a hC
          refine L.pu hC rfl rfl (fun _ => All.nil) rfl rfl ?_; clear hC a; intro a hC
          refine L.pu hC rfl rfl (fun _ => All.nil) rfl rfl ?_; clear hC a; intro a hC
          refine L.pu hC rfl rfl (fun _ => All.nil) rfl rfl ?_; clear hC a; intro a hC
          refine L.fa hC rfl rfl rfl (fun _ => All.nil) Try.underlying56 rfl Try.sizeOf54 rfl rfl rfl ?_; clear hC a; intro a hC
          refine L.ld hC rfl rfl rfl (fun hg => by first | (simp only [Gt, Bool.and_eq_true] at hg; simp only [All, List.cons_append, List.nil_append, List.append_nil, List.mem_cons, List.not_mem_nil, or_false, forall_eq_or_imp, forall_eq, Bool.and_eq_true, hg, Bool.not_false, Bool.not_true, and_self]; done) | (simp only [Gt] at hg; simp only [All, List.cons_append, List.nil_append, List.append_nil, List.mem_cons, List.not_mem_nil, or_false, forall_eq_or_imp, forall_eq, hg, and_self])) m1 Try.isAgg54 rfl rfl rfl ?_; clear hC a; intro a hC
          refine L.pu hC rfl rfl (fun _ => All.nil) rfl rfl ?_; clear hC a; intro a hC
          refine L.pu hC rfl rfl (fun hg => by first | (simp only [Gt, Bool.and_eq_true] at hg; simp only [All, List.cons_append, List.nil_append, List.append_nil, List.mem_cons, List.not_mem_nil, or_false, forall_eq_or_imp, forall_eq, Bool.and_eq_true, hg, Bool.not_false, Bool.not_true, and_self]; done) | (simp only [Gt] at hg; simp only [All, List.cons_append, List.nil_append, List.append_nil, List.mem_cons, List.not_mem_nil, or_false, forall_eq_or_imp, forall_eq, hg, and_self])) rfl rfl ?_; clear hC a; intro a hC
          refine L.ixr hC rfl rfl rfl rfl m2 (fun hg => by first | (simp only [Gt, Bool.and_eq_true] at hg; simp only [All, List.cons_append, List.nil_append, List.append_nil, List.mem_cons, List.not_mem_nil, or_false, forall_eq_or_imp, forall_eq, Bool.and_eq_true, hg, Bool.not_false, Bool.not_true, and_self]; done) | (simp only [Gt] at hg; simp only [All, List.cons_append, List.nil_append, List.append_nil, List.mem_cons, List.not_mem_nil, or_false, forall_eq_or_imp, forall_eq, hg, and_self])) (fun hg => by first | (simp only [Gt, Bool.and_eq_true] at hg; simp only [All, List.cons_append, List.nil_append, List.append_nil, List.mem_cons, List.not_mem_nil, or_false, forall_eq_or_imp, forall_eq, Bool.and_eq_true, hg, Bool.not_false, Bool.not_true, and_self]; done) | (simp only [Gt] at hg; simp only [All, List.cons_append, List.nil_append, List.append_nil, List.mem_cons, List.not_mem_nil, or_false, forall_eq_or_imp, forall_eq, hg, and_self])) Try.underlying54 Try.sizeOf65 (fun _ => by have := len_pos2 h3; rw [w64 (show -9223372036854775808 ≤ (l.length : Int) - 1 ∧ (l.length : Int) - 1 ≤ 9223372036854775807 by omega)]; omega) rfl rfl ?_; clear hC a; intro a hC
          refine L.fae hC rfl rfl rfl (fun hg => by first | (simp only [Gt, Bool.and_eq_true] at hg; simp only [All, List.cons_append, List.nil_append, List.append_nil, List.mem_cons, List.not_mem_nil, or_false, forall_eq_or_imp, forall_eq, Bool.and_eq_true, hg, Bool.not_false, Bool.not_true, and_self]; done) | (simp only [Gt] at hg; simp only [All, List.cons_append, List.nil_append, List.append_nil, List.mem_cons, List.not_mem_nil, or_false, forall_eq_or_imp, forall_eq, hg, and_self])) Try.underlying65 rfl Try.sizeOf3 rfl (fun hg => rd_some (hC.at m2) (by first | exact len_pos2 h3 | (have := len_pos2 h3; rw [w64 (by omega)]; omega))) rfl rfl ?_; clear hC a; intro a hC
          refine L.ldx hC rfl rfl rfl rfl (fun hg => by first | (simp only [Gt, Bool.and_eq_true] at hg; simp only [All, List.cons_append, List.nil_append, List.append_nil, List.mem_cons, List.not_mem_nil, or_false, forall_eq_or_imp, forall_eq, Bool.and_eq_true, hg, Bool.not_false, Bool.not_true, and_self]; done) | (simp only [Gt] at hg; simp only [All, List.cons_append, List.nil_append, List.append_nil, List.mem_cons, List.not_mem_nil, or_false, forall_eq_or_imp, forall_eq, hg, and_self])) (fun hg => rd_bang hC m2 (by first | exact len_pos2 h3 | (have := len_pos2 h3; rw [w64 (by omega)]; omega)) _) Try.isAgg3 rfl rfl rfl ?_; clear hC a; intro a hC
          refine L.pu hC rfl rfl (fun hg => by first | (simp only [Gt, Bool.and_eq_true] at hg; simp only [All, List.cons_append, List.nil_append, List.append_nil, List.mem_cons, List.not_mem_nil, or_false, forall_eq_or_imp, forall_eq, Bool.and_eq_true, hg, Bool.not_false, Bool.not_true, and_self]; done) | (simp only [Gt] at hg; simp only [All, List.cons_append, List.nil_append, List.append_nil, List.mem_cons, List.not_mem_nil, or_false, forall_eq_or_imp, forall_eq, hg, and_self])) rfl rfl ?_; clear hC a; intro a hC
          refine L.pu hC rfl rfl (fun hg => by first | (simp only [Gt, Bool.and_eq_true] at hg; simp only [All, List.cons_append, List.nil_append, List.append_nil, List.mem_cons, List.not_mem_nil, or_false, forall_eq_or_imp, forall_eq, Bool.and_eq_true, hg, Bool.not_false, Bool.not_true, and_self]; done) | (simp only [Gt] at hg; simp only [All, List.cons_append, List.nil_append, List.append_nil, List.mem_cons, List.not_mem_nil, or_false, forall_eq_or_imp, forall_eq, hg, and_self])) rfl rfl ?_; clear hC a; intro a hC
          refine L.and hC rfl rfl rfl rfl (fun _ => All.nil) (fun _ hp => by first | (simp only [All, List.cons_append, List.nil_append, List.append_nil, List.mem_cons, List.not_mem_nil, or_false, forall_eq_or_imp, forall_eq, Bool.and_eq_true, hp, Bool.not_false, Bool.not_true, and_self]; done) | simp [All, hp]) rfl rfl ?_; clear hC a; intro a hC
          refine L.pu hC rfl rfl (fun _ => All.nil) rfl rfl ?_; clear hC a; intro a hC
          refine L.nil ?_
          refine hk15 _ _ ?_; clear hk15; try clear k15
          refine W.cond hC rfl (fun h5 => ?_) (fun h5 => ?_)
          ·
            refine W.seqk fun k16 hk16 => ?_
            refine W.region ?_
            refine L.pu hC rfl rfl (fun _ => All.nil) rfl rfl ?_; clear hC a; intro a hC
            refine L.pu hC rfl rfl (fun _ => All.nil) rfl rfl ?_; clear hC a; intro a hC
            refine L.nil ?_
            refine hk16 _ _ ?_; clear hk16; try clear k16
            refine W.ret ?_
            refine retl hC rfl (.tmp rfl (.tmp rfl .nil)) rfl ?_
            exact ⟨(by rw [planr_e h1 h2 h3 h4 h5]), hC.frm⟩
          ·
            refine W.skip ?_
            refine hk8 _ _ ?_; clear hk8; try clear k8
            refine W.seqk fun k17 hk17 => ?_
            refine W.region ?_
            refine L.pu hC rfl rfl (fun _ => All.nil) rfl rfl ?_; clear hC a; intro a hC
            refine L.pu hC rfl rfl (fun _ => All.nil) rfl rfl ?_; clear hC a; intro a hC
            refine L.nil ?_
            refine hk17 _ _ ?_; clear hk17; try clear k17
            refine W.ret ?_
            refine retl hC rfl (.tmp rfl (.tmp rfl .nil)) rfl ?_
            exact ⟨(by rw [planr_f h1 h2 h3 h4 h5]), hC.frm⟩

theorem Slowr_ok (c : CallH) (v : Value) (s : CSet) (l : List Att) (tick : Int) (w0 : World) (hr : (rdR v attE l).ok w0) : Calls Try.prog 37 #[.agg (callE c v).toArray, .agg (csE s).toArray, .int .i64 tick] w0 fun e w' => ∃ r : Value, e = .returned (.tuple #[r, .int .i64 (slowT c s l tick).2]) ∧ True ∧ Post Nob [ownR r 3 intE (slowT c s l tick).1] w0 w' := by
  obtain ⟨vA, vc, hv, _, _⟩ := id hr
  subst hv
  have hlen := rd_lt hr
  refine enter (μ := [rdR (.slice vA l.length vc) attE l]) (S := Nob) (vs := [.agg (callE c (.slice vA l.length vc)).toArray, .agg (csE s).toArray, .int .i64 tick]) Try.func37 rfl Try.ntmps37 rfl ⟨by simpa using hr, by simp⟩ (by simp [rdR]) (fun a hC => ?_)
  refine W.seqk fun k1 hk1 => ?_
  refine W.region ?_
  refine L.box hC rfl rfl rfl rfl rfl rfl ?_; clear hC a; intro cb a w hF hC
  refine L.box hC rfl rfl rfl rfl rfl rfl ?_; clear hC a; intro sb a w hF hC
  refine L.pu hC rfl rfl (fun _ => All.nil) rfl rfl ?_; clear hC a; intro a hC
  refine L.pu hC rfl rfl (fun _ => All.nil) rfl rfl ?_; clear hC a; intro a hC
  refine L.nil ?_
  refine hk1 _ _ ?_; clear hk1; try clear k1
  refine W.seqk fun k2 hk2 => ?_
  refine W.region ?_
  refine L.lda hC rfl rfl rfl (fun _ => All.nil) m1 Try.isAgg56 Try.sizeOf56 rfl rfl rfl rfl ?_; clear hC a; intro a hC
  refine L.lda hC rfl rfl rfl (fun _ => All.nil) m0 Try.isAgg60 Try.sizeOf60 rfl rfl rfl rfl ?_; clear hC a; intro a hC
  refine L.call hC rfl rfl Try.call39 rfl (fun _ => All.nil) (fun hg => chkr_ok c _ s l _ (hC.at m2)) rfl rfl ?_; clear hC a; intro a w hF hC
  refine L.pu hC rfl rfl (fun _ => All.nil) rfl rfl ?_; clear hC a; intro a hC
  refine L.nil ?_
  refine hk2 _ _ ?_; clear hk2; try clear k2
  refine W.seqk fun k3 hk3 => ?_
  refine W.seqk fun k4 hk4 => ?_
  refine W.region ?_
  refine L.pu hC rfl rfl (fun _ => All.nil) rfl rfl ?_; clear hC a; intro a hC
  refine L.pu hC rfl rfl (fun _ => All.nil) rfl rfl ?_; clear hC a; intro a hC
  refine L.nil ?_
  refine hk4 _ _ ?_; clear hk4; try clear k4
  refine W.cond hC rfl (fun h1 => ?_) (fun h1 => ?_)
  ·
    refine W.seqk fun k5 hk5 => ?_
    refine W.region ?_
    refine L.pu hC rfl rfl (fun _ => All.nil) rfl rfl ?_; clear hC a; intro a hC
    refine L.pu hC rfl rfl (fun _ => All.nil) rfl rfl ?_; clear hC a; intro a hC
    refine L.pu hC rfl rfl (fun _ => All.nil) rfl rfl ?_; clear hC a; intro a hC
    refine L.nil ?_
    refine hk5 _ _ ?_; clear hk5; try clear k5
    refine W.ret ?_
    refine retl hC rfl (.tmp rfl (.tmp rfl .nil)) rfl ?_
    replace hC := (hC.drop).nilown (ty := 3) (E := intE)
    exact ⟨_, (by unfold slowT; rw [if_pos h1]), trivial, by unfold slowT; rw [if_pos h1]; exact hC.toPost (by simp [ownR])⟩
  ·
    have h10 : chkA c s l = 0 := by simpa using h1
    have h16 := chkA_len h10
    refine W.skip ?_
    refine hk3 _ _ ?_; clear hk3; try clear k3
    refine W.seqk fun k6 hk6 => ?_
    refine W.region ?_
    refine L.pu hC rfl rfl (fun _ => All.nil) rfl rfl ?_; clear hC a; intro a hC
    refine L.nil ?_
    refine hk6 _ _ ?_; clear hk6; try clear k6
    refine W.seqk fun k7 hk7 => ?_
    refine W.seqk fun k8 hk8 => ?_
    refine W.region ?_
    refine L.pu hC rfl rfl (fun _ => All.nil) rfl rfl ?_; clear hC a; intro a hC
    refine L.nil ?_
    refine hk8 _ _ ?_; clear hk8; try clear k8
    refine W.block ?_
    replace hC := hC.nilown (ty := 3) (E := intE)
    replace hC := hC.fr3
    replace hC := hC.fr2
    replace hC := hC.fr3
    replace hC := hC.fr3
    refine W.loop (fun (gst : Nat × Value) a w' => match gst with | ⟨j, ov⟩ => (j ≤ l.length) ∧ Conf 49 Nob w0 [(10, (none, .int .i64 (j : Int))), (9, (none, ov)), (3, (none, .pointer (some ⟨cb, 0, none⟩))), (4, (none, .pointer (some ⟨sb, 0, none⟩))), (2, (none, .int .i64 tick))] [ownR ov 3 intE (slowR s (l.take j) tick), blkR cb (callE c (.slice vA l.length vc)) 56, blkR sb (csE s) 60, rdR (.slice vA l.length vc) attE l] a w') (fun (gst : Nat × Value) => match gst with | ⟨j, ov⟩ => l.length - j) (0, .slice none 0 0) ?_ ?_
    · exact ⟨Nat.zero_le _, hC.keep ⟨rfl, rfl, rfl, rfl, rfl, trivial⟩⟩
    · rintro ⟨j, ov⟩ a w ⟨hj, hC⟩
      have hsj := slowJ_len s l tick j
      refine W.seqk fun k9 hk9 => ?_
      refine W.seqk fun k10 hk10 => ?_
      refine W.region ?_
      refine L.pu hC rfl rfl (fun _ => All.nil) rfl rfl ?_; clear hC a; intro a hC
      refine L.fa hC rfl rfl rfl (fun _ => All.nil) Try.underlying56 rfl Try.sizeOf54 rfl rfl rfl ?_; clear hC a; intro a hC
      refine L.ld hC rfl rfl rfl (fun _ => All.nil) m1 Try.isAgg54 rfl rfl rfl ?_; clear hC a; intro a hC
      refine L.len hC rfl rfl rfl (fun _ => All.nil) (rd_form (hC.at m3)) Try.underlying54 rfl rfl ?_; clear hC a; intro a hC
      refine L.pu hC rfl rfl (fun _ => All.nil) rfl rfl ?_; clear hC a; intro a hC
      refine L.nil ?_
      refine hk10 _ _ ?_; clear hk10; try clear k10
      refine W.cond hC rfl (fun h2 => ?_) (fun h2 => ?_)
      ·
        have h2 := of_decide_eq_true h2
        refine W.skip ?_
        refine hk9 _ _ ?_; clear hk9; try clear k9
        refine W.seqk fun k11 hk11 => ?_
        refine W.block ?_
        refine W.seqk fun k12 hk12 => ?_
        refine W.drawD hC Try.mixed rfl rfl ?_
        apply DRN.cons (.det _ _) rfl
        · intro a w hC
          refine L.fa hC rfl rfl rfl (fun _ => All.nil) Try.underlying56 rfl Try.sizeOf54 rfl rfl rfl ?_; clear hC a; intro a hC
          exact L.nil ⟨⟨_, [], hC⟩, Frm.refl _ _⟩
        apply DRN.cons (.det _ _) rfl
        · intro a w hC
          refine L.ld hC rfl rfl rfl (fun _ => All.nil) m1 Try.isAgg54 rfl rfl rfl ?_; clear hC a; intro a hC
          exact L.nil ⟨⟨_, [], hC⟩, Frm.refl _ _⟩
        apply DRN.cons (.det _ _) rfl
        · intro a w hC
          refine L.pu hC rfl rfl (fun _ => All.nil) rfl rfl ?_; clear hC a; intro a hC
          exact L.nil ⟨⟨_, [], hC⟩, Frm.refl _ _⟩
        apply DRN.cons (.det _ _) rfl
        · intro a w hC
          refine L.ixr hC rfl rfl rfl rfl m3 (fun _ => All.nil) (fun _ => All.nil) Try.underlying54 Try.sizeOf65 (fun _ => by omega) rfl rfl ?_; clear hC a; intro a hC
          exact L.nil ⟨⟨_, [], hC⟩, Frm.refl _ _⟩
        apply DRN.cons (.det _ _) rfl
        · intro a w hC
          refine L.fae hC rfl rfl rfl (fun _ => All.nil) Try.underlying65 rfl Try.sizeOf4 rfl (fun hg => rd_some (hC.at m3) (by omega)) rfl rfl ?_; clear hC a; intro a hC
          exact L.nil ⟨⟨_, [], hC⟩, Frm.refl _ _⟩
        apply DRN.cons (.det _ _) rfl
        · intro a w hC
          refine L.ldx hC rfl rfl rfl rfl (fun _ => All.nil) (fun hg => rd_bang hC m3 (by omega) _) Try.isAgg4 rfl rfl rfl ?_; clear hC a; intro a hC
          exact L.nil ⟨⟨_, [], hC⟩, Frm.refl _ _⟩
        apply DRN.cons (.det _ _) rfl
        · intro a w hC
          refine L.pu hC rfl rfl (fun _ => All.nil) rfl rfl ?_; clear hC a; intro a hC
          exact L.nil ⟨⟨_, [], hC⟩, Frm.refl _ _⟩
        apply DRN.cons (.det _ _) rfl
        · intro a w hC
          refine L.pu hC rfl rfl (fun _ => All.nil) rfl rfl ?_; clear hC a; intro a hC
          exact L.nil ⟨⟨_, [], hC⟩, Frm.refl _ _⟩
        apply DRN.cons (.det _ _) rfl
        · intro a w hC
          refine L.pu hC rfl rfl (fun _ => All.nil) rfl rfl ?_; clear hC a; intro a hC
          exact L.nil ⟨⟨_, [], hC⟩, Frm.refl _ _⟩
        apply DRN.cons (.det _ _) rfl
        · intro a w hC
          refine L.fa hC rfl rfl rfl (fun _ => All.nil) Try.underlying56 rfl Try.sizeOf54 rfl rfl rfl ?_; clear hC a; intro a hC
          exact L.nil ⟨⟨_, [], hC⟩, Frm.refl _ _⟩
        apply DRN.cons (.det _ _) rfl
        · intro a w hC
          refine L.ld hC rfl rfl rfl (fun hg => by first | (simp only [Gt, Bool.and_eq_true] at hg; simp only [All, List.cons_append, List.nil_append, List.append_nil, List.mem_cons, List.not_mem_nil, or_false, forall_eq_or_imp, forall_eq, Bool.and_eq_true, hg, Bool.not_false, Bool.not_true, and_self]; done) | (simp only [Gt] at hg; simp only [All, List.cons_append, List.nil_append, List.append_nil, List.mem_cons, List.not_mem_nil, or_false, forall_eq_or_imp, forall_eq, hg, and_self])) m1 Try.isAgg54 rfl rfl rfl ?_; clear hC a; intro a hC
          exact L.nil ⟨⟨_, [], hC⟩, Frm.refl _ _⟩
        apply DRN.cons (.det _ _) rfl
        · intro a w hC
          refine L.pu hC rfl rfl (fun _ => All.nil) rfl rfl ?_; clear hC a; intro a hC
          exact L.nil ⟨⟨_, [], hC⟩, Frm.refl _ _⟩
        apply DRN.cons (.det _ _) rfl
        · intro a w hC
          refine L.ixr hC rfl rfl rfl rfl m3 (fun hg => by first | (simp only [Gt, Bool.and_eq_true] at hg; simp only [All, List.cons_append, List.nil_append, List.append_nil, List.mem_cons, List.not_mem_nil, or_false, forall_eq_or_imp, forall_eq, Bool.and_eq_true, hg, Bool.not_false, Bool.not_true, and_self]; done) | (simp only [Gt] at hg; simp only [All, List.cons_append, List.nil_append, List.append_nil, List.mem_cons, List.not_mem_nil, or_false, forall_eq_or_imp, forall_eq, hg, and_self])) (fun hg => by first | (simp only [Gt, Bool.and_eq_true] at hg; simp only [All, List.cons_append, List.nil_append, List.append_nil, List.mem_cons, List.not_mem_nil, or_false, forall_eq_or_imp, forall_eq, Bool.and_eq_true, hg, Bool.not_false, Bool.not_true, and_self]; done) | (simp only [Gt] at hg; simp only [All, List.cons_append, List.nil_append, List.append_nil, List.mem_cons, List.not_mem_nil, or_false, forall_eq_or_imp, forall_eq, hg, and_self])) Try.underlying54 Try.sizeOf65 (fun _ => by omega) rfl rfl ?_; clear hC a; intro a hC
          exact L.nil ⟨⟨_, [], hC⟩, Frm.refl _ _⟩
        apply DRN.cons (.det _ _) rfl
        · intro a w hC
          refine L.fae hC rfl rfl rfl (fun hg => by first | (simp only [Gt, Bool.and_eq_true] at hg; simp only [All, List.cons_append, List.nil_append, List.append_nil, List.mem_cons, List.not_mem_nil, or_false, forall_eq_or_imp, forall_eq, Bool.and_eq_true, hg, Bool.not_false, Bool.not_true, and_self]; done) | (simp only [Gt] at hg; simp only [All, List.cons_append, List.nil_append, List.append_nil, List.mem_cons, List.not_mem_nil, or_false, forall_eq_or_imp, forall_eq, hg, and_self])) Try.underlying65 rfl Try.sizeOf3 rfl (fun hg => rd_some (hC.at m3) (by omega)) rfl rfl ?_; clear hC a; intro a hC
          exact L.nil ⟨⟨_, [], hC⟩, Frm.refl _ _⟩
        apply DRN.cons (.det _ _) rfl
        · intro a w hC
          refine L.ldx hC rfl rfl rfl rfl (fun hg => by first | (simp only [Gt, Bool.and_eq_true] at hg; simp only [All, List.cons_append, List.nil_append, List.append_nil, List.mem_cons, List.not_mem_nil, or_false, forall_eq_or_imp, forall_eq, Bool.and_eq_true, hg, Bool.not_false, Bool.not_true, and_self]; done) | (simp only [Gt] at hg; simp only [All, List.cons_append, List.nil_append, List.append_nil, List.mem_cons, List.not_mem_nil, or_false, forall_eq_or_imp, forall_eq, hg, and_self])) (fun hg => rd_bang hC m3 (by omega) _) Try.isAgg3 rfl rfl rfl ?_; clear hC a; intro a hC
          exact L.nil ⟨⟨_, [], hC⟩, Frm.refl _ _⟩
        apply DRN.cons (.det _ _) rfl
        · intro a w hC
          refine L.fa hC rfl rfl rfl (fun _ => All.nil) Try.underlying60 rfl Try.sizeOf3 rfl rfl rfl ?_; clear hC a; intro a hC
          exact L.nil ⟨⟨_, [], hC⟩, Frm.refl _ _⟩
        apply DRN.cons (.det _ _) rfl
        · intro a w hC
          refine L.ld hC rfl rfl rfl (fun hg => by first | (simp only [Gt, Bool.and_eq_true] at hg; simp only [All, List.cons_append, List.nil_append, List.append_nil, List.mem_cons, List.not_mem_nil, or_false, forall_eq_or_imp, forall_eq, Bool.and_eq_true, hg, Bool.not_false, Bool.not_true, and_self]; done) | (simp only [Gt] at hg; simp only [All, List.cons_append, List.nil_append, List.append_nil, List.mem_cons, List.not_mem_nil, or_false, forall_eq_or_imp, forall_eq, hg, and_self])) m2 Try.isAgg3 rfl rfl rfl ?_; clear hC a; intro a hC
          exact L.nil ⟨⟨_, [], hC⟩, Frm.refl _ _⟩
        apply DRN.cons (.det _ _) rfl
        · intro a w hC
          refine L.pu hC rfl rfl (fun hg => by first | (simp only [Gt, Bool.and_eq_true] at hg; simp only [All, List.cons_append, List.nil_append, List.append_nil, List.mem_cons, List.not_mem_nil, or_false, forall_eq_or_imp, forall_eq, Bool.and_eq_true, hg, Bool.not_false, Bool.not_true, and_self]; done) | (simp only [Gt] at hg; simp only [All, List.cons_append, List.nil_append, List.append_nil, List.mem_cons, List.not_mem_nil, or_false, forall_eq_or_imp, forall_eq, hg, and_self])) rfl rfl ?_; clear hC a; intro a hC
          exact L.nil ⟨⟨_, [], hC⟩, Frm.refl _ _⟩
        apply DRN.cons (.det _ _) rfl
        · intro a w hC
          refine L.pu hC rfl rfl (fun hg => by first | (simp only [Gt, Bool.and_eq_true] at hg; simp only [All, List.cons_append, List.nil_append, List.append_nil, List.mem_cons, List.not_mem_nil, or_false, forall_eq_or_imp, forall_eq, Bool.and_eq_true, hg, Bool.not_false, Bool.not_true, and_self]; done) | (simp only [Gt] at hg; simp only [All, List.cons_append, List.nil_append, List.append_nil, List.mem_cons, List.not_mem_nil, or_false, forall_eq_or_imp, forall_eq, hg, and_self])) rfl rfl ?_; clear hC a; intro a hC
          exact L.nil ⟨⟨_, [], hC⟩, Frm.refl _ _⟩
        apply DRN.cons (.det _ _) rfl
        · intro a w hC
          refine L.and hC rfl rfl rfl rfl (fun _ => All.nil) (fun _ hp => by first | (simp only [All, List.cons_append, List.nil_append, List.append_nil, List.mem_cons, List.not_mem_nil, or_false, forall_eq_or_imp, forall_eq, Bool.and_eq_true, hp, Bool.not_false, Bool.not_true, and_self]; done) | simp [All, hp]) rfl rfl ?_; clear hC a; intro a hC
          exact L.nil ⟨⟨_, [], hC⟩, Frm.refl _ _⟩
        refine DRN.nil (fun w' hF => ?_)
        intro a w hC hw
        subst hw
        refine hk12 _ _ ?_; clear hk12; try clear k12
        refine W.cond hC rfl (fun h3 => ?_) (fun h3 => ?_)
        ·
          refine W.region ?_
          refine L.pu hC rfl rfl (fun _ => All.nil) rfl rfl ?_; clear hC a; intro a hC
          refine L.pu hC rfl rfl (fun _ => All.nil) rfl rfl ?_; clear hC a; intro a hC
          refine L.bsP hC rfl rfl rfl Try.underlying37 Try.infoI3 rfl rfl rfl rfl rfl rfl rfl ?_; clear hC a; intro b3 a w hF hC
          replace hC := hC.fr1
          refine L.app (xs := [(j : Int)]) hC rfl rfl rfl rfl ⟨_, _, rfl, lit_cells (hC.at m1) rfl⟩ Try.underlying37 Try.infoI3 rfl (by simp; omega) (by simp; omega) rfl rfl ?_; clear hC a; intro v4 a w hF hC
          refine L.pu hC rfl rfl (fun _ => All.nil) rfl rfl ?_; clear hC a; intro a hC
          refine L.nil ?_
          refine hk11 _ _ ?_; clear hk11; try clear k11
          refine W.region ?_
          refine L.pu hC rfl rfl (fun _ => All.nil) rfl rfl ?_; clear hC a; intro a hC
          refine L.pu hC rfl rfl (fun _ => All.nil) rfl rfl ?_; clear hC a; intro a hC
          refine L.pu hC rfl rfl (fun _ => All.nil) rfl rfl ?_; clear hC a; intro a hC
          refine L.nil ?_
          replace hC := hC.subl (.cons_cons _ (.cons _ (.cons_cons _ (.cons_cons _ (.cons_cons _ .slnil)))))
          replace hC := hC.fr3
          replace hC := hC.fr3
          replace hC := hC.fr3
          replace hC := hC.fr3
          replace hC := hC.hd (r' := ownR v4 3 intE (slowR s (l.take (j + 1)) tick)) (by rw [slowJ_yes (j := j) (by omega) h3])
          exact ⟨(j + 1, v4), ⟨by omega, hC.keep ⟨geti rfl (w64 (by omega)), rfl, rfl, rfl, rfl, trivial⟩⟩, by first | omega | (dsimp only; omega)⟩
        ·
          refine W.skip ?_
          refine hk11 _ _ ?_; clear hk11; try clear k11
          refine W.region ?_
          refine L.pu hC rfl rfl (fun _ => All.nil) rfl rfl ?_; clear hC a; intro a hC
          refine L.pu hC rfl rfl (fun _ => All.nil) rfl rfl ?_; clear hC a; intro a hC
          refine L.pu hC rfl rfl (fun _ => All.nil) rfl rfl ?_; clear hC a; intro a hC
          refine L.nil ?_
          replace hC := hC.fr3
          replace hC := hC.fr3
          replace hC := hC.fr3
          replace hC := hC.fr3
          replace hC := hC.hd (r' := ownR ov 3 intE (slowR s (l.take (j + 1)) tick)) (by rw [slowJ_no (j := j) (by omega) h3])
          exact ⟨(j + 1, ov), ⟨by omega, hC.keep ⟨geti rfl (w64 (by omega)), rfl, rfl, rfl, rfl, trivial⟩⟩, by first | omega | (dsimp only; omega)⟩
      ·
        have h2 := of_decide_eq_false h2
        refine W.exit ?_
        refine Kb.here ?_
        refine hk7 _ _ ?_; clear hk7; try clear k7
        refine W.seqk fun k13 hk13 => ?_
        refine W.region ?_
        refine L.pu hC rfl rfl (fun _ => All.nil) rfl rfl ?_; clear hC a; intro a hC
        refine L.pu hC rfl rfl (fun _ => All.nil) rfl rfl ?_; clear hC a; intro a hC
        refine L.pu hC rfl rfl (fun _ => All.nil) rfl rfl ?_; clear hC a; intro a hC
        refine L.nil ?_
        refine hk13 _ _ ?_; clear hk13; try clear k13
        refine W.ret ?_
        refine retl hC rfl (.tmp rfl (.tmp rfl .nil)) rfl ?_
        replace hC := hC.subl (.cons_cons _ (.cons _ (.cons _ (.cons _ .slnil))))
        rw [List.take_of_length_le (show l.length ≤ j by omega)] at hC
        exact ⟨_, (by unfold slowT; rw [if_neg (nt h1)]), trivial, by unfold slowT; rw [if_neg (nt h1)]; exact hC.toPost (by simp [ownR])⟩

end Go.Proofs.E
