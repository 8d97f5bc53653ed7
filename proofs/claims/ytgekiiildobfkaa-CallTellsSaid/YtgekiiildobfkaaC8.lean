/- The page's calls: what its small functions compute is what the program's do. -/
import Derived.Test.YtgekiiildobfkaaC7
set_option linter.unusedVariables false
set_option linter.unusedSimpArgs false
namespace Go.Proofs.E
open Go.RowKit
section
variable {o : OpV} {s : CSet} {b : Bo} {c : CallH} {l : List Att} {j : Nat} {n : Int}
theorem once_bad (h : (decide (o.what < 1) || decide (o.what > 4)) = true) : onceR o.what = (false, 23) := if_pos h
theorem once_good (h : (decide (o.what < 1) || decide (o.what > 4)) = false) : (onceR o.what).2 = 0 := by unfold onceR; rw [if_neg (nt h)]
theorem led_a (h1 : (decide (o.what < 1) || decide (o.what > 4)) = true) : ledR o = 23 := by unfold ledR; rw [once_bad h1]; rfl
def ledQ (o : OpV) : Bool := (((((decide (o.key < 0) || decide (o.key ≥ 16)) || decide (o.other < 0)) || decide (o.other ≥ 16)) || decide (o.amt < -1073741824)) || decide (o.amt > 1073741824)) || (o.what == 2 && decide (o.amt < 0))
theorem led_form (h1 : (decide (o.what < 1) || decide (o.what > 4)) = false) : ledR o = if ledQ o = true then 4 else if (!veqs (opE o) (opE (usedR o))) = true then 9 else 0 := by
  unfold ledR
  rw [once_good h1, if_neg (by decide)]
  by_cases h2 : o.what = 2
  · rw [if_pos (by simpa using h2)]
    have e : (((decide (imin o.key o.other < 0) || decide (imax o.key o.other ≥ 16)) || decide (o.amt < 0)) || decide (o.amt > 1073741824)) = ledQ o := by
      rw [Bool.eq_iff_iff]
      simp only [ledQ, Bool.or_eq_true, Bool.and_eq_true, decide_eq_true_eq, h2, beq_self_eq_true, true_and]
      unfold imin imax
      split <;> split <;> omega
    rw [e]
  · rw [if_neg (by simpa using h2)]
    have e : (((decide (imin o.key o.other < 0) || decide (imax o.key o.other ≥ 16)) || decide (o.amt < -1073741824)) || decide (o.amt > 1073741824)) = ledQ o := by
      rw [Bool.eq_iff_iff]
      have h3 : (o.what == 2) = false := by simpa using h2
      simp only [ledQ, Bool.or_eq_true, Bool.and_eq_true, decide_eq_true_eq, h3, Bool.false_eq_true, false_and, or_false]
      unfold imin imax
      split <;> split <;> omega
    rw [e]
theorem used_form (h1 : (decide (o.what < 1) || decide (o.what > 4)) = false) : (!veqs (opE o) (opE (usedR o))) = (((o.what != 2 && o.other != 0) || (decide (o.what > 2) && o.amt != 0)) || (o.what == 4 && o.key != 0)) := by
  simp only [Bool.or_eq_false_iff, decide_eq_false_iff_not] at h1
  have h2 : o.what = 1 ∨ o.what = 2 ∨ o.what = 3 ∨ o.what = 4 := by omega
  obtain ⟨w, k, t, m⟩ := o
  simp only at h2 h1
  rcases h2 with rfl | rfl | rfl | rfl
  · simp [usedR, opE, veqs, veq, bne]
  · simp [usedR, opE, veqs, veq, bne]
  · simp [usedR, opE, veqs, veq, bne]
  · simp [usedR, opE, veqs, veq, bne]
    cases (k == 0) <;> cases (t == 0) <;> cases (m == 0) <;> rfl
theorem led_b (h1 : (decide (o.what < 1) || decide (o.what > 4)) = false) (h2 : ledQ o = true) : ledR o = 4 := by rw [led_form h1, if_pos h2]
theorem led_c (h1 : (decide (o.what < 1) || decide (o.what > 4)) = false) (h2 : ledQ o = false) (h3 : (((o.what != 2 && o.other != 0) || (decide (o.what > 2) && o.amt != 0)) || (o.what == 4 && o.key != 0)) = true) : ledR o = 9 := by
  rw [led_form h1, if_neg (nt h2), used_form h1, if_pos h3]
theorem led_d (h1 : (decide (o.what < 1) || decide (o.what > 4)) = false) (h2 : ledQ o = false) (h3 : (((o.what != 2 && o.other != 0) || (decide (o.what > 2) && o.amt != 0)) || (o.what == 4 && o.key != 0)) = false) : ledR o = 0 := by
  rw [led_form h1, if_neg (nt h2), used_form h1, if_neg (nt h3)]
theorem bo_two (b : Bo) : boR b = 0 ∨ boR b = 4 := by unfold boR; split <;> simp
theorem moN_step (b : Bo) (j : Nat) : imin b.cap (IntKind.i64.wrap (moN b j + moN b j)) = moN b (j + 1) := by
  show _ = imin (IntKind.i64.wrap (2 * moN b j)) b.cap
  rw [show moN b j + moN b j = 2 * moN b j by omega]
  unfold imin
  split <;> split <;> omega
theorem most_a (h : (boR b != 0) = true) : mostR b n = (0, 4) := by
  unfold mostR; rw [if_pos h]
  rcases bo_two b with h2 | h2
  · rw [h2] at h; cases h
  · rw [h2]
theorem most_b (h : (boR b != 0) = false) (h2 : (decide (n < 1) || decide (n > 64)) = true) : mostR b n = (0, 3) := by unfold mostR; rw [if_neg (nt h), if_pos h2]
theorem most_c (h : (boR b != 0) = false) (h2 : (decide (n < 1) || decide (n > 64)) = false) (hj : n = (j : Int) + 1) : mostR b n = (moN b j, 0) := by
  unfold mostR atR
  rw [if_neg (nt h), if_neg (nt h2), if_neg (nt h2), hj]
  congr 2; omega
theorem imin_comm (x y : Int) : imin x y = imin y x := by unfold imin; split <;> split <;> omega
theorem imax_comm (x y : Int) : imax x y = imax y x := by unfold imax; split <;> split <;> omega
theorem del_b {d : Int} (h : ((mostR b n).2 != 0) = false) : delR b n d = (imax 1 (IntKind.i64.wrap ((mostR b n).1 - (shareR d (imin 1048576 (IntKind.i64.wrap (1 + IntKind.i64.wrap ((IntKind.i64.wrap ((mostR b n).1 * b.jit)).tdiv 1000))))).1)), 0) := by
  unfold delR lessR
  rw [if_neg (nt h), imax_comm, imin_comm]
  dsimp only
  rw [Int.add_comm 1]
theorem share_eq27 {x n : Int} (hx : 0 ≤ x ∧ x < 18446744073709551616) (h : (decide (n < 1) || decide (n > 1048576)) = false) :
    IntKind.i64.wrap ((IntKind.u64.wrap (x.fdiv (2 ^ (min (32 : Int).toNat 64)) * IntKind.u64.wrap n)).fdiv (2 ^ (min (32 : Int).toNat 64))) = IntKind.i64.wrap (IntKind.u64.wrap (x.fdiv (2 ^ (min (32 : Int).toNat 64)) * 2 ^ (min (32 : Int).toNat 64)) * IntKind.u64.wrap n / 18446744073709551616) := by
  rw [Bool.or_eq_false_iff, decide_eq_false_iff_not, decide_eq_false_iff_not] at h
  have e : (2 : Int) ^ (min (32 : Int).toNat 64) = 4294967296 := by decide
  rw [e, Int.fdiv_eq_ediv_of_nonneg _ (by decide), Int.fdiv_eq_ediv_of_nonneg _ (by decide)]
  have hn : IntKind.u64.wrap n = n := by rw [uwrap]; omega
  obtain ⟨y, hy⟩ : ∃ y, x / 4294967296 = y := ⟨_, rfl⟩
  have hy2 : 0 ≤ y ∧ y < 4294967296 := by omega
  rw [hy, hn]
  have h1 : IntKind.u64.wrap (y * 4294967296) = y * 4294967296 := by rw [uwrap]; omega
  have h3 : 0 ≤ y * n := Int.mul_nonneg hy2.1 (by omega)
  have h4 : y * n ≤ y * 1048576 := Int.mul_le_mul_of_nonneg_left (by omega) hy2.1
  have h2 : IntKind.u64.wrap (y * n) = y * n := by rw [uwrap]; omega
  rw [h1, h2]
  congr 1
  have h5 : y * 4294967296 * n = y * n * 4294967296 := by rw [Int.mul_assoc, Int.mul_comm 4294967296 n, ← Int.mul_assoc]
  rw [h5]
  omega
def setQ (s : CSet) : Bool := (((((((((decide (s.att < 1) || decide (s.att > 16)) || decide (s.hed < 0)) || decide (s.hed > 8)) || decide (s.tmo < 1)) || decide (s.tmo > 1048576)) || decide (s.lea < 1)) || decide (s.lea > 1048576)) || decide (s.mil < 1)) || decide (s.mil > 1000)) || (boR s.bo != 0)
theorem sets_form (s : CSet) : setR s = if setQ s = true then 4 else 0 := by
  unfold setR
  have e : (((!inR 1 16 [s.att] || !inR 0 8 [s.hed]) || !inR 1 1048576 [s.tmo, s.lea]) || !inR 1 1000 [s.mil]) = (((((((((decide (s.att < 1) || decide (s.att > 16)) || decide (s.hed < 0)) || decide (s.hed > 8)) || decide (s.tmo < 1)) || decide (s.tmo > 1048576)) || decide (s.lea < 1)) || decide (s.lea > 1048576)) || decide (s.mil < 1)) || decide (s.mil > 1000)) := by
    rw [Bool.eq_iff_iff]
    simp only [inR, List.any_cons, List.any_nil, Bool.or_false, Bool.not_not, Bool.or_eq_true, decide_eq_true_eq]
    omega
  unfold setQ
  rw [e]
  rcases bo_two s.bo with h | h
  · rw [h]; simp
  · rw [h]
    simp only [show ((4 : Int) != 0) = true from rfl, Bool.or_true, if_true]
    split <;> rfl
theorem sets_a (h : setQ s = true) : setR s = 4 := by rw [sets_form, if_pos h]
theorem sets_b (h : setQ s = false) : setR s = 0 := by rw [sets_form, if_neg (nt h)]
theorem kn_eq (n : Int) : (!(decide (n ≥ 0) && decide (n ≤ 1073741824))) = (decide (n < 0) || decide (n > 1073741824)) := by
  rw [Bool.eq_iff_iff]; simp
theorem pin_eq (x y : Att) : veqs (pinE x) (pinE y) = (((x.bk == y.bk && x.inc == y.inc) && x.ses == y.ses) && x.seq == y.seq) := by
  simp [pinE, veqs, veq, Bool.and_assoc]
theorem odd_eq (c : CallH) (l : List Att) (j : Nat) :
    (((((((!(decide (l[j]!.bk ≥ 0) && decide (l[j]!.bk ≤ 1073741824)) || !(decide (l[j]!.inc ≥ 0) && decide (l[j]!.inc ≤ 1073741824))) || !(decide (l[j]!.ses ≥ 0) && decide (l[j]!.ses ≤ 1073741824))) || !(decide (l[j]!.seq ≥ 0) && decide (l[j]!.seq ≤ 1073741824))) || decide (l[j]!.at' < lastA c l j)) || decide (l[j]!.at' > 536870912)) || (l[j]!.hedge && ((j : Int) == 0 || c.once))) || (c.once && !(((l[j]!.bk == l[0]!.bk && l[j]!.inc == l[0]!.inc) && l[j]!.ses == l[0]!.ses) && l[j]!.seq == l[0]!.seq))) = oddA c l j l[j]! := by
  unfold oddA inR
  rw [pin_eq]
  simp only [kn_eq, List.any_cons, List.any_nil, Bool.or_false, Bool.not_not, Bool.or_assoc]
theorem last_step (c : CallH) (l : List Att) (j : Nat) : l[j]!.at' = lastA c l (j + 1) := by
  unfold lastA
  rw [if_pos (by rw [decide_eq_true_eq]; omega)]
  rfl
def chkQ (c : CallH) (s : CSet) (l : List Att) : Bool :=
  (((((((((decide (c.num < 0) || decide (c.num > 1048576)) || (ledR c.op != 0)) || !(c.once == (onceR c.op.what).1)) || decide (c.at' < 0)) || decide (c.at' > 536870912)) || decide (c.nx < 0)) || decide (c.nx > 536870912)) || decide (c.dl < c.at')) || decide (c.dl > 536870912)) || decide ((l.length : Int) > s.att)
theorem chk_form (c : CallH) (s : CSet) (l : List Att) : (((((!inR 0 1048576 [c.num] || (ledR c.op != 0)) || !(c.once == (onceR c.op.what).1)) || !inR 0 536870912 [c.at', c.nx]) || !inR c.at' 536870912 [c.dl]) || decide ((l.length : Int) > s.att)) = chkQ c s l := by
  unfold chkQ inR
  simp only [List.any_cons, List.any_nil, Bool.or_false, Bool.not_not, Bool.or_assoc]
theorem chkr_a (h : (setR s != 0) = true) : chkA c s l = 4 := by
  unfold chkA
  rw [if_pos h]
  rw [sets_form] at h ⊢
  split at h
  · rename_i h2; rw [if_pos h2]
  · cases h
theorem chkr_b (h : (setR s != 0) = false) (h2 : chkQ c s l = true) : chkA c s l = 9 := by
  unfold chkA fineA
  rw [if_neg (nt h), chk_form, if_pos h2]; rfl
theorem chkr_c (h : (setR s != 0) = false) (h2 : chkQ c s l = false) (hj : j < l.length) (h4 : oddA c l j l[j]! = true) : chkA c s l = 9 := by
  unfold chkA fineA
  rw [if_neg (nt h), chk_form, if_neg (nt h2), badA_here hj h4]; rfl
theorem chkr_d (h : (setR s != 0) = false) (h2 : chkQ c s l = false) (ho : ∀ i, i < l.length → oddA c l i l[i]! = false) : chkA c s l = 0 := by
  unfold chkA fineA
  rw [if_neg (nt h), chk_form, if_neg (nt h2), badA_none ho]; rfl
theorem cnt_no (hj : j < l.length) (h : (!l[j]!.over) = false) : cntA (l.take j) = cntA (l.take (j + 1)) := by
  unfold cntA
  rw [take_one hj, List.filter_append, List.filter_cons_of_neg (by rw [h]; simp), List.filter_nil, List.append_nil]
theorem filt_le {p : Att → Bool} (l : List Att) (j : Nat) : ((l.take j).filter p).length ≤ j := by
  have h1 := List.length_filter_le p (l.take j)
  rw [List.length_take] at h1
  omega
theorem cnt_yes (hj : j < l.length) (hb : j < 9223372036854775807) (h : (!l[j]!.over) = true) : IntKind.i64.wrap (cntA (l.take j) + 1) = cntA (l.take (j + 1)) := by
  unfold cntA
  have := filt_le (p := fun a => !a.over) l j
  rw [take_one hj, List.filter_append, List.filter_cons_of_pos (by exact h), List.filter_nil, List.length_append, w64 (by omega)]
  simp
theorem hedc_no (hj : j < l.length) (h : (!l[j]!.over) = false ∨ l[j]!.hedge = false) : hedA (l.take j) = hedA (l.take (j + 1)) := by
  unfold hedA
  rw [take_one hj, List.filter_append, List.filter_cons_of_neg (by rcases h with h | h <;> rw [h] <;> simp), List.filter_nil, List.append_nil]
theorem hedc_yes (hj : j < l.length) (hb : j < 9223372036854775807) (h : (!l[j]!.over) = true) (h2 : l[j]!.hedge = true) : IntKind.i64.wrap (hedA (l.take j) + 1) = hedA (l.take (j + 1)) := by
  unfold hedA
  have := filt_le (p := fun a => !a.over && a.hedge) l j
  rw [take_one hj, List.filter_append, List.filter_cons_of_pos (by rw [h, h2]; rfl), List.filter_nil, List.length_append, w64 (by omega)]
  simp
end
theorem once24_ok (x : Int) (w0 : World) : Calls Try.prog 86 #[.int .i64 x] w0 fun e w' => e = .returned (.tuple #[.bool (onceR x).1, .int .i64 (onceR x).2]) ∧ Frm Nob w0 w' := by
  refine enter (μ := []) (S := Nob) (vs := [.int .i64 x]) Try.func86 rfl Try.ntmps86 rfl (Mem.nil _) (by simp) (fun a hC => ?_)
  refine W.seqk fun k1 hk1 => ?_
  refine W.region ?_
  refine L.pu hC rfl rfl (fun _ => All.nil) rfl rfl ?_; clear hC a; intro a hC
  refine L.pu hC rfl rfl (fun _ => All.nil) rfl rfl ?_; clear hC a; intro a hC
  refine L.nil ?_
  refine hk1 _ _ ?_; clear hk1; try clear k1
  refine W.seqk fun k2 hk2 => ?_
  refine W.seqk fun k3 hk3 => ?_
  refine W.region ?_
  refine L.pu hC rfl rfl (fun _ => All.nil) rfl rfl ?_; clear hC a; intro a hC
  refine L.pu hC rfl rfl (fun _ => All.nil) rfl rfl ?_; clear hC a; intro a hC
  refine L.pu hC rfl rfl (fun _ => All.nil) rfl rfl ?_; clear hC a; intro a hC
  refine L.pu hC rfl rfl (fun _ => All.nil) rfl rfl ?_; clear hC a; intro a hC
  refine L.pu hC rfl rfl (fun hg => by first | (simp only [Gt, Bool.and_eq_true] at hg; simp only [All, List.cons_append, List.nil_append, List.append_nil, List.mem_cons, List.not_mem_nil, or_false, forall_eq_or_imp, forall_eq, Bool.and_eq_true, hg, Bool.not_false, Bool.not_true, and_self]; done) | (simp only [Gt] at hg; simp only [All, List.cons_append, List.nil_append, List.append_nil, List.mem_cons, List.not_mem_nil, or_false, forall_eq_or_imp, forall_eq, hg, and_self])) rfl rfl ?_; clear hC a; intro a hC
  refine L.or hC rfl rfl rfl rfl (fun _ => All.nil) (fun _ hp => by first | (simp only [All, List.cons_append, List.nil_append, List.append_nil, List.mem_cons, List.not_mem_nil, or_false, forall_eq_or_imp, forall_eq, Bool.and_eq_true, hp, Bool.not_false, Bool.not_true, and_self]; done) | simp [All, hp]) rfl rfl ?_; clear hC a; intro a hC
  refine L.nil ?_
  refine hk3 _ _ ?_; clear hk3; try clear k3
  refine W.cond hC rfl (fun h1 => ?_) (fun h1 => ?_)
  ·
    refine W.seqk fun k4 hk4 => ?_
    refine W.region ?_
    refine L.pu hC rfl rfl (fun _ => All.nil) rfl rfl ?_; clear hC a; intro a hC
    refine L.pu hC rfl rfl (fun _ => All.nil) rfl rfl ?_; clear hC a; intro a hC
    refine L.nil ?_
    refine hk4 _ _ ?_; clear hk4; try clear k4
    refine W.ret ?_
    refine retl hC rfl (.tmp rfl (.tmp rfl .nil)) rfl ?_
    exact ⟨(by unfold onceR; rw [if_pos h1]; try rfl), hC.frm⟩
  ·
    refine W.skip ?_
    refine hk2 _ _ ?_; clear hk2; try clear k2
    refine W.seqk fun k5 hk5 => ?_
    refine W.region ?_
    refine L.pu hC rfl rfl (fun _ => All.nil) rfl rfl ?_; clear hC a; intro a hC
    refine L.pu hC rfl rfl (fun _ => All.nil) rfl rfl ?_; clear hC a; intro a hC
    refine L.pu hC rfl rfl (fun _ => All.nil) rfl rfl ?_; clear hC a; intro a hC
    refine L.pu hC rfl rfl (fun _ => All.nil) rfl rfl ?_; clear hC a; intro a hC
    refine L.nil ?_
    refine hk5 _ _ ?_; clear hk5; try clear k5
    refine W.ret ?_
    refine retl hC rfl (.tmp rfl (.tmp rfl .nil)) rfl ?_
    exact ⟨(by unfold onceR; rw [if_neg (nt h1)]; try rfl), hC.frm⟩

theorem led24_ok (o : OpV) (w0 : World) : Calls Try.prog 87 #[.agg (opE o).toArray] w0 fun e w' => e = .returned (.int .i64 (ledR o)) ∧ Frm Nob w0 w' := by
  refine enter (μ := []) (S := Nob) (vs := [.agg (opE o).toArray]) Try.func87 rfl Try.ntmps87 rfl (Mem.nil _) (by simp) (fun a hC => ?_)
  refine W.seqk fun k1 hk1 => ?_
  refine W.region ?_
  refine L.box hC rfl rfl rfl rfl rfl rfl ?_; clear hC a; intro ob a w hF hC
  refine L.pu hC rfl rfl (fun _ => All.nil) rfl rfl ?_; clear hC a; intro a hC
  refine L.nil ?_
  refine hk1 _ _ ?_; clear hk1; try clear k1
  refine W.seqk fun k2 hk2 => ?_
  refine W.block ?_
  refine W.seqk fun k3 hk3 => ?_
  refine W.region ?_
  refine L.fa hC rfl rfl rfl (fun _ => All.nil) Try.underlying53 rfl Try.sizeOf3 rfl rfl rfl ?_; clear hC a; intro a hC
  refine L.ld hC rfl rfl rfl (fun _ => All.nil) m0 Try.isAgg3 rfl rfl rfl ?_; clear hC a; intro a hC
  refine L.pu hC rfl rfl (fun _ => All.nil) rfl rfl ?_; clear hC a; intro a hC
  refine L.pu hC rfl rfl (fun _ => All.nil) rfl rfl ?_; clear hC a; intro a hC
  refine L.fa hC rfl rfl rfl (fun _ => All.nil) Try.underlying53 rfl Try.sizeOf3 rfl rfl rfl ?_; clear hC a; intro a hC
  refine L.ld hC rfl rfl rfl (fun hg => by first | (simp only [Gt, Bool.and_eq_true] at hg; simp only [All, List.cons_append, List.nil_append, List.append_nil, List.mem_cons, List.not_mem_nil, or_false, forall_eq_or_imp, forall_eq, Bool.and_eq_true, hg, Bool.not_false, Bool.not_true, and_self]; done) | (simp only [Gt] at hg; simp only [All, List.cons_append, List.nil_append, List.append_nil, List.mem_cons, List.not_mem_nil, or_false, forall_eq_or_imp, forall_eq, hg, and_self])) m0 Try.isAgg3 rfl rfl rfl ?_; clear hC a; intro a hC
  refine L.pu hC rfl rfl (fun hg => by first | (simp only [Gt, Bool.and_eq_true] at hg; simp only [All, List.cons_append, List.nil_append, List.append_nil, List.mem_cons, List.not_mem_nil, or_false, forall_eq_or_imp, forall_eq, Bool.and_eq_true, hg, Bool.not_false, Bool.not_true, and_self]; done) | (simp only [Gt] at hg; simp only [All, List.cons_append, List.nil_append, List.append_nil, List.mem_cons, List.not_mem_nil, or_false, forall_eq_or_imp, forall_eq, hg, and_self])) rfl rfl ?_; clear hC a; intro a hC
  refine L.or hC rfl rfl rfl rfl (fun _ => All.nil) (fun _ hp => by first | (simp only [All, List.cons_append, List.nil_append, List.append_nil, List.mem_cons, List.not_mem_nil, or_false, forall_eq_or_imp, forall_eq, Bool.and_eq_true, hp, Bool.not_false, Bool.not_true, and_self]; done) | simp [All, hp]) rfl rfl ?_; clear hC a; intro a hC
  refine L.pu hC rfl rfl (fun _ => All.nil) rfl rfl ?_; clear hC a; intro a hC
  refine L.nil ?_
  refine hk3 _ _ ?_; clear hk3; try clear k3
  refine W.cond hC rfl (fun h1 => ?_) (fun h1 => ?_)
  ·
    refine W.seqk fun k4 hk4 => ?_
    refine W.region ?_
    refine L.pu hC rfl rfl (fun _ => All.nil) rfl rfl ?_; clear hC a; intro a hC
    refine L.nil ?_
    refine hk4 _ _ ?_; clear hk4; try clear k4
    refine W.ret ?_
    refine rets hC rfl (.tmp rfl .nil) ?_
    refine ⟨?_, hC.frm⟩
    exact congrArg (fun x => Ending.returned (.int .i64 x)) ((led_a h1).symm)
  ·
    refine W.seqk fun k5 hk5 => ?_
    refine W.region ?_
    refine L.fa hC rfl rfl rfl (fun _ => All.nil) Try.underlying53 rfl Try.sizeOf3 rfl rfl rfl ?_; clear hC a; intro a hC
    refine L.ld hC rfl rfl rfl (fun _ => All.nil) m0 Try.isAgg3 rfl rfl rfl ?_; clear hC a; intro a hC
    refine L.pu hC rfl rfl (fun _ => All.nil) rfl rfl ?_; clear hC a; intro a hC
    refine L.pu hC rfl rfl (fun _ => All.nil) rfl rfl ?_; clear hC a; intro a hC
    refine L.fa hC rfl rfl rfl (fun _ => All.nil) Try.underlying53 rfl Try.sizeOf3 rfl rfl rfl ?_; clear hC a; intro a hC
    refine L.ld hC rfl rfl rfl (fun hg => by first | (simp only [Gt, Bool.and_eq_true] at hg; simp only [All, List.cons_append, List.nil_append, List.append_nil, List.mem_cons, List.not_mem_nil, or_false, forall_eq_or_imp, forall_eq, Bool.and_eq_true, hg, Bool.not_false, Bool.not_true, and_self]; done) | (simp only [Gt] at hg; simp only [All, List.cons_append, List.nil_append, List.append_nil, List.mem_cons, List.not_mem_nil, or_false, forall_eq_or_imp, forall_eq, hg, and_self])) m0 Try.isAgg3 rfl rfl rfl ?_; clear hC a; intro a hC
    refine L.pu hC rfl rfl (fun hg => by first | (simp only [Gt, Bool.and_eq_true] at hg; simp only [All, List.cons_append, List.nil_append, List.append_nil, List.mem_cons, List.not_mem_nil, or_false, forall_eq_or_imp, forall_eq, Bool.and_eq_true, hg, Bool.not_false, Bool.not_true, and_self]; done) | (simp only [Gt] at hg; simp only [All, List.cons_append, List.nil_append, List.append_nil, List.mem_cons, List.not_mem_nil, or_false, forall_eq_or_imp, forall_eq, hg, and_self])) rfl rfl ?_; clear hC a; intro a hC
    refine L.or hC rfl rfl rfl rfl (fun _ => All.nil) (fun _ hp => by first | (simp only [All, List.cons_append, List.nil_append, List.append_nil, List.mem_cons, List.not_mem_nil, or_false, forall_eq_or_imp, forall_eq, Bool.and_eq_true, hp, Bool.not_false, Bool.not_true, and_self]; done) | simp [All, hp]) rfl rfl ?_; clear hC a; intro a hC
    refine L.pu hC rfl rfl (fun _ => All.nil) rfl rfl ?_; clear hC a; intro a hC
    refine L.fa hC rfl rfl rfl (fun _ => All.nil) Try.underlying53 rfl Try.sizeOf3 rfl rfl rfl ?_; clear hC a; intro a hC
    refine L.ld hC rfl rfl rfl (fun hg => by first | (simp only [Gt, Bool.and_eq_true] at hg; simp only [All, List.cons_append, List.nil_append, List.append_nil, List.mem_cons, List.not_mem_nil, or_false, forall_eq_or_imp, forall_eq, Bool.and_eq_true, hg, Bool.not_false, Bool.not_true, and_self]; done) | (simp only [Gt] at hg; simp only [All, List.cons_append, List.nil_append, List.append_nil, List.mem_cons, List.not_mem_nil, or_false, forall_eq_or_imp, forall_eq, hg, and_self])) m0 Try.isAgg3 rfl rfl rfl ?_; clear hC a; intro a hC
    refine L.pu hC rfl rfl (fun hg => by first | (simp only [Gt, Bool.and_eq_true] at hg; simp only [All, List.cons_append, List.nil_append, List.append_nil, List.mem_cons, List.not_mem_nil, or_false, forall_eq_or_imp, forall_eq, Bool.and_eq_true, hg, Bool.not_false, Bool.not_true, and_self]; done) | (simp only [Gt] at hg; simp only [All, List.cons_append, List.nil_append, List.append_nil, List.mem_cons, List.not_mem_nil, or_false, forall_eq_or_imp, forall_eq, hg, and_self])) rfl rfl ?_; clear hC a; intro a hC
    refine L.or hC rfl rfl rfl rfl (fun _ => All.nil) (fun _ hp => by first | (simp only [All, List.cons_append, List.nil_append, List.append_nil, List.mem_cons, List.not_mem_nil, or_false, forall_eq_or_imp, forall_eq, Bool.and_eq_true, hp, Bool.not_false, Bool.not_true, and_self]; done) | simp [All, hp]) rfl rfl ?_; clear hC a; intro a hC
    refine L.pu hC rfl rfl (fun _ => All.nil) rfl rfl ?_; clear hC a; intro a hC
    refine L.fa hC rfl rfl rfl (fun _ => All.nil) Try.underlying53 rfl Try.sizeOf3 rfl rfl rfl ?_; clear hC a; intro a hC
    refine L.ld hC rfl rfl rfl (fun hg => by first | (simp only [Gt, Bool.and_eq_true] at hg; simp only [All, List.cons_append, List.nil_append, List.append_nil, List.mem_cons, List.not_mem_nil, or_false, forall_eq_or_imp, forall_eq, Bool.and_eq_true, hg, Bool.not_false, Bool.not_true, and_self]; done) | (simp only [Gt] at hg; simp only [All, List.cons_append, List.nil_append, List.append_nil, List.mem_cons, List.not_mem_nil, or_false, forall_eq_or_imp, forall_eq, hg, and_self])) m0 Try.isAgg3 rfl rfl rfl ?_; clear hC a; intro a hC
    refine L.pu hC rfl rfl (fun hg => by first | (simp only [Gt, Bool.and_eq_true] at hg; simp only [All, List.cons_append, List.nil_append, List.append_nil, List.mem_cons, List.not_mem_nil, or_false, forall_eq_or_imp, forall_eq, Bool.and_eq_true, hg, Bool.not_false, Bool.not_true, and_self]; done) | (simp only [Gt] at hg; simp only [All, List.cons_append, List.nil_append, List.append_nil, List.mem_cons, List.not_mem_nil, or_false, forall_eq_or_imp, forall_eq, hg, and_self])) rfl rfl ?_; clear hC a; intro a hC
    refine L.or hC rfl rfl rfl rfl (fun _ => All.nil) (fun _ hp => by first | (simp only [All, List.cons_append, List.nil_append, List.append_nil, List.mem_cons, List.not_mem_nil, or_false, forall_eq_or_imp, forall_eq, Bool.and_eq_true, hp, Bool.not_false, Bool.not_true, and_self]; done) | simp [All, hp]) rfl rfl ?_; clear hC a; intro a hC
    refine L.pu hC rfl rfl (fun _ => All.nil) rfl rfl ?_; clear hC a; intro a hC
    refine L.fa hC rfl rfl rfl (fun _ => All.nil) Try.underlying53 rfl Try.sizeOf3 rfl rfl rfl ?_; clear hC a; intro a hC
    refine L.ld hC rfl rfl rfl (fun hg => by first | (simp only [Gt, Bool.and_eq_true] at hg; simp only [All, List.cons_append, List.nil_append, List.append_nil, List.mem_cons, List.not_mem_nil, or_false, forall_eq_or_imp, forall_eq, Bool.and_eq_true, hg, Bool.not_false, Bool.not_true, and_self]; done) | (simp only [Gt] at hg; simp only [All, List.cons_append, List.nil_append, List.append_nil, List.mem_cons, List.not_mem_nil, or_false, forall_eq_or_imp, forall_eq, hg, and_self])) m0 Try.isAgg3 rfl rfl rfl ?_; clear hC a; intro a hC
    refine L.pu hC rfl rfl (fun hg => by first | (simp only [Gt, Bool.and_eq_true] at hg; simp only [All, List.cons_append, List.nil_append, List.append_nil, List.mem_cons, List.not_mem_nil, or_false, forall_eq_or_imp, forall_eq, Bool.and_eq_true, hg, Bool.not_false, Bool.not_true, and_self]; done) | (simp only [Gt] at hg; simp only [All, List.cons_append, List.nil_append, List.append_nil, List.mem_cons, List.not_mem_nil, or_false, forall_eq_or_imp, forall_eq, hg, and_self])) rfl rfl ?_; clear hC a; intro a hC
    refine L.or hC rfl rfl rfl rfl (fun _ => All.nil) (fun _ hp => by first | (simp only [All, List.cons_append, List.nil_append, List.append_nil, List.mem_cons, List.not_mem_nil, or_false, forall_eq_or_imp, forall_eq, Bool.and_eq_true, hp, Bool.not_false, Bool.not_true, and_self]; done) | simp [All, hp]) rfl rfl ?_; clear hC a; intro a hC
    refine L.pu hC rfl rfl (fun _ => All.nil) rfl rfl ?_; clear hC a; intro a hC
    refine L.fa hC rfl rfl rfl (fun _ => All.nil) Try.underlying53 rfl Try.sizeOf3 rfl rfl rfl ?_; clear hC a; intro a hC
    refine L.ld hC rfl rfl rfl (fun hg => by first | (simp only [Gt, Bool.and_eq_true] at hg; simp only [All, List.cons_append, List.nil_append, List.append_nil, List.mem_cons, List.not_mem_nil, or_false, forall_eq_or_imp, forall_eq, Bool.and_eq_true, hg, Bool.not_false, Bool.not_true, and_self]; done) | (simp only [Gt] at hg; simp only [All, List.cons_append, List.nil_append, List.append_nil, List.mem_cons, List.not_mem_nil, or_false, forall_eq_or_imp, forall_eq, hg, and_self])) m0 Try.isAgg3 rfl rfl rfl ?_; clear hC a; intro a hC
    refine L.pu hC rfl rfl (fun hg => by first | (simp only [Gt, Bool.and_eq_true] at hg; simp only [All, List.cons_append, List.nil_append, List.append_nil, List.mem_cons, List.not_mem_nil, or_false, forall_eq_or_imp, forall_eq, Bool.and_eq_true, hg, Bool.not_false, Bool.not_true, and_self]; done) | (simp only [Gt] at hg; simp only [All, List.cons_append, List.nil_append, List.append_nil, List.mem_cons, List.not_mem_nil, or_false, forall_eq_or_imp, forall_eq, hg, and_self])) rfl rfl ?_; clear hC a; intro a hC
    refine L.or hC rfl rfl rfl rfl (fun _ => All.nil) (fun _ hp => by first | (simp only [All, List.cons_append, List.nil_append, List.append_nil, List.mem_cons, List.not_mem_nil, or_false, forall_eq_or_imp, forall_eq, Bool.and_eq_true, hp, Bool.not_false, Bool.not_true, and_self]; done) | simp [All, hp]) rfl rfl ?_; clear hC a; intro a hC
    refine L.pu hC rfl rfl (fun _ => All.nil) rfl rfl ?_; clear hC a; intro a hC
    refine L.fa hC rfl rfl rfl (fun _ => All.nil) Try.underlying53 rfl Try.sizeOf3 rfl rfl rfl ?_; clear hC a; intro a hC
    refine L.ld hC rfl rfl rfl (fun hg => by first | (simp only [Gt, Bool.and_eq_true] at hg; simp only [All, List.cons_append, List.nil_append, List.append_nil, List.mem_cons, List.not_mem_nil, or_false, forall_eq_or_imp, forall_eq, Bool.and_eq_true, hg, Bool.not_false, Bool.not_true, and_self]; done) | (simp only [Gt] at hg; simp only [All, List.cons_append, List.nil_append, List.append_nil, List.mem_cons, List.not_mem_nil, or_false, forall_eq_or_imp, forall_eq, hg, and_self])) m0 Try.isAgg3 rfl rfl rfl ?_; clear hC a; intro a hC
    refine L.pu hC rfl rfl (fun hg => by first | (simp only [Gt, Bool.and_eq_true] at hg; simp only [All, List.cons_append, List.nil_append, List.append_nil, List.mem_cons, List.not_mem_nil, or_false, forall_eq_or_imp, forall_eq, Bool.and_eq_true, hg, Bool.not_false, Bool.not_true, and_self]; done) | (simp only [Gt] at hg; simp only [All, List.cons_append, List.nil_append, List.append_nil, List.mem_cons, List.not_mem_nil, or_false, forall_eq_or_imp, forall_eq, hg, and_self])) rfl rfl ?_; clear hC a; intro a hC
    refine L.pu hC rfl rfl (fun hg => by first | (simp only [Gt, Bool.and_eq_true] at hg; simp only [All, List.cons_append, List.nil_append, List.append_nil, List.mem_cons, List.not_mem_nil, or_false, forall_eq_or_imp, forall_eq, Bool.and_eq_true, hg, Bool.not_false, Bool.not_true, and_self]; done) | (simp only [Gt] at hg; simp only [All, List.cons_append, List.nil_append, List.append_nil, List.mem_cons, List.not_mem_nil, or_false, forall_eq_or_imp, forall_eq, hg, and_self])) rfl rfl ?_; clear hC a; intro a hC
    refine L.fa hC rfl rfl rfl (fun _ => All.nil) Try.underlying53 rfl Try.sizeOf3 rfl rfl rfl ?_; clear hC a; intro a hC
    refine L.ld hC rfl rfl rfl (fun hg => by first | (simp only [Gt, Bool.and_eq_true] at hg; simp only [All, List.cons_append, List.nil_append, List.append_nil, List.mem_cons, List.not_mem_nil, or_false, forall_eq_or_imp, forall_eq, Bool.and_eq_true, hg, Bool.not_false, Bool.not_true, and_self]; done) | (simp only [Gt] at hg; simp only [All, List.cons_append, List.nil_append, List.append_nil, List.mem_cons, List.not_mem_nil, or_false, forall_eq_or_imp, forall_eq, hg, and_self])) m0 Try.isAgg3 rfl rfl rfl ?_; clear hC a; intro a hC
    refine L.pu hC rfl rfl (fun hg => by first | (simp only [Gt, Bool.and_eq_true] at hg; simp only [All, List.cons_append, List.nil_append, List.append_nil, List.mem_cons, List.not_mem_nil, or_false, forall_eq_or_imp, forall_eq, Bool.and_eq_true, hg, Bool.not_false, Bool.not_true, and_self]; done) | (simp only [Gt] at hg; simp only [All, List.cons_append, List.nil_append, List.append_nil, List.mem_cons, List.not_mem_nil, or_false, forall_eq_or_imp, forall_eq, hg, and_self])) rfl rfl ?_; clear hC a; intro a hC
    refine L.and hC rfl rfl rfl rfl (fun hg => by first | (simp only [Gt, Bool.and_eq_true] at hg; simp only [All, List.cons_append, List.nil_append, List.append_nil, List.mem_cons, List.not_mem_nil, or_false, forall_eq_or_imp, forall_eq, Bool.and_eq_true, hg, Bool.not_false, Bool.not_true, and_self]; done) | (simp only [Gt] at hg; simp only [All, List.cons_append, List.nil_append, List.append_nil, List.mem_cons, List.not_mem_nil, or_false, forall_eq_or_imp, forall_eq, hg, and_self])) (fun hg hp => by first | (simp only [Gt, Bool.and_eq_true] at hg; simp only [All, List.cons_append, List.nil_append, List.append_nil, List.mem_cons, List.not_mem_nil, or_false, forall_eq_or_imp, forall_eq, Bool.and_eq_true, hg, hp, Bool.not_false, Bool.not_true, and_self]; done) | (simp only [Gt] at hg; simp only [All, List.cons_append, List.nil_append, List.append_nil, List.mem_cons, List.not_mem_nil, or_false, forall_eq_or_imp, forall_eq, Bool.and_eq_true]; exact ⟨hg, by simp only [hp, Bool.not_false]⟩)) rfl rfl ?_; clear hC a; intro a hC
    refine L.or hC rfl rfl rfl rfl (fun _ => All.nil) (fun _ hp => by first | (simp only [All, List.cons_append, List.nil_append, List.append_nil, List.mem_cons, List.not_mem_nil, or_false, forall_eq_or_imp, forall_eq, Bool.and_eq_true, hp, Bool.not_false, Bool.not_true, and_self]; done) | simp [All, hp]) rfl rfl ?_; clear hC a; intro a hC
    refine L.pu hC rfl rfl (fun _ => All.nil) rfl rfl ?_; clear hC a; intro a hC
    refine L.nil ?_
    refine hk5 _ _ ?_; clear hk5; try clear k5
    refine W.cond hC rfl (fun h2 => ?_) (fun h2 => ?_)
    ·
      refine W.seqk fun k6 hk6 => ?_
      refine W.region ?_
      refine L.pu hC rfl rfl (fun _ => All.nil) rfl rfl ?_; clear hC a; intro a hC
      refine L.nil ?_
      refine hk6 _ _ ?_; clear hk6; try clear k6
      refine W.ret ?_
      refine rets hC rfl (.tmp rfl .nil) ?_
      refine ⟨?_, hC.frm⟩
      exact congrArg (fun x => Ending.returned (.int .i64 x)) ((led_b h1 h2).symm)
    ·
      refine W.seqk fun k7 hk7 => ?_
      refine W.region ?_
      refine L.fa hC rfl rfl rfl (fun _ => All.nil) Try.underlying53 rfl Try.sizeOf3 rfl rfl rfl ?_; clear hC a; intro a hC
      refine L.ld hC rfl rfl rfl (fun _ => All.nil) m0 Try.isAgg3 rfl rfl rfl ?_; clear hC a; intro a hC
      refine L.pu hC rfl rfl (fun _ => All.nil) rfl rfl ?_; clear hC a; intro a hC
      refine L.pu hC rfl rfl (fun _ => All.nil) rfl rfl ?_; clear hC a; intro a hC
      refine L.fa hC rfl rfl rfl (fun _ => All.nil) Try.underlying53 rfl Try.sizeOf3 rfl rfl rfl ?_; clear hC a; intro a hC
      refine L.ld hC rfl rfl rfl (fun hg => by first | (simp only [Gt, Bool.and_eq_true] at hg; simp only [All, List.cons_append, List.nil_append, List.append_nil, List.mem_cons, List.not_mem_nil, or_false, forall_eq_or_imp, forall_eq, Bool.and_eq_true, hg, Bool.not_false, Bool.not_true, and_self]; done) | (simp only [Gt] at hg; simp only [All, List.cons_append, List.nil_append, List.append_nil, List.mem_cons, List.not_mem_nil, or_false, forall_eq_or_imp, forall_eq, hg, and_self])) m0 Try.isAgg3 rfl rfl rfl ?_; clear hC a; intro a hC
      refine L.pu hC rfl rfl (fun hg => by first | (simp only [Gt, Bool.and_eq_true] at hg; simp only [All, List.cons_append, List.nil_append, List.append_nil, List.mem_cons, List.not_mem_nil, or_false, forall_eq_or_imp, forall_eq, Bool.and_eq_true, hg, Bool.not_false, Bool.not_true, and_self]; done) | (simp only [Gt] at hg; simp only [All, List.cons_append, List.nil_append, List.append_nil, List.mem_cons, List.not_mem_nil, or_false, forall_eq_or_imp, forall_eq, hg, and_self])) rfl rfl ?_; clear hC a; intro a hC
      refine L.and hC rfl rfl rfl rfl (fun _ => All.nil) (fun _ hp => by first | (simp only [All, List.cons_append, List.nil_append, List.append_nil, List.mem_cons, List.not_mem_nil, or_false, forall_eq_or_imp, forall_eq, Bool.and_eq_true, hp, Bool.not_false, Bool.not_true, and_self]; done) | simp [All, hp]) rfl rfl ?_; clear hC a; intro a hC
      refine L.pu hC rfl rfl (fun _ => All.nil) rfl rfl ?_; clear hC a; intro a hC
      refine L.fa hC rfl rfl rfl (fun _ => All.nil) Try.underlying53 rfl Try.sizeOf3 rfl rfl rfl ?_; clear hC a; intro a hC
      refine L.ld hC rfl rfl rfl (fun hg => by first | (simp only [Gt, Bool.and_eq_true] at hg; simp only [All, List.cons_append, List.nil_append, List.append_nil, List.mem_cons, List.not_mem_nil, or_false, forall_eq_or_imp, forall_eq, Bool.and_eq_true, hg, Bool.not_false, Bool.not_true, and_self]; done) | (simp only [Gt] at hg; simp only [All, List.cons_append, List.nil_append, List.append_nil, List.mem_cons, List.not_mem_nil, or_false, forall_eq_or_imp, forall_eq, hg, and_self])) m0 Try.isAgg3 rfl rfl rfl ?_; clear hC a; intro a hC
      refine L.pu hC rfl rfl (fun hg => by first | (simp only [Gt, Bool.and_eq_true] at hg; simp only [All, List.cons_append, List.nil_append, List.append_nil, List.mem_cons, List.not_mem_nil, or_false, forall_eq_or_imp, forall_eq, Bool.and_eq_true, hg, Bool.not_false, Bool.not_true, and_self]; done) | (simp only [Gt] at hg; simp only [All, List.cons_append, List.nil_append, List.append_nil, List.mem_cons, List.not_mem_nil, or_false, forall_eq_or_imp, forall_eq, hg, and_self])) rfl rfl ?_; clear hC a; intro a hC
      refine L.pu hC rfl rfl (fun hg => by first | (simp only [Gt, Bool.and_eq_true] at hg; simp only [All, List.cons_append, List.nil_append, List.append_nil, List.mem_cons, List.not_mem_nil, or_false, forall_eq_or_imp, forall_eq, Bool.and_eq_true, hg, Bool.not_false, Bool.not_true, and_self]; done) | (simp only [Gt] at hg; simp only [All, List.cons_append, List.nil_append, List.append_nil, List.mem_cons, List.not_mem_nil, or_false, forall_eq_or_imp, forall_eq, hg, and_self])) rfl rfl ?_; clear hC a; intro a hC
      refine L.fa hC rfl rfl rfl (fun _ => All.nil) Try.underlying53 rfl Try.sizeOf3 rfl rfl rfl ?_; clear hC a; intro a hC
      refine L.ld hC rfl rfl rfl (fun hg => by first | (simp only [Gt, Bool.and_eq_true] at hg; simp only [All, List.cons_append, List.nil_append, List.append_nil, List.mem_cons, List.not_mem_nil, or_false, forall_eq_or_imp, forall_eq, Bool.and_eq_true, hg, Bool.not_false, Bool.not_true, and_self]; done) | (simp only [Gt] at hg; simp only [All, List.cons_append, List.nil_append, List.append_nil, List.mem_cons, List.not_mem_nil, or_false, forall_eq_or_imp, forall_eq, hg, and_self])) m0 Try.isAgg3 rfl rfl rfl ?_; clear hC a; intro a hC
      refine L.pu hC rfl rfl (fun hg => by first | (simp only [Gt, Bool.and_eq_true] at hg; simp only [All, List.cons_append, List.nil_append, List.append_nil, List.mem_cons, List.not_mem_nil, or_false, forall_eq_or_imp, forall_eq, Bool.and_eq_true, hg, Bool.not_false, Bool.not_true, and_self]; done) | (simp only [Gt] at hg; simp only [All, List.cons_append, List.nil_append, List.append_nil, List.mem_cons, List.not_mem_nil, or_false, forall_eq_or_imp, forall_eq, hg, and_self])) rfl rfl ?_; clear hC a; intro a hC
      refine L.and hC rfl rfl rfl rfl (fun hg => by first | (simp only [Gt, Bool.and_eq_true] at hg; simp only [All, List.cons_append, List.nil_append, List.append_nil, List.mem_cons, List.not_mem_nil, or_false, forall_eq_or_imp, forall_eq, Bool.and_eq_true, hg, Bool.not_false, Bool.not_true, and_self]; done) | (simp only [Gt] at hg; simp only [All, List.cons_append, List.nil_append, List.append_nil, List.mem_cons, List.not_mem_nil, or_false, forall_eq_or_imp, forall_eq, hg, and_self])) (fun hg hp => by first | (simp only [Gt, Bool.and_eq_true] at hg; simp only [All, List.cons_append, List.nil_append, List.append_nil, List.mem_cons, List.not_mem_nil, or_false, forall_eq_or_imp, forall_eq, Bool.and_eq_true, hg, hp, Bool.not_false, Bool.not_true, and_self]; done) | (simp only [Gt] at hg; simp only [All, List.cons_append, List.nil_append, List.append_nil, List.mem_cons, List.not_mem_nil, or_false, forall_eq_or_imp, forall_eq, Bool.and_eq_true]; exact ⟨hg, by simp only [hp, Bool.not_false]⟩)) rfl rfl ?_; clear hC a; intro a hC
      refine L.or hC rfl rfl rfl rfl (fun _ => All.nil) (fun _ hp => by first | (simp only [All, List.cons_append, List.nil_append, List.append_nil, List.mem_cons, List.not_mem_nil, or_false, forall_eq_or_imp, forall_eq, Bool.and_eq_true, hp, Bool.not_false, Bool.not_true, and_self]; done) | simp [All, hp]) rfl rfl ?_; clear hC a; intro a hC
      refine L.pu hC rfl rfl (fun _ => All.nil) rfl rfl ?_; clear hC a; intro a hC
      refine L.fa hC rfl rfl rfl (fun _ => All.nil) Try.underlying53 rfl Try.sizeOf3 rfl rfl rfl ?_; clear hC a; intro a hC
      refine L.ld hC rfl rfl rfl (fun hg => by first | (simp only [Gt, Bool.and_eq_true] at hg; simp only [All, List.cons_append, List.nil_append, List.append_nil, List.mem_cons, List.not_mem_nil, or_false, forall_eq_or_imp, forall_eq, Bool.and_eq_true, hg, Bool.not_false, Bool.not_true, and_self]; done) | (simp only [Gt] at hg; simp only [All, List.cons_append, List.nil_append, List.append_nil, List.mem_cons, List.not_mem_nil, or_false, forall_eq_or_imp, forall_eq, hg, and_self])) m0 Try.isAgg3 rfl rfl rfl ?_; clear hC a; intro a hC
      refine L.pu hC rfl rfl (fun hg => by first | (simp only [Gt, Bool.and_eq_true] at hg; simp only [All, List.cons_append, List.nil_append, List.append_nil, List.mem_cons, List.not_mem_nil, or_false, forall_eq_or_imp, forall_eq, Bool.and_eq_true, hg, Bool.not_false, Bool.not_true, and_self]; done) | (simp only [Gt] at hg; simp only [All, List.cons_append, List.nil_append, List.append_nil, List.mem_cons, List.not_mem_nil, or_false, forall_eq_or_imp, forall_eq, hg, and_self])) rfl rfl ?_; clear hC a; intro a hC
      refine L.pu hC rfl rfl (fun hg => by first | (simp only [Gt, Bool.and_eq_true] at hg; simp only [All, List.cons_append, List.nil_append, List.append_nil, List.mem_cons, List.not_mem_nil, or_false, forall_eq_or_imp, forall_eq, Bool.and_eq_true, hg, Bool.not_false, Bool.not_true, and_self]; done) | (simp only [Gt] at hg; simp only [All, List.cons_append, List.nil_append, List.append_nil, List.mem_cons, List.not_mem_nil, or_false, forall_eq_or_imp, forall_eq, hg, and_self])) rfl rfl ?_; clear hC a; intro a hC
      refine L.fa hC rfl rfl rfl (fun _ => All.nil) Try.underlying53 rfl Try.sizeOf3 rfl rfl rfl ?_; clear hC a; intro a hC
      refine L.ld hC rfl rfl rfl (fun hg => by first | (simp only [Gt, Bool.and_eq_true] at hg; simp only [All, List.cons_append, List.nil_append, List.append_nil, List.mem_cons, List.not_mem_nil, or_false, forall_eq_or_imp, forall_eq, Bool.and_eq_true, hg, Bool.not_false, Bool.not_true, and_self]; done) | (simp only [Gt] at hg; simp only [All, List.cons_append, List.nil_append, List.append_nil, List.mem_cons, List.not_mem_nil, or_false, forall_eq_or_imp, forall_eq, hg, and_self])) m0 Try.isAgg3 rfl rfl rfl ?_; clear hC a; intro a hC
      refine L.pu hC rfl rfl (fun hg => by first | (simp only [Gt, Bool.and_eq_true] at hg; simp only [All, List.cons_append, List.nil_append, List.append_nil, List.mem_cons, List.not_mem_nil, or_false, forall_eq_or_imp, forall_eq, Bool.and_eq_true, hg, Bool.not_false, Bool.not_true, and_self]; done) | (simp only [Gt] at hg; simp only [All, List.cons_append, List.nil_append, List.append_nil, List.mem_cons, List.not_mem_nil, or_false, forall_eq_or_imp, forall_eq, hg, and_self])) rfl rfl ?_; clear hC a; intro a hC
      refine L.and hC rfl rfl rfl rfl (fun hg => by first | (simp only [Gt, Bool.and_eq_true] at hg; simp only [All, List.cons_append, List.nil_append, List.append_nil, List.mem_cons, List.not_mem_nil, or_false, forall_eq_or_imp, forall_eq, Bool.and_eq_true, hg, Bool.not_false, Bool.not_true, and_self]; done) | (simp only [Gt] at hg; simp only [All, List.cons_append, List.nil_append, List.append_nil, List.mem_cons, List.not_mem_nil, or_false, forall_eq_or_imp, forall_eq, hg, and_self])) (fun hg hp => by first | (simp only [Gt, Bool.and_eq_true] at hg; simp only [All, List.cons_append, List.nil_append, List.append_nil, List.mem_cons, List.not_mem_nil, or_false, forall_eq_or_imp, forall_eq, Bool.and_eq_true, hg, hp, Bool.not_false, Bool.not_true, and_self]; done) | (simp only [Gt] at hg; simp only [All, List.cons_append, List.nil_append, List.append_nil, List.mem_cons, List.not_mem_nil, or_false, forall_eq_or_imp, forall_eq, Bool.and_eq_true]; exact ⟨hg, by simp only [hp, Bool.not_false]⟩)) rfl rfl ?_; clear hC a; intro a hC
      refine L.or hC rfl rfl rfl rfl (fun _ => All.nil) (fun _ hp => by first | (simp only [All, List.cons_append, List.nil_append, List.append_nil, List.mem_cons, List.not_mem_nil, or_false, forall_eq_or_imp, forall_eq, Bool.and_eq_true, hp, Bool.not_false, Bool.not_true, and_self]; done) | simp [All, hp]) rfl rfl ?_; clear hC a; intro a hC
      refine L.pu hC rfl rfl (fun _ => All.nil) rfl rfl ?_; clear hC a; intro a hC
      refine L.nil ?_
      refine hk7 _ _ ?_; clear hk7; try clear k7
      refine W.cond hC rfl (fun h3 => ?_) (fun h3 => ?_)
      ·
        refine W.seqk fun k8 hk8 => ?_
        refine W.region ?_
        refine L.pu hC rfl rfl (fun _ => All.nil) rfl rfl ?_; clear hC a; intro a hC
        refine L.nil ?_
        refine hk8 _ _ ?_; clear hk8; try clear k8
        refine W.ret ?_
        refine rets hC rfl (.tmp rfl .nil) ?_
        refine ⟨?_, hC.frm⟩
        exact congrArg (fun x => Ending.returned (.int .i64 x)) ((led_c h1 h2 h3).symm)
      ·
        refine W.skip ?_
        refine hk2 _ _ ?_; clear hk2; try clear k2
        refine W.seqk fun k9 hk9 => ?_
        refine W.region ?_
        refine L.pu hC rfl rfl (fun _ => All.nil) rfl rfl ?_; clear hC a; intro a hC
        refine L.nil ?_
        refine hk9 _ _ ?_; clear hk9; try clear k9
        refine W.ret ?_
        refine rets hC rfl (.tmp rfl .nil) ?_
        refine ⟨?_, hC.frm⟩
        exact congrArg (fun x => Ending.returned (.int .i64 x)) ((led_d h1 h2 h3).symm)

theorem bo18_ok (s : Bo) (w0 : World) : Calls Try.prog 91 #[.agg (boE s).toArray] w0 fun e w' => e = .returned (.int .i64 (boR s)) ∧ Frm Nob w0 w' := by
  refine enter (μ := []) (S := Nob) (vs := [.agg (boE s).toArray]) Try.func91 rfl Try.ntmps91 rfl (Mem.nil _) (by simp) (fun a hC => ?_)
  refine W.seqk fun k1 hk1 => ?_
  refine W.region ?_
  refine L.box hC rfl rfl rfl rfl rfl rfl ?_; clear hC a; intro bb a w hF hC
  refine L.pu hC rfl rfl (fun _ => All.nil) rfl rfl ?_; clear hC a; intro a hC
  refine L.nil ?_
  refine hk1 _ _ ?_; clear hk1; try clear k1
  refine W.seqk fun k2 hk2 => ?_
  refine W.seqk fun k3 hk3 => ?_
  refine W.region ?_
  refine L.fa hC rfl rfl rfl (fun _ => All.nil) Try.underlying58 rfl Try.sizeOf3 rfl rfl rfl ?_; clear hC a; intro a hC
  refine L.ld hC rfl rfl rfl (fun _ => All.nil) m0 Try.isAgg3 rfl rfl rfl ?_; clear hC a; intro a hC
  refine L.pu hC rfl rfl (fun _ => All.nil) rfl rfl ?_; clear hC a; intro a hC
  refine L.pu hC rfl rfl (fun _ => All.nil) rfl rfl ?_; clear hC a; intro a hC
  refine L.fa hC rfl rfl rfl (fun _ => All.nil) Try.underlying58 rfl Try.sizeOf3 rfl rfl rfl ?_; clear hC a; intro a hC
  refine L.ld hC rfl rfl rfl (fun hg => by first | (simp only [Gt, Bool.and_eq_true] at hg; simp only [All, List.cons_append, List.nil_append, List.append_nil, List.mem_cons, List.not_mem_nil, or_false, forall_eq_or_imp, forall_eq, Bool.and_eq_true, hg, Bool.not_false, Bool.not_true, and_self]; done) | (simp only [Gt] at hg; simp only [All, List.cons_append, List.nil_append, List.append_nil, List.mem_cons, List.not_mem_nil, or_false, forall_eq_or_imp, forall_eq, hg, and_self])) m0 Try.isAgg3 rfl rfl rfl ?_; clear hC a; intro a hC
  refine L.pu hC rfl rfl (fun hg => by first | (simp only [Gt, Bool.and_eq_true] at hg; simp only [All, List.cons_append, List.nil_append, List.append_nil, List.mem_cons, List.not_mem_nil, or_false, forall_eq_or_imp, forall_eq, Bool.and_eq_true, hg, Bool.not_false, Bool.not_true, and_self]; done) | (simp only [Gt] at hg; simp only [All, List.cons_append, List.nil_append, List.append_nil, List.mem_cons, List.not_mem_nil, or_false, forall_eq_or_imp, forall_eq, hg, and_self])) rfl rfl ?_; clear hC a; intro a hC
  refine L.or hC rfl rfl rfl rfl (fun _ => All.nil) (fun _ hp => by first | (simp only [All, List.cons_append, List.nil_append, List.append_nil, List.mem_cons, List.not_mem_nil, or_false, forall_eq_or_imp, forall_eq, Bool.and_eq_true, hp, Bool.not_false, Bool.not_true, and_self]; done) | simp [All, hp]) rfl rfl ?_; clear hC a; intro a hC
  refine L.pu hC rfl rfl (fun _ => All.nil) rfl rfl ?_; clear hC a; intro a hC
  refine L.fa hC rfl rfl rfl (fun _ => All.nil) Try.underlying58 rfl Try.sizeOf3 rfl rfl rfl ?_; clear hC a; intro a hC
  refine L.ld hC rfl rfl rfl (fun hg => by first | (simp only [Gt, Bool.and_eq_true] at hg; simp only [All, List.cons_append, List.nil_append, List.append_nil, List.mem_cons, List.not_mem_nil, or_false, forall_eq_or_imp, forall_eq, Bool.and_eq_true, hg, Bool.not_false, Bool.not_true, and_self]; done) | (simp only [Gt] at hg; simp only [All, List.cons_append, List.nil_append, List.append_nil, List.mem_cons, List.not_mem_nil, or_false, forall_eq_or_imp, forall_eq, hg, and_self])) m0 Try.isAgg3 rfl rfl rfl ?_; clear hC a; intro a hC
  refine L.fa hC rfl rfl rfl (fun _ => All.nil) Try.underlying58 rfl Try.sizeOf3 rfl rfl rfl ?_; clear hC a; intro a hC
  refine L.ld hC rfl rfl rfl (fun hg => by first | (simp only [Gt, Bool.and_eq_true] at hg; simp only [All, List.cons_append, List.nil_append, List.append_nil, List.mem_cons, List.not_mem_nil, or_false, forall_eq_or_imp, forall_eq, Bool.and_eq_true, hg, Bool.not_false, Bool.not_true, and_self]; done) | (simp only [Gt] at hg; simp only [All, List.cons_append, List.nil_append, List.append_nil, List.mem_cons, List.not_mem_nil, or_false, forall_eq_or_imp, forall_eq, hg, and_self])) m0 Try.isAgg3 rfl rfl rfl ?_; clear hC a; intro a hC
  refine L.pu hC rfl rfl (fun hg => by first | (simp only [Gt, Bool.and_eq_true] at hg; simp only [All, List.cons_append, List.nil_append, List.append_nil, List.mem_cons, List.not_mem_nil, or_false, forall_eq_or_imp, forall_eq, Bool.and_eq_true, hg, Bool.not_false, Bool.not_true, and_self]; done) | (simp only [Gt] at hg; simp only [All, List.cons_append, List.nil_append, List.append_nil, List.mem_cons, List.not_mem_nil, or_false, forall_eq_or_imp, forall_eq, hg, and_self])) rfl rfl ?_; clear hC a; intro a hC
  refine L.or hC rfl rfl rfl rfl (fun _ => All.nil) (fun _ hp => by first | (simp only [All, List.cons_append, List.nil_append, List.append_nil, List.mem_cons, List.not_mem_nil, or_false, forall_eq_or_imp, forall_eq, Bool.and_eq_true, hp, Bool.not_false, Bool.not_true, and_self]; done) | simp [All, hp]) rfl rfl ?_; clear hC a; intro a hC
  refine L.pu hC rfl rfl (fun _ => All.nil) rfl rfl ?_; clear hC a; intro a hC
  refine L.fa hC rfl rfl rfl (fun _ => All.nil) Try.underlying58 rfl Try.sizeOf3 rfl rfl rfl ?_; clear hC a; intro a hC
  refine L.ld hC rfl rfl rfl (fun hg => by first | (simp only [Gt, Bool.and_eq_true] at hg; simp only [All, List.cons_append, List.nil_append, List.append_nil, List.mem_cons, List.not_mem_nil, or_false, forall_eq_or_imp, forall_eq, Bool.and_eq_true, hg, Bool.not_false, Bool.not_true, and_self]; done) | (simp only [Gt] at hg; simp only [All, List.cons_append, List.nil_append, List.append_nil, List.mem_cons, List.not_mem_nil, or_false, forall_eq_or_imp, forall_eq, hg, and_self])) m0 Try.isAgg3 rfl rfl rfl ?_; clear hC a; intro a hC
  refine L.pu hC rfl rfl (fun hg => by first | (simp only [Gt, Bool.and_eq_true] at hg; simp only [All, List.cons_append, List.nil_append, List.append_nil, List.mem_cons, List.not_mem_nil, or_false, forall_eq_or_imp, forall_eq, Bool.and_eq_true, hg, Bool.not_false, Bool.not_true, and_self]; done) | (simp only [Gt] at hg; simp only [All, List.cons_append, List.nil_append, List.append_nil, List.mem_cons, List.not_mem_nil, or_false, forall_eq_or_imp, forall_eq, hg, and_self])) rfl rfl ?_; clear hC a; intro a hC
  refine L.or hC rfl rfl rfl rfl (fun _ => All.nil) (fun _ hp => by first | (simp only [All, List.cons_append, List.nil_append, List.append_nil, List.mem_cons, List.not_mem_nil, or_false, forall_eq_or_imp, forall_eq, Bool.and_eq_true, hp, Bool.not_false, Bool.not_true, and_self]; done) | simp [All, hp]) rfl rfl ?_; clear hC a; intro a hC
  refine L.pu hC rfl rfl (fun _ => All.nil) rfl rfl ?_; clear hC a; intro a hC
  refine L.fa hC rfl rfl rfl (fun _ => All.nil) Try.underlying58 rfl Try.sizeOf3 rfl rfl rfl ?_; clear hC a; intro a hC
  refine L.ld hC rfl rfl rfl (fun hg => by first | (simp only [Gt, Bool.and_eq_true] at hg; simp only [All, List.cons_append, List.nil_append, List.append_nil, List.mem_cons, List.not_mem_nil, or_false, forall_eq_or_imp, forall_eq, Bool.and_eq_true, hg, Bool.not_false, Bool.not_true, and_self]; done) | (simp only [Gt] at hg; simp only [All, List.cons_append, List.nil_append, List.append_nil, List.mem_cons, List.not_mem_nil, or_false, forall_eq_or_imp, forall_eq, hg, and_self])) m0 Try.isAgg3 rfl rfl rfl ?_; clear hC a; intro a hC
  refine L.pu hC rfl rfl (fun hg => by first | (simp only [Gt, Bool.and_eq_true] at hg; simp only [All, List.cons_append, List.nil_append, List.append_nil, List.mem_cons, List.not_mem_nil, or_false, forall_eq_or_imp, forall_eq, Bool.and_eq_true, hg, Bool.not_false, Bool.not_true, and_self]; done) | (simp only [Gt] at hg; simp only [All, List.cons_append, List.nil_append, List.append_nil, List.mem_cons, List.not_mem_nil, or_false, forall_eq_or_imp, forall_eq, hg, and_self])) rfl rfl ?_; clear hC a; intro a hC
  refine L.or hC rfl rfl rfl rfl (fun _ => All.nil) (fun _ hp => by first | (simp only [All, List.cons_append, List.nil_append, List.append_nil, List.mem_cons, List.not_mem_nil, or_false, forall_eq_or_imp, forall_eq, Bool.and_eq_true, hp, Bool.not_false, Bool.not_true, and_self]; done) | simp [All, hp]) rfl rfl ?_; clear hC a; intro a hC
  refine L.pu hC rfl rfl (fun _ => All.nil) rfl rfl ?_; clear hC a; intro a hC
  refine L.fa hC rfl rfl rfl (fun _ => All.nil) Try.underlying58 rfl Try.sizeOf3 rfl rfl rfl ?_; clear hC a; intro a hC
  refine L.ld hC rfl rfl rfl (fun hg => by first | (simp only [Gt, Bool.and_eq_true] at hg; simp only [All, List.cons_append, List.nil_append, List.append_nil, List.mem_cons, List.not_mem_nil, or_false, forall_eq_or_imp, forall_eq, Bool.and_eq_true, hg, Bool.not_false, Bool.not_true, and_self]; done) | (simp only [Gt] at hg; simp only [All, List.cons_append, List.nil_append, List.append_nil, List.mem_cons, List.not_mem_nil, or_false, forall_eq_or_imp, forall_eq, hg, and_self])) m0 Try.isAgg3 rfl rfl rfl ?_; clear hC a; intro a hC
  refine L.pu hC rfl rfl (fun hg => by first | (simp only [Gt, Bool.and_eq_true] at hg; simp only [All, List.cons_append, List.nil_append, List.append_nil, List.mem_cons, List.not_mem_nil, or_false, forall_eq_or_imp, forall_eq, Bool.and_eq_true, hg, Bool.not_false, Bool.not_true, and_self]; done) | (simp only [Gt] at hg; simp only [All, List.cons_append, List.nil_append, List.append_nil, List.mem_cons, List.not_mem_nil, or_false, forall_eq_or_imp, forall_eq, hg, and_self])) rfl rfl ?_; clear hC a; intro a hC
  refine L.or hC rfl rfl rfl rfl (fun _ => All.nil) (fun _ hp => by first | (simp only [All, List.cons_append, List.nil_append, List.append_nil, List.mem_cons, List.not_mem_nil, or_false, forall_eq_or_imp, forall_eq, Bool.and_eq_true, hp, Bool.not_false, Bool.not_true, and_self]; done) | simp [All, hp]) rfl rfl ?_; clear hC a; intro a hC
  refine L.nil ?_
  refine hk3 _ _ ?_; clear hk3; try clear k3
  refine W.cond hC rfl (fun h1 => ?_) (fun h1 => ?_)
  ·
    refine W.seqk fun k4 hk4 => ?_
    refine W.region ?_
    refine L.pu hC rfl rfl (fun _ => All.nil) rfl rfl ?_; clear hC a; intro a hC
    refine L.nil ?_
    refine hk4 _ _ ?_; clear hk4; try clear k4
    refine W.ret ?_
    refine rets hC rfl (.tmp rfl .nil) ?_
    exact ⟨(by unfold boR; rw [if_pos h1]; try rfl), hC.frm⟩
  ·
    refine W.skip ?_
    refine hk2 _ _ ?_; clear hk2; try clear k2
    refine W.seqk fun k5 hk5 => ?_
    refine W.region ?_
    refine L.pu hC rfl rfl (fun _ => All.nil) rfl rfl ?_; clear hC a; intro a hC
    refine L.nil ?_
    refine hk5 _ _ ?_; clear hk5; try clear k5
    refine W.ret ?_
    refine rets hC rfl (.tmp rfl .nil) ?_
    exact ⟨(by unfold boR; rw [if_neg (nt h1)]; try rfl), hC.frm⟩

theorem most18_ok (s : Bo) (n : Int) (w0 : World) : Calls Try.prog 128 #[.agg (boE s).toArray, .int .i64 n] w0 fun e w' => e = .returned (.tuple #[.int .i64 (mostR s n).1, .int .i64 (mostR s n).2]) ∧ Frm Nob w0 w' := by
  refine enter (μ := []) (S := Nob) (vs := [.agg (boE s).toArray, .int .i64 n]) Try.func128 rfl Try.ntmps128 rfl (Mem.nil _) (by simp) (fun a hC => ?_)
  refine W.seqk fun k1 hk1 => ?_
  refine W.region ?_
  refine L.box hC rfl rfl rfl rfl rfl rfl ?_; clear hC a; intro db a w hF hC
  refine L.pu hC rfl rfl (fun _ => All.nil) rfl rfl ?_; clear hC a; intro a hC
  refine L.pu hC rfl rfl (fun _ => All.nil) rfl rfl ?_; clear hC a; intro a hC
  refine L.nil ?_
  refine hk1 _ _ ?_; clear hk1; try clear k1
  refine W.seqk fun k2 hk2 => ?_
  refine W.block ?_
  refine W.seqk fun k3 hk3 => ?_
  refine W.region ?_
  refine L.lda hC rfl rfl rfl (fun _ => All.nil) m0 Try.isAgg58 Try.sizeOf58 rfl rfl rfl rfl ?_; clear hC a; intro a hC
  refine L.call hC rfl rfl Try.call91 rfl (fun _ => All.nil) (fun hg => bo18_ok s _) rfl rfl ?_; clear hC a; intro a w hF hC
  refine L.pu hC rfl rfl (fun _ => All.nil) rfl rfl ?_; clear hC a; intro a hC
  refine L.pu hC rfl rfl (fun _ => All.nil) rfl rfl ?_; clear hC a; intro a hC
  refine L.nil ?_
  refine hk3 _ _ ?_; clear hk3; try clear k3
  refine W.cond hC rfl (fun h1 => ?_) (fun h1 => ?_)
  ·
    refine W.seqk fun k4 hk4 => ?_
    refine W.region ?_
    refine L.pu hC rfl rfl (fun _ => All.nil) rfl rfl ?_; clear hC a; intro a hC
    refine L.pu hC rfl rfl (fun _ => All.nil) rfl rfl ?_; clear hC a; intro a hC
    refine L.nil ?_
    refine hk4 _ _ ?_; clear hk4; try clear k4
    refine W.ret ?_
    refine retl hC rfl (.tmp rfl (.tmp rfl .nil)) rfl ?_
    exact ⟨(by rw [most_a h1]), hC.frm⟩
  ·
    refine W.seqk fun k5 hk5 => ?_
    refine W.region ?_
    refine L.pu hC rfl rfl (fun _ => All.nil) rfl rfl ?_; clear hC a; intro a hC
    refine L.pu hC rfl rfl (fun _ => All.nil) rfl rfl ?_; clear hC a; intro a hC
    refine L.pu hC rfl rfl (fun _ => All.nil) rfl rfl ?_; clear hC a; intro a hC
    refine L.pu hC rfl rfl (fun _ => All.nil) rfl rfl ?_; clear hC a; intro a hC
    refine L.pu hC rfl rfl (fun hg => by first | (simp only [Gt, Bool.and_eq_true] at hg; simp only [All, List.cons_append, List.nil_append, List.append_nil, List.mem_cons, List.not_mem_nil, or_false, forall_eq_or_imp, forall_eq, Bool.and_eq_true, hg, Bool.not_false, Bool.not_true, and_self]; done) | (simp only [Gt] at hg; simp only [All, List.cons_append, List.nil_append, List.append_nil, List.mem_cons, List.not_mem_nil, or_false, forall_eq_or_imp, forall_eq, hg, and_self])) rfl rfl ?_; clear hC a; intro a hC
    refine L.or hC rfl rfl rfl rfl (fun _ => All.nil) (fun _ hp => by first | (simp only [All, List.cons_append, List.nil_append, List.append_nil, List.mem_cons, List.not_mem_nil, or_false, forall_eq_or_imp, forall_eq, Bool.and_eq_true, hp, Bool.not_false, Bool.not_true, and_self]; done) | simp [All, hp]) rfl rfl ?_; clear hC a; intro a hC
    refine L.pu hC rfl rfl (fun _ => All.nil) rfl rfl ?_; clear hC a; intro a hC
    refine L.nil ?_
    refine hk5 _ _ ?_; clear hk5; try clear k5
    refine W.cond hC rfl (fun h2 => ?_) (fun h2 => ?_)
    ·
      refine W.seqk fun k6 hk6 => ?_
      refine W.region ?_
      refine L.pu hC rfl rfl (fun _ => All.nil) rfl rfl ?_; clear hC a; intro a hC
      refine L.pu hC rfl rfl (fun _ => All.nil) rfl rfl ?_; clear hC a; intro a hC
      refine L.nil ?_
      refine hk6 _ _ ?_; clear hk6; try clear k6
      refine W.ret ?_
      refine retl hC rfl (.tmp rfl (.tmp rfl .nil)) rfl ?_
      exact ⟨(by rw [most_b h1 h2]), hC.frm⟩
    ·
      have hn : 1 ≤ n ∧ n ≤ 64 := by simp only [Bool.or_eq_false_iff, decide_eq_false_iff_not] at h2; omega
      refine W.skip ?_
      refine hk2 _ _ ?_; clear hk2; try clear k2
      refine W.seqk fun k7 hk7 => ?_
      refine W.region ?_
      refine L.fa hC rfl rfl rfl (fun _ => All.nil) Try.underlying58 rfl Try.sizeOf3 rfl rfl rfl ?_; clear hC a; intro a hC
      refine L.ld hC rfl rfl rfl (fun _ => All.nil) m0 Try.isAgg3 rfl rfl rfl ?_; clear hC a; intro a hC
      refine L.pu hC rfl rfl (fun _ => All.nil) rfl rfl ?_; clear hC a; intro a hC
      refine L.nil ?_
      refine hk7 _ _ ?_; clear hk7; try clear k7
      refine W.seqk fun k8 hk8 => ?_
      refine W.seqk fun k9 hk9 => ?_
      refine W.region ?_
      refine L.pu hC rfl rfl (fun _ => All.nil) rfl rfl ?_; clear hC a; intro a hC
      refine L.nil ?_
      refine hk9 _ _ ?_; clear hk9; try clear k9
      refine W.block ?_
      refine W.loop (fun (j : Nat) a w' => ((j : Int) + 1 ≤ n) ∧ Conf 33 Nob w0 [(7, (none, .int .i64 ((j : Int) + 1))), (6, (none, .int .i64 (moN s j))), (1, (none, .int .i64 n)), (2, (none, .pointer (some ⟨db, 0, none⟩)))] [blkR db (boE s) 58] a w') (fun (j : Nat) => (n - j).toNat) 0 ?_ ?_
      · exact ⟨by simp; omega, hC.keep ⟨rfl, rfl, rfl, rfl, trivial⟩⟩
      · rintro j a w ⟨hj, hC⟩
        refine W.seqk fun k10 hk10 => ?_
        refine W.seqk fun k11 hk11 => ?_
        refine W.region ?_
        refine L.pu hC rfl rfl (fun _ => All.nil) rfl rfl ?_; clear hC a; intro a hC
        refine L.pu hC rfl rfl (fun _ => All.nil) rfl rfl ?_; clear hC a; intro a hC
        refine L.pu hC rfl rfl (fun _ => All.nil) rfl rfl ?_; clear hC a; intro a hC
        refine L.nil ?_
        refine hk11 _ _ ?_; clear hk11; try clear k11
        refine W.cond hC rfl (fun h3 => ?_) (fun h3 => ?_)
        ·
          have h3 := of_decide_eq_true h3
          refine W.skip ?_
          refine hk10 _ _ ?_; clear hk10; try clear k10
          refine W.seqk fun k12 hk12 => ?_
          refine W.block ?_
          refine W.region ?_
          refine L.fa hC rfl rfl rfl (fun _ => All.nil) Try.underlying58 rfl Try.sizeOf3 rfl rfl rfl ?_; clear hC a; intro a hC
          refine L.ld hC rfl rfl rfl (fun _ => All.nil) m0 Try.isAgg3 rfl rfl rfl ?_; clear hC a; intro a hC
          refine L.pu hC rfl rfl (fun _ => All.nil) rfl rfl ?_; clear hC a; intro a hC
          refine L.pu hC rfl rfl (fun _ => All.nil) rfl rfl ?_; clear hC a; intro a hC
          refine L.pu hC rfl rfl (fun _ => All.nil) rfl rfl ?_; clear hC a; intro a hC
          refine L.min2 hC rfl rfl rfl rfl (fun _ => All.nil) (fun _ => All.nil) rfl rfl ?_; clear hC a; intro a hC
          refine L.pu hC rfl rfl (fun _ => All.nil) rfl rfl ?_; clear hC a; intro a hC
          refine L.nil ?_
          refine hk12 _ _ ?_; clear hk12; try clear k12
          refine W.region ?_
          refine L.pu hC rfl rfl (fun _ => All.nil) rfl rfl ?_; clear hC a; intro a hC
          refine L.pu hC rfl rfl (fun _ => All.nil) rfl rfl ?_; clear hC a; intro a hC
          refine L.pu hC rfl rfl (fun _ => All.nil) rfl rfl ?_; clear hC a; intro a hC
          refine L.nil ?_
          exact ⟨j + 1, ⟨by omega, hC.keep ⟨geti rfl (w64 (by omega)), geti rfl (moN_step s j), rfl, rfl, trivial⟩⟩, by first | omega | (dsimp only; omega)⟩
        ·
          have h3 := of_decide_eq_false h3
          refine W.exit ?_
          refine Kb.here ?_
          refine hk8 _ _ ?_; clear hk8; try clear k8
          refine W.seqk fun k13 hk13 => ?_
          refine W.region ?_
          refine L.pu hC rfl rfl (fun _ => All.nil) rfl rfl ?_; clear hC a; intro a hC
          refine L.pu hC rfl rfl (fun _ => All.nil) rfl rfl ?_; clear hC a; intro a hC
          refine L.pu hC rfl rfl (fun _ => All.nil) rfl rfl ?_; clear hC a; intro a hC
          refine L.nil ?_
          refine hk13 _ _ ?_; clear hk13; try clear k13
          refine W.ret ?_
          refine retl hC rfl (.tmp rfl (.tmp rfl .nil)) rfl ?_
          exact ⟨(by rw [most_c h1 h2 (j := j) (by omega)]), hC.frm⟩

theorem sharer_any (x n : Int) (w0 : World) (hx : 0 ≤ x ∧ x < 18446744073709551616) : Calls Try.prog 129 #[.int .u64 x, .int .i64 n] w0 fun e w' => e = .returned (.tuple #[.int .i64 (shareR x n).1, .int .i64 (shareR x n).2]) ∧ Frm Nob w0 w' := by
  refine enter (μ := []) (S := Nob) (vs := [.int .u64 x, .int .i64 n]) Try.func129 rfl Try.ntmps129 rfl (Mem.nil _) (by simp) (fun a hC => ?_)
  refine W.seqk fun k1 hk1 => ?_
  refine W.region ?_
  refine L.pu hC rfl rfl (fun _ => All.nil) rfl rfl ?_; clear hC a; intro a hC
  refine L.pu hC rfl rfl (fun _ => All.nil) rfl rfl ?_; clear hC a; intro a hC
  refine L.nil ?_
  refine hk1 _ _ ?_; clear hk1; try clear k1
  refine W.seqk fun k2 hk2 => ?_
  refine W.seqk fun k3 hk3 => ?_
  refine W.region ?_
  refine L.pu hC rfl rfl (fun _ => All.nil) rfl rfl ?_; clear hC a; intro a hC
  refine L.pu hC rfl rfl (fun _ => All.nil) rfl rfl ?_; clear hC a; intro a hC
  refine L.pu hC rfl rfl (fun _ => All.nil) rfl rfl ?_; clear hC a; intro a hC
  refine L.pu hC rfl rfl (fun _ => All.nil) rfl rfl ?_; clear hC a; intro a hC
  refine L.pu hC rfl rfl (fun hg => by first | (simp only [Gt, Bool.and_eq_true] at hg; simp only [All, List.cons_append, List.nil_append, List.append_nil, List.mem_cons, List.not_mem_nil, or_false, forall_eq_or_imp, forall_eq, Bool.and_eq_true, hg, Bool.not_false, Bool.not_true, and_self]; done) | (simp only [Gt] at hg; simp only [All, List.cons_append, List.nil_append, List.append_nil, List.mem_cons, List.not_mem_nil, or_false, forall_eq_or_imp, forall_eq, hg, and_self])) rfl rfl ?_; clear hC a; intro a hC
  refine L.or hC rfl rfl rfl rfl (fun _ => All.nil) (fun _ hp => by first | (simp only [All, List.cons_append, List.nil_append, List.append_nil, List.mem_cons, List.not_mem_nil, or_false, forall_eq_or_imp, forall_eq, Bool.and_eq_true, hp, Bool.not_false, Bool.not_true, and_self]; done) | simp [All, hp]) rfl rfl ?_; clear hC a; intro a hC
  refine L.nil ?_
  refine hk3 _ _ ?_; clear hk3; try clear k3
  refine W.cond hC rfl (fun h1 => ?_) (fun h1 => ?_)
  ·
    refine W.seqk fun k4 hk4 => ?_
    refine W.region ?_
    refine L.pu hC rfl rfl (fun _ => All.nil) rfl rfl ?_; clear hC a; intro a hC
    refine L.pu hC rfl rfl (fun _ => All.nil) rfl rfl ?_; clear hC a; intro a hC
    refine L.nil ?_
    refine hk4 _ _ ?_; clear hk4; try clear k4
    refine W.ret ?_
    refine retl hC rfl (.tmp rfl (.tmp rfl .nil)) rfl ?_
    exact ⟨(by unfold shareR; rw [if_pos h1]; try rfl), hC.frm⟩
  ·
    refine W.skip ?_
    refine hk2 _ _ ?_; clear hk2; try clear k2
    refine W.seqk fun k5 hk5 => ?_
    refine W.region ?_
    refine L.pu hC rfl rfl (fun _ => All.nil) rfl rfl ?_; clear hC a; intro a hC
    refine L.bin hC rfl rfl rfl rfl (fun _ => All.nil) (fun _ => All.nil) (fun hg => run_shr (by decide) _) rfl rfl ?_; clear hC a; intro a hC
    refine L.pu hC rfl rfl (fun _ => All.nil) rfl rfl ?_; clear hC a; intro a hC
    refine L.conv hC rfl rfl rfl (fun _ => All.nil) Try.underlying3 Try.underlying61 rfl rfl ?_; clear hC a; intro a hC
    refine L.pu hC rfl rfl (fun _ => All.nil) rfl rfl ?_; clear hC a; intro a hC
    refine L.bin hC rfl rfl rfl rfl (fun _ => All.nil) (fun _ => All.nil) (fun hg => run_shr (by decide) _) rfl rfl ?_; clear hC a; intro a hC
    refine L.conv hC rfl rfl rfl (fun _ => All.nil) Try.underlying61 Try.underlying3 rfl rfl ?_; clear hC a; intro a hC
    refine L.pu hC rfl rfl (fun _ => All.nil) rfl rfl ?_; clear hC a; intro a hC
    refine L.pu hC rfl rfl (fun _ => All.nil) rfl rfl ?_; clear hC a; intro a hC
    refine L.nil ?_
    refine hk5 _ _ ?_; clear hk5; try clear k5
    refine W.ret ?_
    refine retl hC rfl (.tmp rfl (.tmp rfl .nil)) rfl ?_
    exact ⟨(by unfold shareR; rw [if_neg (nt h1)]; rw [← share_eq27 hx h1]; try rfl), hC.frm⟩

theorem delay18_ok (s : Bo) (n d : Int) (hd : 0 ≤ d ∧ d < 18446744073709551616) (w0 : World) : Calls Try.prog 84 #[.agg (boE s).toArray, .int .i64 n, .int .u64 d] w0 fun e w' => e = .returned (.tuple #[.int .i64 (delR s n d).1, .int .i64 (delR s n d).2]) ∧ Frm Nob w0 w' := by
  refine enter (μ := []) (S := Nob) (vs := [.agg (boE s).toArray, .int .i64 n, .int .u64 d]) Try.func84 rfl Try.ntmps84 rfl (Mem.nil _) (by simp) (fun a hC => ?_)
  refine W.seqk fun k1 hk1 => ?_
  refine W.region ?_
  refine L.box hC rfl rfl rfl rfl rfl rfl ?_; clear hC a; intro db a w hF hC
  refine L.pu hC rfl rfl (fun _ => All.nil) rfl rfl ?_; clear hC a; intro a hC
  refine L.pu hC rfl rfl (fun _ => All.nil) rfl rfl ?_; clear hC a; intro a hC
  refine L.nil ?_
  refine hk1 _ _ ?_; clear hk1; try clear k1
  refine W.seqk fun k2 hk2 => ?_
  refine W.region ?_
  refine L.lda hC rfl rfl rfl (fun _ => All.nil) m0 Try.isAgg58 Try.sizeOf58 rfl rfl rfl rfl ?_; clear hC a; intro a hC
  refine L.pu hC rfl rfl (fun _ => All.nil) rfl rfl ?_; clear hC a; intro a hC
  refine L.call hC rfl rfl Try.call128 rfl (fun _ => All.nil) (fun hg => most18_ok s n _) rfl rfl ?_; clear hC a; intro a w hF hC
  refine L.pu hC rfl rfl (fun _ => All.nil) rfl rfl ?_; clear hC a; intro a hC
  refine L.pu hC rfl rfl (fun _ => All.nil) rfl rfl ?_; clear hC a; intro a hC
  refine L.pu hC rfl rfl (fun _ => All.nil) rfl rfl ?_; clear hC a; intro a hC
  refine L.pu hC rfl rfl (fun _ => All.nil) rfl rfl ?_; clear hC a; intro a hC
  refine L.pu hC rfl rfl (fun _ => All.nil) rfl rfl ?_; clear hC a; intro a hC
  refine L.nil ?_
  refine hk2 _ _ ?_; clear hk2; try clear k2
  refine W.seqk fun k3 hk3 => ?_
  refine W.seqk fun k4 hk4 => ?_
  refine W.region ?_
  refine L.pu hC rfl rfl (fun _ => All.nil) rfl rfl ?_; clear hC a; intro a hC
  refine L.pu hC rfl rfl (fun _ => All.nil) rfl rfl ?_; clear hC a; intro a hC
  refine L.nil ?_
  refine hk4 _ _ ?_; clear hk4; try clear k4
  refine W.cond hC rfl (fun h1 => ?_) (fun h1 => ?_)
  ·
    refine W.seqk fun k5 hk5 => ?_
    refine W.region ?_
    refine L.pu hC rfl rfl (fun _ => All.nil) rfl rfl ?_; clear hC a; intro a hC
    refine L.pu hC rfl rfl (fun _ => All.nil) rfl rfl ?_; clear hC a; intro a hC
    refine L.pu hC rfl rfl (fun _ => All.nil) rfl rfl ?_; clear hC a; intro a hC
    refine L.nil ?_
    refine hk5 _ _ ?_; clear hk5; try clear k5
    refine W.ret ?_
    refine retl hC rfl (.tmp rfl (.tmp rfl .nil)) rfl ?_
    exact ⟨(by unfold delR; rw [if_pos h1]; try rfl), hC.frm⟩
  ·
    refine W.skip ?_
    refine hk3 _ _ ?_; clear hk3; try clear k3
    refine W.seqk fun k6 hk6 => ?_
    refine W.region ?_
    refine L.pu hC rfl rfl (fun _ => All.nil) rfl rfl ?_; clear hC a; intro a hC
    refine L.pu hC rfl rfl (fun _ => All.nil) rfl rfl ?_; clear hC a; intro a hC
    refine L.fa hC rfl rfl rfl (fun _ => All.nil) Try.underlying58 rfl Try.sizeOf3 rfl rfl rfl ?_; clear hC a; intro a hC
    refine L.ld hC rfl rfl rfl (fun _ => All.nil) m0 Try.isAgg3 rfl rfl rfl ?_; clear hC a; intro a hC
    refine L.pu hC rfl rfl (fun _ => All.nil) rfl rfl ?_; clear hC a; intro a hC
    refine L.bin hC rfl rfl rfl rfl (fun _ => All.nil) (fun _ => All.nil) (fun hg => run_quo (by decide) _) rfl rfl ?_; clear hC a; intro a hC
    refine L.pu hC rfl rfl (fun _ => All.nil) rfl rfl ?_; clear hC a; intro a hC
    refine L.min2 hC rfl rfl rfl rfl (fun _ => All.nil) (fun _ => All.nil) rfl rfl ?_; clear hC a; intro a hC
    refine L.call hC rfl rfl Try.call129 rfl (fun _ => All.nil) (fun hg => sharer_any _ _ _ hd) rfl rfl ?_; clear hC a; intro a w hF hC
    refine L.pu hC rfl rfl (fun _ => All.nil) rfl rfl ?_; clear hC a; intro a hC
    refine L.pu hC rfl rfl (fun _ => All.nil) rfl rfl ?_; clear hC a; intro a hC
    refine L.pu hC rfl rfl (fun _ => All.nil) rfl rfl ?_; clear hC a; intro a hC
    refine L.pu hC rfl rfl (fun _ => All.nil) rfl rfl ?_; clear hC a; intro a hC
    refine L.pu hC rfl rfl (fun _ => All.nil) rfl rfl ?_; clear hC a; intro a hC
    refine L.nil ?_
    refine hk6 _ _ ?_; clear hk6; try clear k6
    refine W.seqk fun k7 hk7 => ?_
    refine W.region ?_
    refine L.pu hC rfl rfl (fun _ => All.nil) rfl rfl ?_; clear hC a; intro a hC
    refine L.pu hC rfl rfl (fun _ => All.nil) rfl rfl ?_; clear hC a; intro a hC
    refine L.pu hC rfl rfl (fun _ => All.nil) rfl rfl ?_; clear hC a; intro a hC
    refine L.max2 hC rfl rfl rfl rfl (fun _ => All.nil) (fun _ => All.nil) rfl rfl ?_; clear hC a; intro a hC
    refine L.pu hC rfl rfl (fun _ => All.nil) rfl rfl ?_; clear hC a; intro a hC
    refine L.pu hC rfl rfl (fun _ => All.nil) rfl rfl ?_; clear hC a; intro a hC
    refine L.nil ?_
    refine hk7 _ _ ?_; clear hk7; try clear k7
    refine W.ret ?_
    refine retl hC rfl (.tmp rfl (.tmp rfl .nil)) rfl ?_
    exact ⟨(by rw [del_b h1]), hC.frm⟩

theorem setsr_ok (s : CSet) (w0 : World) : Calls Try.prog 41 #[.agg (csE s).toArray] w0 fun e w' => e = .returned (.int .i64 (setR s)) ∧ Frm Nob w0 w' := by
  refine enter (μ := []) (S := Nob) (vs := [.agg (csE s).toArray]) Try.func41 rfl Try.ntmps41 rfl (Mem.nil _) (by simp) (fun a hC => ?_)
  refine W.seqk fun k1 hk1 => ?_
  refine W.region ?_
  refine L.box hC rfl rfl rfl rfl rfl rfl ?_; clear hC a; intro sb a w hF hC
  refine L.pu hC rfl rfl (fun _ => All.nil) rfl rfl ?_; clear hC a; intro a hC
  refine L.nil ?_
  refine hk1 _ _ ?_; clear hk1; try clear k1
  refine W.seqk fun k2 hk2 => ?_
  refine W.seqk fun k3 hk3 => ?_
  refine W.region ?_
  refine L.fa hC rfl rfl rfl (fun _ => All.nil) Try.underlying60 rfl Try.sizeOf3 rfl rfl rfl ?_; clear hC a; intro a hC
  refine L.ld hC rfl rfl rfl (fun _ => All.nil) m0 Try.isAgg3 rfl rfl rfl ?_; clear hC a; intro a hC
  refine L.pu hC rfl rfl (fun _ => All.nil) rfl rfl ?_; clear hC a; intro a hC
  refine L.pu hC rfl rfl (fun _ => All.nil) rfl rfl ?_; clear hC a; intro a hC
  refine L.fa hC rfl rfl rfl (fun _ => All.nil) Try.underlying60 rfl Try.sizeOf3 rfl rfl rfl ?_; clear hC a; intro a hC
  refine L.ld hC rfl rfl rfl (fun hg => by first | (simp only [Gt, Bool.and_eq_true] at hg; simp only [All, List.cons_append, List.nil_append, List.append_nil, List.mem_cons, List.not_mem_nil, or_false, forall_eq_or_imp, forall_eq, Bool.and_eq_true, hg, Bool.not_false, Bool.not_true, and_self]; done) | (simp only [Gt] at hg; simp only [All, List.cons_append, List.nil_append, List.append_nil, List.mem_cons, List.not_mem_nil, or_false, forall_eq_or_imp, forall_eq, hg, and_self])) m0 Try.isAgg3 rfl rfl rfl ?_; clear hC a; intro a hC
  refine L.pu hC rfl rfl (fun hg => by first | (simp only [Gt, Bool.and_eq_true] at hg; simp only [All, List.cons_append, List.nil_append, List.append_nil, List.mem_cons, List.not_mem_nil, or_false, forall_eq_or_imp, forall_eq, Bool.and_eq_true, hg, Bool.not_false, Bool.not_true, and_self]; done) | (simp only [Gt] at hg; simp only [All, List.cons_append, List.nil_append, List.append_nil, List.mem_cons, List.not_mem_nil, or_false, forall_eq_or_imp, forall_eq, hg, and_self])) rfl rfl ?_; clear hC a; intro a hC
  refine L.or hC rfl rfl rfl rfl (fun _ => All.nil) (fun _ hp => by first | (simp only [All, List.cons_append, List.nil_append, List.append_nil, List.mem_cons, List.not_mem_nil, or_false, forall_eq_or_imp, forall_eq, Bool.and_eq_true, hp, Bool.not_false, Bool.not_true, and_self]; done) | simp [All, hp]) rfl rfl ?_; clear hC a; intro a hC
  refine L.pu hC rfl rfl (fun _ => All.nil) rfl rfl ?_; clear hC a; intro a hC
  refine L.fa hC rfl rfl rfl (fun _ => All.nil) Try.underlying60 rfl Try.sizeOf3 rfl rfl rfl ?_; clear hC a; intro a hC
  refine L.ld hC rfl rfl rfl (fun hg => by first | (simp only [Gt, Bool.and_eq_true] at hg; simp only [All, List.cons_append, List.nil_append, List.append_nil, List.mem_cons, List.not_mem_nil, or_false, forall_eq_or_imp, forall_eq, Bool.and_eq_true, hg, Bool.not_false, Bool.not_true, and_self]; done) | (simp only [Gt] at hg; simp only [All, List.cons_append, List.nil_append, List.append_nil, List.mem_cons, List.not_mem_nil, or_false, forall_eq_or_imp, forall_eq, hg, and_self])) m0 Try.isAgg3 rfl rfl rfl ?_; clear hC a; intro a hC
  refine L.pu hC rfl rfl (fun hg => by first | (simp only [Gt, Bool.and_eq_true] at hg; simp only [All, List.cons_append, List.nil_append, List.append_nil, List.mem_cons, List.not_mem_nil, or_false, forall_eq_or_imp, forall_eq, Bool.and_eq_true, hg, Bool.not_false, Bool.not_true, and_self]; done) | (simp only [Gt] at hg; simp only [All, List.cons_append, List.nil_append, List.append_nil, List.mem_cons, List.not_mem_nil, or_false, forall_eq_or_imp, forall_eq, hg, and_self])) rfl rfl ?_; clear hC a; intro a hC
  refine L.or hC rfl rfl rfl rfl (fun _ => All.nil) (fun _ hp => by first | (simp only [All, List.cons_append, List.nil_append, List.append_nil, List.mem_cons, List.not_mem_nil, or_false, forall_eq_or_imp, forall_eq, Bool.and_eq_true, hp, Bool.not_false, Bool.not_true, and_self]; done) | simp [All, hp]) rfl rfl ?_; clear hC a; intro a hC
  refine L.pu hC rfl rfl (fun _ => All.nil) rfl rfl ?_; clear hC a; intro a hC
  refine L.fa hC rfl rfl rfl (fun _ => All.nil) Try.underlying60 rfl Try.sizeOf3 rfl rfl rfl ?_; clear hC a; intro a hC
  refine L.ld hC rfl rfl rfl (fun hg => by first | (simp only [Gt, Bool.and_eq_true] at hg; simp only [All, List.cons_append, List.nil_append, List.append_nil, List.mem_cons, List.not_mem_nil, or_false, forall_eq_or_imp, forall_eq, Bool.and_eq_true, hg, Bool.not_false, Bool.not_true, and_self]; done) | (simp only [Gt] at hg; simp only [All, List.cons_append, List.nil_append, List.append_nil, List.mem_cons, List.not_mem_nil, or_false, forall_eq_or_imp, forall_eq, hg, and_self])) m0 Try.isAgg3 rfl rfl rfl ?_; clear hC a; intro a hC
  refine L.pu hC rfl rfl (fun hg => by first | (simp only [Gt, Bool.and_eq_true] at hg; simp only [All, List.cons_append, List.nil_append, List.append_nil, List.mem_cons, List.not_mem_nil, or_false, forall_eq_or_imp, forall_eq, Bool.and_eq_true, hg, Bool.not_false, Bool.not_true, and_self]; done) | (simp only [Gt] at hg; simp only [All, List.cons_append, List.nil_append, List.append_nil, List.mem_cons, List.not_mem_nil, or_false, forall_eq_or_imp, forall_eq, hg, and_self])) rfl rfl ?_; clear hC a; intro a hC
  refine L.or hC rfl rfl rfl rfl (fun _ => All.nil) (fun _ hp => by first | (simp only [All, List.cons_append, List.nil_append, List.append_nil, List.mem_cons, List.not_mem_nil, or_false, forall_eq_or_imp, forall_eq, Bool.and_eq_true, hp, Bool.not_false, Bool.not_true, and_self]; done) | simp [All, hp]) rfl rfl ?_; clear hC a; intro a hC
  refine L.pu hC rfl rfl (fun _ => All.nil) rfl rfl ?_; clear hC a; intro a hC
  refine L.fa hC rfl rfl rfl (fun _ => All.nil) Try.underlying60 rfl Try.sizeOf3 rfl rfl rfl ?_; clear hC a; intro a hC
  refine L.ld hC rfl rfl rfl (fun hg => by first | (simp only [Gt, Bool.and_eq_true] at hg; simp only [All, List.cons_append, List.nil_append, List.append_nil, List.mem_cons, List.not_mem_nil, or_false, forall_eq_or_imp, forall_eq, Bool.and_eq_true, hg, Bool.not_false, Bool.not_true, and_self]; done) | (simp only [Gt] at hg; simp only [All, List.cons_append, List.nil_append, List.append_nil, List.mem_cons, List.not_mem_nil, or_false, forall_eq_or_imp, forall_eq, hg, and_self])) m0 Try.isAgg3 rfl rfl rfl ?_; clear hC a; intro a hC
  refine L.pu hC rfl rfl (fun hg => by first | (simp only [Gt, Bool.and_eq_true] at hg; simp only [All, List.cons_append, List.nil_append, List.append_nil, List.mem_cons, List.not_mem_nil, or_false, forall_eq_or_imp, forall_eq, Bool.and_eq_true, hg, Bool.not_false, Bool.not_true, and_self]; done) | (simp only [Gt] at hg; simp only [All, List.cons_append, List.nil_append, List.append_nil, List.mem_cons, List.not_mem_nil, or_false, forall_eq_or_imp, forall_eq, hg, and_self])) rfl rfl ?_; clear hC a; intro a hC
  refine L.or hC rfl rfl rfl rfl (fun _ => All.nil) (fun _ hp => by first | (simp only [All, List.cons_append, List.nil_append, List.append_nil, List.mem_cons, List.not_mem_nil, or_false, forall_eq_or_imp, forall_eq, Bool.and_eq_true, hp, Bool.not_false, Bool.not_true, and_self]; done) | simp [All, hp]) rfl rfl ?_; clear hC a; intro a hC
  refine L.pu hC rfl rfl (fun _ => All.nil) rfl rfl ?_; clear hC a; intro a hC
  refine L.fa hC rfl rfl rfl (fun _ => All.nil) Try.underlying60 rfl Try.sizeOf3 rfl rfl rfl ?_; clear hC a; intro a hC
  refine L.ld hC rfl rfl rfl (fun hg => by first | (simp only [Gt, Bool.and_eq_true] at hg; simp only [All, List.cons_append, List.nil_append, List.append_nil, List.mem_cons, List.not_mem_nil, or_false, forall_eq_or_imp, forall_eq, Bool.and_eq_true, hg, Bool.not_false, Bool.not_true, and_self]; done) | (simp only [Gt] at hg; simp only [All, List.cons_append, List.nil_append, List.append_nil, List.mem_cons, List.not_mem_nil, or_false, forall_eq_or_imp, forall_eq, hg, and_self])) m0 Try.isAgg3 rfl rfl rfl ?_; clear hC a; intro a hC
  refine L.pu hC rfl rfl (fun hg => by first | (simp only [Gt, Bool.and_eq_true] at hg; simp only [All, List.cons_append, List.nil_append, List.append_nil, List.mem_cons, List.not_mem_nil, or_false, forall_eq_or_imp, forall_eq, Bool.and_eq_true, hg, Bool.not_false, Bool.not_true, and_self]; done) | (simp only [Gt] at hg; simp only [All, List.cons_append, List.nil_append, List.append_nil, List.mem_cons, List.not_mem_nil, or_false, forall_eq_or_imp, forall_eq, hg, and_self])) rfl rfl ?_; clear hC a; intro a hC
  refine L.or hC rfl rfl rfl rfl (fun _ => All.nil) (fun _ hp => by first | (simp only [All, List.cons_append, List.nil_append, List.append_nil, List.mem_cons, List.not_mem_nil, or_false, forall_eq_or_imp, forall_eq, Bool.and_eq_true, hp, Bool.not_false, Bool.not_true, and_self]; done) | simp [All, hp]) rfl rfl ?_; clear hC a; intro a hC
  refine L.pu hC rfl rfl (fun _ => All.nil) rfl rfl ?_; clear hC a; intro a hC
  refine L.fa hC rfl rfl rfl (fun _ => All.nil) Try.underlying60 rfl Try.sizeOf3 rfl rfl rfl ?_; clear hC a; intro a hC
  refine L.ld hC rfl rfl rfl (fun hg => by first | (simp only [Gt, Bool.and_eq_true] at hg; simp only [All, List.cons_append, List.nil_append, List.append_nil, List.mem_cons, List.not_mem_nil, or_false, forall_eq_or_imp, forall_eq, Bool.and_eq_true, hg, Bool.not_false, Bool.not_true, and_self]; done) | (simp only [Gt] at hg; simp only [All, List.cons_append, List.nil_append, List.append_nil, List.mem_cons, List.not_mem_nil, or_false, forall_eq_or_imp, forall_eq, hg, and_self])) m0 Try.isAgg3 rfl rfl rfl ?_; clear hC a; intro a hC
  refine L.pu hC rfl rfl (fun hg => by first | (simp only [Gt, Bool.and_eq_true] at hg; simp only [All, List.cons_append, List.nil_append, List.append_nil, List.mem_cons, List.not_mem_nil, or_false, forall_eq_or_imp, forall_eq, Bool.and_eq_true, hg, Bool.not_false, Bool.not_true, and_self]; done) | (simp only [Gt] at hg; simp only [All, List.cons_append, List.nil_append, List.append_nil, List.mem_cons, List.not_mem_nil, or_false, forall_eq_or_imp, forall_eq, hg, and_self])) rfl rfl ?_; clear hC a; intro a hC
  refine L.or hC rfl rfl rfl rfl (fun _ => All.nil) (fun _ hp => by first | (simp only [All, List.cons_append, List.nil_append, List.append_nil, List.mem_cons, List.not_mem_nil, or_false, forall_eq_or_imp, forall_eq, Bool.and_eq_true, hp, Bool.not_false, Bool.not_true, and_self]; done) | simp [All, hp]) rfl rfl ?_; clear hC a; intro a hC
  refine L.pu hC rfl rfl (fun _ => All.nil) rfl rfl ?_; clear hC a; intro a hC
  refine L.fa hC rfl rfl rfl (fun _ => All.nil) Try.underlying60 rfl Try.sizeOf3 rfl rfl rfl ?_; clear hC a; intro a hC
  refine L.ld hC rfl rfl rfl (fun hg => by first | (simp only [Gt, Bool.and_eq_true] at hg; simp only [All, List.cons_append, List.nil_append, List.append_nil, List.mem_cons, List.not_mem_nil, or_false, forall_eq_or_imp, forall_eq, Bool.and_eq_true, hg, Bool.not_false, Bool.not_true, and_self]; done) | (simp only [Gt] at hg; simp only [All, List.cons_append, List.nil_append, List.append_nil, List.mem_cons, List.not_mem_nil, or_false, forall_eq_or_imp, forall_eq, hg, and_self])) m0 Try.isAgg3 rfl rfl rfl ?_; clear hC a; intro a hC
  refine L.pu hC rfl rfl (fun hg => by first | (simp only [Gt, Bool.and_eq_true] at hg; simp only [All, List.cons_append, List.nil_append, List.append_nil, List.mem_cons, List.not_mem_nil, or_false, forall_eq_or_imp, forall_eq, Bool.and_eq_true, hg, Bool.not_false, Bool.not_true, and_self]; done) | (simp only [Gt] at hg; simp only [All, List.cons_append, List.nil_append, List.append_nil, List.mem_cons, List.not_mem_nil, or_false, forall_eq_or_imp, forall_eq, hg, and_self])) rfl rfl ?_; clear hC a; intro a hC
  refine L.or hC rfl rfl rfl rfl (fun _ => All.nil) (fun _ hp => by first | (simp only [All, List.cons_append, List.nil_append, List.append_nil, List.mem_cons, List.not_mem_nil, or_false, forall_eq_or_imp, forall_eq, Bool.and_eq_true, hp, Bool.not_false, Bool.not_true, and_self]; done) | simp [All, hp]) rfl rfl ?_; clear hC a; intro a hC
  refine L.pu hC rfl rfl (fun _ => All.nil) rfl rfl ?_; clear hC a; intro a hC
  refine L.fa hC rfl rfl rfl (fun _ => All.nil) Try.underlying60 rfl Try.sizeOf3 rfl rfl rfl ?_; clear hC a; intro a hC
  refine L.ld hC rfl rfl rfl (fun hg => by first | (simp only [Gt, Bool.and_eq_true] at hg; simp only [All, List.cons_append, List.nil_append, List.append_nil, List.mem_cons, List.not_mem_nil, or_false, forall_eq_or_imp, forall_eq, Bool.and_eq_true, hg, Bool.not_false, Bool.not_true, and_self]; done) | (simp only [Gt] at hg; simp only [All, List.cons_append, List.nil_append, List.append_nil, List.mem_cons, List.not_mem_nil, or_false, forall_eq_or_imp, forall_eq, hg, and_self])) m0 Try.isAgg3 rfl rfl rfl ?_; clear hC a; intro a hC
  refine L.pu hC rfl rfl (fun hg => by first | (simp only [Gt, Bool.and_eq_true] at hg; simp only [All, List.cons_append, List.nil_append, List.append_nil, List.mem_cons, List.not_mem_nil, or_false, forall_eq_or_imp, forall_eq, Bool.and_eq_true, hg, Bool.not_false, Bool.not_true, and_self]; done) | (simp only [Gt] at hg; simp only [All, List.cons_append, List.nil_append, List.append_nil, List.mem_cons, List.not_mem_nil, or_false, forall_eq_or_imp, forall_eq, hg, and_self])) rfl rfl ?_; clear hC a; intro a hC
  refine L.or hC rfl rfl rfl rfl (fun _ => All.nil) (fun _ hp => by first | (simp only [All, List.cons_append, List.nil_append, List.append_nil, List.mem_cons, List.not_mem_nil, or_false, forall_eq_or_imp, forall_eq, Bool.and_eq_true, hp, Bool.not_false, Bool.not_true, and_self]; done) | simp [All, hp]) rfl rfl ?_; clear hC a; intro a hC
  refine L.pu hC rfl rfl (fun _ => All.nil) rfl rfl ?_; clear hC a; intro a hC
  refine L.fa hC rfl rfl rfl (fun _ => All.nil) Try.underlying60 rfl Try.sizeOf3 rfl rfl rfl ?_; clear hC a; intro a hC
  refine L.ld hC rfl rfl rfl (fun hg => by first | (simp only [Gt, Bool.and_eq_true] at hg; simp only [All, List.cons_append, List.nil_append, List.append_nil, List.mem_cons, List.not_mem_nil, or_false, forall_eq_or_imp, forall_eq, Bool.and_eq_true, hg, Bool.not_false, Bool.not_true, and_self]; done) | (simp only [Gt] at hg; simp only [All, List.cons_append, List.nil_append, List.append_nil, List.mem_cons, List.not_mem_nil, or_false, forall_eq_or_imp, forall_eq, hg, and_self])) m0 Try.isAgg3 rfl rfl rfl ?_; clear hC a; intro a hC
  refine L.pu hC rfl rfl (fun hg => by first | (simp only [Gt, Bool.and_eq_true] at hg; simp only [All, List.cons_append, List.nil_append, List.append_nil, List.mem_cons, List.not_mem_nil, or_false, forall_eq_or_imp, forall_eq, Bool.and_eq_true, hg, Bool.not_false, Bool.not_true, and_self]; done) | (simp only [Gt] at hg; simp only [All, List.cons_append, List.nil_append, List.append_nil, List.mem_cons, List.not_mem_nil, or_false, forall_eq_or_imp, forall_eq, hg, and_self])) rfl rfl ?_; clear hC a; intro a hC
  refine L.or hC rfl rfl rfl rfl (fun _ => All.nil) (fun _ hp => by first | (simp only [All, List.cons_append, List.nil_append, List.append_nil, List.mem_cons, List.not_mem_nil, or_false, forall_eq_or_imp, forall_eq, Bool.and_eq_true, hp, Bool.not_false, Bool.not_true, and_self]; done) | simp [All, hp]) rfl rfl ?_; clear hC a; intro a hC
  refine L.pu hC rfl rfl (fun _ => All.nil) rfl rfl ?_; clear hC a; intro a hC
  refine L.fa hC rfl rfl rfl (fun _ => All.nil) Try.underlying60 rfl Try.sizeOf58 rfl rfl rfl ?_; clear hC a; intro a hC
  refine L.lda hC rfl rfl rfl (fun hg => by first | (simp only [Gt, Bool.and_eq_true] at hg; simp only [All, List.cons_append, List.nil_append, List.append_nil, List.mem_cons, List.not_mem_nil, or_false, forall_eq_or_imp, forall_eq, Bool.and_eq_true, hg, Bool.not_false, Bool.not_true, and_self]; done) | (simp only [Gt] at hg; simp only [All, List.cons_append, List.nil_append, List.append_nil, List.mem_cons, List.not_mem_nil, or_false, forall_eq_or_imp, forall_eq, hg, and_self])) m0 Try.isAgg58 Try.sizeOf58 rfl rfl rfl rfl ?_; clear hC a; intro a hC
  refine L.call hC rfl rfl Try.call91 rfl (fun hg => by first | (simp only [Gt, Bool.and_eq_true] at hg; simp only [All, List.cons_append, List.nil_append, List.append_nil, List.mem_cons, List.not_mem_nil, or_false, forall_eq_or_imp, forall_eq, Bool.and_eq_true, hg, Bool.not_false, Bool.not_true, and_self]; done) | (simp only [Gt] at hg; simp only [All, List.cons_append, List.nil_append, List.append_nil, List.mem_cons, List.not_mem_nil, or_false, forall_eq_or_imp, forall_eq, hg, and_self])) (fun hg => bo18_ok s.bo _) rfl rfl ?_; clear hC a; intro a w hF hC
  refine L.pu hC rfl rfl (fun hg => by first | (simp only [Gt, Bool.and_eq_true] at hg; simp only [All, List.cons_append, List.nil_append, List.append_nil, List.mem_cons, List.not_mem_nil, or_false, forall_eq_or_imp, forall_eq, Bool.and_eq_true, hg, Bool.not_false, Bool.not_true, and_self]; done) | (simp only [Gt] at hg; simp only [All, List.cons_append, List.nil_append, List.append_nil, List.mem_cons, List.not_mem_nil, or_false, forall_eq_or_imp, forall_eq, hg, and_self])) rfl rfl ?_; clear hC a; intro a hC
  refine L.or hC rfl rfl rfl rfl (fun _ => All.nil) (fun _ hp => by first | (simp only [All, List.cons_append, List.nil_append, List.append_nil, List.mem_cons, List.not_mem_nil, or_false, forall_eq_or_imp, forall_eq, Bool.and_eq_true, hp, Bool.not_false, Bool.not_true, and_self]; done) | simp [All, hp]) rfl rfl ?_; clear hC a; intro a hC
  refine L.nil ?_
  refine hk3 _ _ ?_; clear hk3; try clear k3
  refine W.cond hC rfl (fun h1 => ?_) (fun h1 => ?_)
  ·
    refine W.seqk fun k4 hk4 => ?_
    refine W.region ?_
    refine L.pu hC rfl rfl (fun _ => All.nil) rfl rfl ?_; clear hC a; intro a hC
    refine L.nil ?_
    refine hk4 _ _ ?_; clear hk4; try clear k4
    refine W.ret ?_
    refine rets hC rfl (.tmp rfl .nil) ?_
    refine ⟨?_, hC.frm⟩
    exact congrArg (fun x => Ending.returned (.int .i64 x)) ((sets_a h1).symm)
  ·
    refine W.skip ?_
    refine hk2 _ _ ?_; clear hk2; try clear k2
    refine W.seqk fun k5 hk5 => ?_
    refine W.region ?_
    refine L.pu hC rfl rfl (fun _ => All.nil) rfl rfl ?_; clear hC a; intro a hC
    refine L.nil ?_
    refine hk5 _ _ ?_; clear hk5; try clear k5
    refine W.ret ?_
    refine rets hC rfl (.tmp rfl .nil) ?_
    refine ⟨?_, hC.frm⟩
    exact congrArg (fun x => Ending.returned (.int .i64 x)) ((sets_b h1).symm)

theorem known27_ok (n : Int) (w0 : World) : Calls Try.prog 88 #[.int .i64 n] w0 fun e w' => e = .returned (.bool (decide (n ≥ 0) && decide (n ≤ 1073741824))) ∧ Frm Nob w0 w' := by
  refine enter (μ := []) (S := Nob) (vs := [.int .i64 n]) Try.func88 rfl Try.ntmps88 rfl (Mem.nil _) (by simp) (fun a hC => ?_)
  refine W.seqk fun k1 hk1 => ?_
  refine W.region ?_
  refine L.pu hC rfl rfl (fun _ => All.nil) rfl rfl ?_; clear hC a; intro a hC
  refine L.nil ?_
  refine hk1 _ _ ?_; clear hk1; try clear k1
  refine W.seqk fun k2 hk2 => ?_
  refine W.region ?_
  refine L.pu hC rfl rfl (fun _ => All.nil) rfl rfl ?_; clear hC a; intro a hC
  refine L.pu hC rfl rfl (fun _ => All.nil) rfl rfl ?_; clear hC a; intro a hC
  refine L.pu hC rfl rfl (fun _ => All.nil) rfl rfl ?_; clear hC a; intro a hC
  refine L.pu hC rfl rfl (fun _ => All.nil) rfl rfl ?_; clear hC a; intro a hC
  refine L.pu hC rfl rfl (fun hg => by first | (simp only [Gt, Bool.and_eq_true] at hg; simp only [All, List.cons_append, List.nil_append, List.append_nil, List.mem_cons, List.not_mem_nil, or_false, forall_eq_or_imp, forall_eq, Bool.and_eq_true, hg, Bool.not_false, Bool.not_true, and_self]; done) | (simp only [Gt] at hg; simp only [All, List.cons_append, List.nil_append, List.append_nil, List.mem_cons, List.not_mem_nil, or_false, forall_eq_or_imp, forall_eq, hg, and_self])) rfl rfl ?_; clear hC a; intro a hC
  refine L.and hC rfl rfl rfl rfl (fun _ => All.nil) (fun _ hp => by first | (simp only [All, List.cons_append, List.nil_append, List.append_nil, List.mem_cons, List.not_mem_nil, or_false, forall_eq_or_imp, forall_eq, Bool.and_eq_true, hp, Bool.not_false, Bool.not_true, and_self]; done) | simp [All, hp]) rfl rfl ?_; clear hC a; intro a hC
  refine L.pu hC rfl rfl (fun _ => All.nil) rfl rfl ?_; clear hC a; intro a hC
  refine L.nil ?_
  refine hk2 _ _ ?_; clear hk2; try clear k2
  refine W.ret ?_
  refine rets hC rfl (.tmp rfl .nil) ?_
  refine ⟨?_, hC.frm⟩
  rfl

theorem pinr_ok (x y : Att) (w0 : World) : Calls Try.prog 89 #[.agg (attE.enc x).toArray, .agg (attE.enc y).toArray] w0 fun e w' => e = .returned (.bool (((x.bk == y.bk && x.inc == y.inc) && x.ses == y.ses) && x.seq == y.seq)) ∧ Frm Nob w0 w' := by
  refine enter (μ := []) (S := Nob) (vs := [.agg (attE.enc x).toArray, .agg (attE.enc y).toArray]) Try.func89 rfl Try.ntmps89 rfl (Mem.nil _) (by simp) (fun a hC => ?_)
  refine W.seqk fun k1 hk1 => ?_
  refine W.region ?_
  refine L.box hC rfl rfl rfl rfl rfl rfl ?_; clear hC a; intro xb a w hF hC
  refine L.box hC rfl rfl rfl rfl rfl rfl ?_; clear hC a; intro yb a w hF hC
  refine L.pu hC rfl rfl (fun _ => All.nil) rfl rfl ?_; clear hC a; intro a hC
  refine L.nil ?_
  refine hk1 _ _ ?_; clear hk1; try clear k1
  refine W.seqk fun k2 hk2 => ?_
  refine W.region ?_
  refine L.fa hC rfl rfl rfl (fun _ => All.nil) Try.underlying65 rfl Try.sizeOf3 rfl rfl rfl ?_; clear hC a; intro a hC
  refine L.ld hC rfl rfl rfl (fun _ => All.nil) m1 Try.isAgg3 rfl rfl rfl ?_; clear hC a; intro a hC
  refine L.fa hC rfl rfl rfl (fun _ => All.nil) Try.underlying65 rfl Try.sizeOf3 rfl rfl rfl ?_; clear hC a; intro a hC
  refine L.ld hC rfl rfl rfl (fun _ => All.nil) m0 Try.isAgg3 rfl rfl rfl ?_; clear hC a; intro a hC
  refine L.pu hC rfl rfl (fun _ => All.nil) rfl rfl ?_; clear hC a; intro a hC
  refine L.pu hC rfl rfl (fun _ => All.nil) rfl rfl ?_; clear hC a; intro a hC
  refine L.fa hC rfl rfl rfl (fun _ => All.nil) Try.underlying65 rfl Try.sizeOf3 rfl rfl rfl ?_; clear hC a; intro a hC
  refine L.ld hC rfl rfl rfl (fun hg => by first | (simp only [Gt, Bool.and_eq_true] at hg; simp only [All, List.cons_append, List.nil_append, List.append_nil, List.mem_cons, List.not_mem_nil, or_false, forall_eq_or_imp, forall_eq, Bool.and_eq_true, hg, Bool.not_false, Bool.not_true, and_self]; done) | (simp only [Gt] at hg; simp only [All, List.cons_append, List.nil_append, List.append_nil, List.mem_cons, List.not_mem_nil, or_false, forall_eq_or_imp, forall_eq, hg, and_self])) m1 Try.isAgg3 rfl rfl rfl ?_; clear hC a; intro a hC
  refine L.fa hC rfl rfl rfl (fun _ => All.nil) Try.underlying65 rfl Try.sizeOf3 rfl rfl rfl ?_; clear hC a; intro a hC
  refine L.ld hC rfl rfl rfl (fun hg => by first | (simp only [Gt, Bool.and_eq_true] at hg; simp only [All, List.cons_append, List.nil_append, List.append_nil, List.mem_cons, List.not_mem_nil, or_false, forall_eq_or_imp, forall_eq, Bool.and_eq_true, hg, Bool.not_false, Bool.not_true, and_self]; done) | (simp only [Gt] at hg; simp only [All, List.cons_append, List.nil_append, List.append_nil, List.mem_cons, List.not_mem_nil, or_false, forall_eq_or_imp, forall_eq, hg, and_self])) m0 Try.isAgg3 rfl rfl rfl ?_; clear hC a; intro a hC
  refine L.pu hC rfl rfl (fun hg => by first | (simp only [Gt, Bool.and_eq_true] at hg; simp only [All, List.cons_append, List.nil_append, List.append_nil, List.mem_cons, List.not_mem_nil, or_false, forall_eq_or_imp, forall_eq, Bool.and_eq_true, hg, Bool.not_false, Bool.not_true, and_self]; done) | (simp only [Gt] at hg; simp only [All, List.cons_append, List.nil_append, List.append_nil, List.mem_cons, List.not_mem_nil, or_false, forall_eq_or_imp, forall_eq, hg, and_self])) rfl rfl ?_; clear hC a; intro a hC
  refine L.and hC rfl rfl rfl rfl (fun _ => All.nil) (fun _ hp => by first | (simp only [All, List.cons_append, List.nil_append, List.append_nil, List.mem_cons, List.not_mem_nil, or_false, forall_eq_or_imp, forall_eq, Bool.and_eq_true, hp, Bool.not_false, Bool.not_true, and_self]; done) | simp [All, hp]) rfl rfl ?_; clear hC a; intro a hC
  refine L.pu hC rfl rfl (fun _ => All.nil) rfl rfl ?_; clear hC a; intro a hC
  refine L.fa hC rfl rfl rfl (fun _ => All.nil) Try.underlying65 rfl Try.sizeOf3 rfl rfl rfl ?_; clear hC a; intro a hC
  refine L.ld hC rfl rfl rfl (fun hg => by first | (simp only [Gt, Bool.and_eq_true] at hg; simp only [All, List.cons_append, List.nil_append, List.append_nil, List.mem_cons, List.not_mem_nil, or_false, forall_eq_or_imp, forall_eq, Bool.and_eq_true, hg, Bool.not_false, Bool.not_true, and_self]; done) | (simp only [Gt] at hg; simp only [All, List.cons_append, List.nil_append, List.append_nil, List.mem_cons, List.not_mem_nil, or_false, forall_eq_or_imp, forall_eq, hg, and_self])) m1 Try.isAgg3 rfl rfl rfl ?_; clear hC a; intro a hC
  refine L.fa hC rfl rfl rfl (fun _ => All.nil) Try.underlying65 rfl Try.sizeOf3 rfl rfl rfl ?_; clear hC a; intro a hC
  refine L.ld hC rfl rfl rfl (fun hg => by first | (simp only [Gt, Bool.and_eq_true] at hg; simp only [All, List.cons_append, List.nil_append, List.append_nil, List.mem_cons, List.not_mem_nil, or_false, forall_eq_or_imp, forall_eq, Bool.and_eq_true, hg, Bool.not_false, Bool.not_true, and_self]; done) | (simp only [Gt] at hg; simp only [All, List.cons_append, List.nil_append, List.append_nil, List.mem_cons, List.not_mem_nil, or_false, forall_eq_or_imp, forall_eq, hg, and_self])) m0 Try.isAgg3 rfl rfl rfl ?_; clear hC a; intro a hC
  refine L.pu hC rfl rfl (fun hg => by first | (simp only [Gt, Bool.and_eq_true] at hg; simp only [All, List.cons_append, List.nil_append, List.append_nil, List.mem_cons, List.not_mem_nil, or_false, forall_eq_or_imp, forall_eq, Bool.and_eq_true, hg, Bool.not_false, Bool.not_true, and_self]; done) | (simp only [Gt] at hg; simp only [All, List.cons_append, List.nil_append, List.append_nil, List.mem_cons, List.not_mem_nil, or_false, forall_eq_or_imp, forall_eq, hg, and_self])) rfl rfl ?_; clear hC a; intro a hC
  refine L.and hC rfl rfl rfl rfl (fun _ => All.nil) (fun _ hp => by first | (simp only [All, List.cons_append, List.nil_append, List.append_nil, List.mem_cons, List.not_mem_nil, or_false, forall_eq_or_imp, forall_eq, Bool.and_eq_true, hp, Bool.not_false, Bool.not_true, and_self]; done) | simp [All, hp]) rfl rfl ?_; clear hC a; intro a hC
  refine L.pu hC rfl rfl (fun _ => All.nil) rfl rfl ?_; clear hC a; intro a hC
  refine L.fa hC rfl rfl rfl (fun _ => All.nil) Try.underlying65 rfl Try.sizeOf3 rfl rfl rfl ?_; clear hC a; intro a hC
  refine L.ld hC rfl rfl rfl (fun hg => by first | (simp only [Gt, Bool.and_eq_true] at hg; simp only [All, List.cons_append, List.nil_append, List.append_nil, List.mem_cons, List.not_mem_nil, or_false, forall_eq_or_imp, forall_eq, Bool.and_eq_true, hg, Bool.not_false, Bool.not_true, and_self]; done) | (simp only [Gt] at hg; simp only [All, List.cons_append, List.nil_append, List.append_nil, List.mem_cons, List.not_mem_nil, or_false, forall_eq_or_imp, forall_eq, hg, and_self])) m1 Try.isAgg3 rfl rfl rfl ?_; clear hC a; intro a hC
  refine L.fa hC rfl rfl rfl (fun _ => All.nil) Try.underlying65 rfl Try.sizeOf3 rfl rfl rfl ?_; clear hC a; intro a hC
  refine L.ld hC rfl rfl rfl (fun hg => by first | (simp only [Gt, Bool.and_eq_true] at hg; simp only [All, List.cons_append, List.nil_append, List.append_nil, List.mem_cons, List.not_mem_nil, or_false, forall_eq_or_imp, forall_eq, Bool.and_eq_true, hg, Bool.not_false, Bool.not_true, and_self]; done) | (simp only [Gt] at hg; simp only [All, List.cons_append, List.nil_append, List.append_nil, List.mem_cons, List.not_mem_nil, or_false, forall_eq_or_imp, forall_eq, hg, and_self])) m0 Try.isAgg3 rfl rfl rfl ?_; clear hC a; intro a hC
  refine L.pu hC rfl rfl (fun hg => by first | (simp only [Gt, Bool.and_eq_true] at hg; simp only [All, List.cons_append, List.nil_append, List.append_nil, List.mem_cons, List.not_mem_nil, or_false, forall_eq_or_imp, forall_eq, Bool.and_eq_true, hg, Bool.not_false, Bool.not_true, and_self]; done) | (simp only [Gt] at hg; simp only [All, List.cons_append, List.nil_append, List.append_nil, List.mem_cons, List.not_mem_nil, or_false, forall_eq_or_imp, forall_eq, hg, and_self])) rfl rfl ?_; clear hC a; intro a hC
  refine L.and hC rfl rfl rfl rfl (fun _ => All.nil) (fun _ hp => by first | (simp only [All, List.cons_append, List.nil_append, List.append_nil, List.mem_cons, List.not_mem_nil, or_false, forall_eq_or_imp, forall_eq, Bool.and_eq_true, hp, Bool.not_false, Bool.not_true, and_self]; done) | simp [All, hp]) rfl rfl ?_; clear hC a; intro a hC
  refine L.pu hC rfl rfl (fun _ => All.nil) rfl rfl ?_; clear hC a; intro a hC
  refine L.nil ?_
  refine hk2 _ _ ?_; clear hk2; try clear k2
  refine W.ret ?_
  refine rets hC rfl (.tmp rfl .nil) ?_
  refine ⟨?_, hC.frm⟩
  rfl

theorem chkr_ok (c : CallH) (v : Value) (s : CSet) (l : List Att) (w0 : World) (hr : (rdR v attE l).ok w0) : Calls Try.prog 39 #[.agg (callE c v).toArray, .agg (csE s).toArray] w0 fun e w' => e = .returned (.int .i64 (chkA c s l)) ∧ Frm Nob w0 w' := by
  obtain ⟨vA, vc, hv, _, _⟩ := id hr
  subst hv
  have hlen := rd_lt hr
  refine enter (μ := [rdR (.slice vA l.length vc) attE l]) (S := Nob) (vs := [.agg (callE c (.slice vA l.length vc)).toArray, .agg (csE s).toArray]) Try.func39 rfl Try.ntmps39 rfl ⟨by simpa using hr, by simp⟩ (by simp [rdR]) (fun a hC => ?_)
  refine W.seqk fun k1 hk1 => ?_
  refine W.region ?_
  refine L.box hC rfl rfl rfl rfl rfl rfl ?_; clear hC a; intro cb a w hF hC
  refine L.box hC rfl rfl rfl rfl rfl rfl ?_; clear hC a; intro sb a w hF hC
  refine L.pu hC rfl rfl (fun _ => All.nil) rfl rfl ?_; clear hC a; intro a hC
  refine L.nil ?_
  refine hk1 _ _ ?_; clear hk1; try clear k1
  refine W.seqk fun k2 hk2 => ?_
  refine W.seqk fun k3 hk3 => ?_
  refine W.region ?_
  refine L.lda hC rfl rfl rfl (fun _ => All.nil) m0 Try.isAgg60 Try.sizeOf60 rfl rfl rfl rfl ?_; clear hC a; intro a hC
  refine L.call hC rfl rfl Try.call41 rfl (fun _ => All.nil) (fun hg => setsr_ok s _) rfl rfl ?_; clear hC a; intro a w hF hC
  refine L.pu hC rfl rfl (fun _ => All.nil) rfl rfl ?_; clear hC a; intro a hC
  refine L.nil ?_
  refine hk3 _ _ ?_; clear hk3; try clear k3
  refine W.cond hC rfl (fun h1 => ?_) (fun h1 => ?_)
  ·
    refine W.seqk fun k4 hk4 => ?_
    refine W.region ?_
    refine L.pu hC rfl rfl (fun _ => All.nil) rfl rfl ?_; clear hC a; intro a hC
    refine L.nil ?_
    refine hk4 _ _ ?_; clear hk4; try clear k4
    refine W.ret ?_
    refine rets hC rfl (.tmp rfl .nil) ?_
    refine ⟨?_, hC.frm⟩
    exact congrArg (fun x => Ending.returned (.int .i64 x)) ((chkr_a h1).symm)
  ·
    refine W.skip ?_
    refine hk2 _ _ ?_; clear hk2; try clear k2
    refine W.seqk fun k5 hk5 => ?_
    refine W.region ?_
    refine L.fa hC rfl rfl rfl (fun _ => All.nil) Try.underlying56 rfl Try.sizeOf53 rfl rfl rfl ?_; clear hC a; intro a hC
    refine L.fa hC rfl rfl rfl (fun _ => All.nil) Try.underlying53 rfl Try.sizeOf3 rfl rfl rfl ?_; clear hC a; intro a hC
    refine L.ld hC rfl rfl rfl (fun _ => All.nil) m1 Try.isAgg3 rfl rfl rfl ?_; clear hC a; intro a hC
    refine L.call hC rfl rfl Try.call86 rfl (fun _ => All.nil) (fun hg => once24_ok c.op.what _) rfl rfl ?_; clear hC a; intro a w hF hC
    refine L.pu hC rfl rfl (fun _ => All.nil) rfl rfl ?_; clear hC a; intro a hC
    refine L.pu hC rfl rfl (fun _ => All.nil) rfl rfl ?_; clear hC a; intro a hC
    refine L.pu hC rfl rfl (fun _ => All.nil) rfl rfl ?_; clear hC a; intro a hC
    refine L.pu hC rfl rfl (fun _ => All.nil) rfl rfl ?_; clear hC a; intro a hC
    refine L.pu hC rfl rfl (fun _ => All.nil) rfl rfl ?_; clear hC a; intro a hC
    refine L.nil ?_
    refine hk5 _ _ ?_; clear hk5; try clear k5
    refine W.seqk fun k6 hk6 => ?_
    refine W.seqk fun k7 hk7 => ?_
    refine W.region ?_
    refine L.fa hC rfl rfl rfl (fun _ => All.nil) Try.underlying56 rfl Try.sizeOf3 rfl rfl rfl ?_; clear hC a; intro a hC
    refine L.ld hC rfl rfl rfl (fun _ => All.nil) m1 Try.isAgg3 rfl rfl rfl ?_; clear hC a; intro a hC
    refine L.pu hC rfl rfl (fun _ => All.nil) rfl rfl ?_; clear hC a; intro a hC
    refine L.pu hC rfl rfl (fun _ => All.nil) rfl rfl ?_; clear hC a; intro a hC
    refine L.fa hC rfl rfl rfl (fun _ => All.nil) Try.underlying56 rfl Try.sizeOf3 rfl rfl rfl ?_; clear hC a; intro a hC
    refine L.ld hC rfl rfl rfl (fun hg => by first | (simp only [Gt, Bool.and_eq_true] at hg; simp only [All, List.cons_append, List.nil_append, List.append_nil, List.mem_cons, List.not_mem_nil, or_false, forall_eq_or_imp, forall_eq, Bool.and_eq_true, hg, Bool.not_false, Bool.not_true, and_self]; done) | (simp only [Gt] at hg; simp only [All, List.cons_append, List.nil_append, List.append_nil, List.mem_cons, List.not_mem_nil, or_false, forall_eq_or_imp, forall_eq, hg, and_self])) m1 Try.isAgg3 rfl rfl rfl ?_; clear hC a; intro a hC
    refine L.pu hC rfl rfl (fun hg => by first | (simp only [Gt, Bool.and_eq_true] at hg; simp only [All, List.cons_append, List.nil_append, List.append_nil, List.mem_cons, List.not_mem_nil, or_false, forall_eq_or_imp, forall_eq, Bool.and_eq_true, hg, Bool.not_false, Bool.not_true, and_self]; done) | (simp only [Gt] at hg; simp only [All, List.cons_append, List.nil_append, List.append_nil, List.mem_cons, List.not_mem_nil, or_false, forall_eq_or_imp, forall_eq, hg, and_self])) rfl rfl ?_; clear hC a; intro a hC
    refine L.or hC rfl rfl rfl rfl (fun _ => All.nil) (fun _ hp => by first | (simp only [All, List.cons_append, List.nil_append, List.append_nil, List.mem_cons, List.not_mem_nil, or_false, forall_eq_or_imp, forall_eq, Bool.and_eq_true, hp, Bool.not_false, Bool.not_true, and_self]; done) | simp [All, hp]) rfl rfl ?_; clear hC a; intro a hC
    refine L.pu hC rfl rfl (fun _ => All.nil) rfl rfl ?_; clear hC a; intro a hC
    refine L.fa hC rfl rfl rfl (fun _ => All.nil) Try.underlying56 rfl Try.sizeOf53 rfl rfl rfl ?_; clear hC a; intro a hC
    refine L.lda hC rfl rfl rfl (fun hg => by first | (simp only [Gt, Bool.and_eq_true] at hg; simp only [All, List.cons_append, List.nil_append, List.append_nil, List.mem_cons, List.not_mem_nil, or_false, forall_eq_or_imp, forall_eq, Bool.and_eq_true, hg, Bool.not_false, Bool.not_true, and_self]; done) | (simp only [Gt] at hg; simp only [All, List.cons_append, List.nil_append, List.append_nil, List.mem_cons, List.not_mem_nil, or_false, forall_eq_or_imp, forall_eq, hg, and_self])) m1 Try.isAgg53 Try.sizeOf53 rfl rfl rfl rfl ?_; clear hC a; intro a hC
    refine L.call hC rfl rfl Try.call87 rfl (fun hg => by first | (simp only [Gt, Bool.and_eq_true] at hg; simp only [All, List.cons_append, List.nil_append, List.append_nil, List.mem_cons, List.not_mem_nil, or_false, forall_eq_or_imp, forall_eq, Bool.and_eq_true, hg, Bool.not_false, Bool.not_true, and_self]; done) | (simp only [Gt] at hg; simp only [All, List.cons_append, List.nil_append, List.append_nil, List.mem_cons, List.not_mem_nil, or_false, forall_eq_or_imp, forall_eq, hg, and_self])) (fun hg => led24_ok c.op _) rfl rfl ?_; clear hC a; intro a w hF hC
    refine L.pu hC rfl rfl (fun hg => by first | (simp only [Gt, Bool.and_eq_true] at hg; simp only [All, List.cons_append, List.nil_append, List.append_nil, List.mem_cons, List.not_mem_nil, or_false, forall_eq_or_imp, forall_eq, Bool.and_eq_true, hg, Bool.not_false, Bool.not_true, and_self]; done) | (simp only [Gt] at hg; simp only [All, List.cons_append, List.nil_append, List.append_nil, List.mem_cons, List.not_mem_nil, or_false, forall_eq_or_imp, forall_eq, hg, and_self])) rfl rfl ?_; clear hC a; intro a hC
    refine L.or hC rfl rfl rfl rfl (fun _ => All.nil) (fun _ hp => by first | (simp only [All, List.cons_append, List.nil_append, List.append_nil, List.mem_cons, List.not_mem_nil, or_false, forall_eq_or_imp, forall_eq, Bool.and_eq_true, hp, Bool.not_false, Bool.not_true, and_self]; done) | simp [All, hp]) rfl rfl ?_; clear hC a; intro a hC
    refine L.pu hC rfl rfl (fun _ => All.nil) rfl rfl ?_; clear hC a; intro a hC
    refine L.fa hC rfl rfl rfl (fun _ => All.nil) Try.underlying56 rfl Try.sizeOf4 rfl rfl rfl ?_; clear hC a; intro a hC
    refine L.ld hC rfl rfl rfl (fun hg => by first | (simp only [Gt, Bool.and_eq_true] at hg; simp only [All, List.cons_append, List.nil_append, List.append_nil, List.mem_cons, List.not_mem_nil, or_false, forall_eq_or_imp, forall_eq, Bool.and_eq_true, hg, Bool.not_false, Bool.not_true, and_self]; done) | (simp only [Gt] at hg; simp only [All, List.cons_append, List.nil_append, List.append_nil, List.mem_cons, List.not_mem_nil, or_false, forall_eq_or_imp, forall_eq, hg, and_self])) m1 Try.isAgg4 rfl rfl rfl ?_; clear hC a; intro a hC
    refine L.pu hC rfl rfl (fun _ => All.nil) rfl rfl ?_; clear hC a; intro a hC
    refine L.neb hC rfl rfl rfl rfl (fun hg => by first | (simp only [Gt, Bool.and_eq_true] at hg; simp only [All, List.cons_append, List.nil_append, List.append_nil, List.mem_cons, List.not_mem_nil, or_false, forall_eq_or_imp, forall_eq, Bool.and_eq_true, hg, Bool.not_false, Bool.not_true, and_self]; done) | (simp only [Gt] at hg; simp only [All, List.cons_append, List.nil_append, List.append_nil, List.mem_cons, List.not_mem_nil, or_false, forall_eq_or_imp, forall_eq, hg, and_self])) (fun hg => by first | (simp only [Gt, Bool.and_eq_true] at hg; simp only [All, List.cons_append, List.nil_append, List.append_nil, List.mem_cons, List.not_mem_nil, or_false, forall_eq_or_imp, forall_eq, Bool.and_eq_true, hg, Bool.not_false, Bool.not_true, and_self]; done) | (simp only [Gt] at hg; simp only [All, List.cons_append, List.nil_append, List.append_nil, List.mem_cons, List.not_mem_nil, or_false, forall_eq_or_imp, forall_eq, hg, and_self])) Try.underlying4 rfl rfl ?_; clear hC a; intro a hC
    refine L.or hC rfl rfl rfl rfl (fun _ => All.nil) (fun _ hp => by first | (simp only [All, List.cons_append, List.nil_append, List.append_nil, List.mem_cons, List.not_mem_nil, or_false, forall_eq_or_imp, forall_eq, Bool.and_eq_true, hp, Bool.not_false, Bool.not_true, and_self]; done) | simp [All, hp]) rfl rfl ?_; clear hC a; intro a hC
    refine L.pu hC rfl rfl (fun _ => All.nil) rfl rfl ?_; clear hC a; intro a hC
    refine L.fa hC rfl rfl rfl (fun _ => All.nil) Try.underlying56 rfl Try.sizeOf3 rfl rfl rfl ?_; clear hC a; intro a hC
    refine L.ld hC rfl rfl rfl (fun hg => by first | (simp only [Gt, Bool.and_eq_true] at hg; simp only [All, List.cons_append, List.nil_append, List.append_nil, List.mem_cons, List.not_mem_nil, or_false, forall_eq_or_imp, forall_eq, Bool.and_eq_true, hg, Bool.not_false, Bool.not_true, and_self]; done) | (simp only [Gt] at hg; simp only [All, List.cons_append, List.nil_append, List.append_nil, List.mem_cons, List.not_mem_nil, or_false, forall_eq_or_imp, forall_eq, hg, and_self])) m1 Try.isAgg3 rfl rfl rfl ?_; clear hC a; intro a hC
    refine L.pu hC rfl rfl (fun hg => by first | (simp only [Gt, Bool.and_eq_true] at hg; simp only [All, List.cons_append, List.nil_append, List.append_nil, List.mem_cons, List.not_mem_nil, or_false, forall_eq_or_imp, forall_eq, Bool.and_eq_true, hg, Bool.not_false, Bool.not_true, and_self]; done) | (simp only [Gt] at hg; simp only [All, List.cons_append, List.nil_append, List.append_nil, List.mem_cons, List.not_mem_nil, or_false, forall_eq_or_imp, forall_eq, hg, and_self])) rfl rfl ?_; clear hC a; intro a hC
    refine L.or hC rfl rfl rfl rfl (fun _ => All.nil) (fun _ hp => by first | (simp only [All, List.cons_append, List.nil_append, List.append_nil, List.mem_cons, List.not_mem_nil, or_false, forall_eq_or_imp, forall_eq, Bool.and_eq_true, hp, Bool.not_false, Bool.not_true, and_self]; done) | simp [All, hp]) rfl rfl ?_; clear hC a; intro a hC
    refine L.pu hC rfl rfl (fun _ => All.nil) rfl rfl ?_; clear hC a; intro a hC
    refine L.fa hC rfl rfl rfl (fun _ => All.nil) Try.underlying56 rfl Try.sizeOf3 rfl rfl rfl ?_; clear hC a; intro a hC
    refine L.ld hC rfl rfl rfl (fun hg => by first | (simp only [Gt, Bool.and_eq_true] at hg; simp only [All, List.cons_append, List.nil_append, List.append_nil, List.mem_cons, List.not_mem_nil, or_false, forall_eq_or_imp, forall_eq, Bool.and_eq_true, hg, Bool.not_false, Bool.not_true, and_self]; done) | (simp only [Gt] at hg; simp only [All, List.cons_append, List.nil_append, List.append_nil, List.mem_cons, List.not_mem_nil, or_false, forall_eq_or_imp, forall_eq, hg, and_self])) m1 Try.isAgg3 rfl rfl rfl ?_; clear hC a; intro a hC
    refine L.pu hC rfl rfl (fun hg => by first | (simp only [Gt, Bool.and_eq_true] at hg; simp only [All, List.cons_append, List.nil_append, List.append_nil, List.mem_cons, List.not_mem_nil, or_false, forall_eq_or_imp, forall_eq, Bool.and_eq_true, hg, Bool.not_false, Bool.not_true, and_self]; done) | (simp only [Gt] at hg; simp only [All, List.cons_append, List.nil_append, List.append_nil, List.mem_cons, List.not_mem_nil, or_false, forall_eq_or_imp, forall_eq, hg, and_self])) rfl rfl ?_; clear hC a; intro a hC
    refine L.or hC rfl rfl rfl rfl (fun _ => All.nil) (fun _ hp => by first | (simp only [All, List.cons_append, List.nil_append, List.append_nil, List.mem_cons, List.not_mem_nil, or_false, forall_eq_or_imp, forall_eq, Bool.and_eq_true, hp, Bool.not_false, Bool.not_true, and_self]; done) | simp [All, hp]) rfl rfl ?_; clear hC a; intro a hC
    refine L.pu hC rfl rfl (fun _ => All.nil) rfl rfl ?_; clear hC a; intro a hC
    refine L.fa hC rfl rfl rfl (fun _ => All.nil) Try.underlying56 rfl Try.sizeOf3 rfl rfl rfl ?_; clear hC a; intro a hC
    refine L.ld hC rfl rfl rfl (fun hg => by first | (simp only [Gt, Bool.and_eq_true] at hg; simp only [All, List.cons_append, List.nil_append, List.append_nil, List.mem_cons, List.not_mem_nil, or_false, forall_eq_or_imp, forall_eq, Bool.and_eq_true, hg, Bool.not_false, Bool.not_true, and_self]; done) | (simp only [Gt] at hg; simp only [All, List.cons_append, List.nil_append, List.append_nil, List.mem_cons, List.not_mem_nil, or_false, forall_eq_or_imp, forall_eq, hg, and_self])) m1 Try.isAgg3 rfl rfl rfl ?_; clear hC a; intro a hC
    refine L.pu hC rfl rfl (fun hg => by first | (simp only [Gt, Bool.and_eq_true] at hg; simp only [All, List.cons_append, List.nil_append, List.append_nil, List.mem_cons, List.not_mem_nil, or_false, forall_eq_or_imp, forall_eq, Bool.and_eq_true, hg, Bool.not_false, Bool.not_true, and_self]; done) | (simp only [Gt] at hg; simp only [All, List.cons_append, List.nil_append, List.append_nil, List.mem_cons, List.not_mem_nil, or_false, forall_eq_or_imp, forall_eq, hg, and_self])) rfl rfl ?_; clear hC a; intro a hC
    refine L.or hC rfl rfl rfl rfl (fun _ => All.nil) (fun _ hp => by first | (simp only [All, List.cons_append, List.nil_append, List.append_nil, List.mem_cons, List.not_mem_nil, or_false, forall_eq_or_imp, forall_eq, Bool.and_eq_true, hp, Bool.not_false, Bool.not_true, and_self]; done) | simp [All, hp]) rfl rfl ?_; clear hC a; intro a hC
    refine L.pu hC rfl rfl (fun _ => All.nil) rfl rfl ?_; clear hC a; intro a hC
    refine L.fa hC rfl rfl rfl (fun _ => All.nil) Try.underlying56 rfl Try.sizeOf3 rfl rfl rfl ?_; clear hC a; intro a hC
    refine L.ld hC rfl rfl rfl (fun hg => by first | (simp only [Gt, Bool.and_eq_true] at hg; simp only [All, List.cons_append, List.nil_append, List.append_nil, List.mem_cons, List.not_mem_nil, or_false, forall_eq_or_imp, forall_eq, Bool.and_eq_true, hg, Bool.not_false, Bool.not_true, and_self]; done) | (simp only [Gt] at hg; simp only [All, List.cons_append, List.nil_append, List.append_nil, List.mem_cons, List.not_mem_nil, or_false, forall_eq_or_imp, forall_eq, hg, and_self])) m1 Try.isAgg3 rfl rfl rfl ?_; clear hC a; intro a hC
    refine L.pu hC rfl rfl (fun hg => by first | (simp only [Gt, Bool.and_eq_true] at hg; simp only [All, List.cons_append, List.nil_append, List.append_nil, List.mem_cons, List.not_mem_nil, or_false, forall_eq_or_imp, forall_eq, Bool.and_eq_true, hg, Bool.not_false, Bool.not_true, and_self]; done) | (simp only [Gt] at hg; simp only [All, List.cons_append, List.nil_append, List.append_nil, List.mem_cons, List.not_mem_nil, or_false, forall_eq_or_imp, forall_eq, hg, and_self])) rfl rfl ?_; clear hC a; intro a hC
    refine L.or hC rfl rfl rfl rfl (fun _ => All.nil) (fun _ hp => by first | (simp only [All, List.cons_append, List.nil_append, List.append_nil, List.mem_cons, List.not_mem_nil, or_false, forall_eq_or_imp, forall_eq, Bool.and_eq_true, hp, Bool.not_false, Bool.not_true, and_self]; done) | simp [All, hp]) rfl rfl ?_; clear hC a; intro a hC
    refine L.pu hC rfl rfl (fun _ => All.nil) rfl rfl ?_; clear hC a; intro a hC
    refine L.fa hC rfl rfl rfl (fun _ => All.nil) Try.underlying56 rfl Try.sizeOf3 rfl rfl rfl ?_; clear hC a; intro a hC
    refine L.ld hC rfl rfl rfl (fun hg => by first | (simp only [Gt, Bool.and_eq_true] at hg; simp only [All, List.cons_append, List.nil_append, List.append_nil, List.mem_cons, List.not_mem_nil, or_false, forall_eq_or_imp, forall_eq, Bool.and_eq_true, hg, Bool.not_false, Bool.not_true, and_self]; done) | (simp only [Gt] at hg; simp only [All, List.cons_append, List.nil_append, List.append_nil, List.mem_cons, List.not_mem_nil, or_false, forall_eq_or_imp, forall_eq, hg, and_self])) m1 Try.isAgg3 rfl rfl rfl ?_; clear hC a; intro a hC
    refine L.fa hC rfl rfl rfl (fun _ => All.nil) Try.underlying56 rfl Try.sizeOf3 rfl rfl rfl ?_; clear hC a; intro a hC
    refine L.ld hC rfl rfl rfl (fun hg => by first | (simp only [Gt, Bool.and_eq_true] at hg; simp only [All, List.cons_append, List.nil_append, List.append_nil, List.mem_cons, List.not_mem_nil, or_false, forall_eq_or_imp, forall_eq, Bool.and_eq_true, hg, Bool.not_false, Bool.not_true, and_self]; done) | (simp only [Gt] at hg; simp only [All, List.cons_append, List.nil_append, List.append_nil, List.mem_cons, List.not_mem_nil, or_false, forall_eq_or_imp, forall_eq, hg, and_self])) m1 Try.isAgg3 rfl rfl rfl ?_; clear hC a; intro a hC
    refine L.pu hC rfl rfl (fun hg => by first | (simp only [Gt, Bool.and_eq_true] at hg; simp only [All, List.cons_append, List.nil_append, List.append_nil, List.mem_cons, List.not_mem_nil, or_false, forall_eq_or_imp, forall_eq, Bool.and_eq_true, hg, Bool.not_false, Bool.not_true, and_self]; done) | (simp only [Gt] at hg; simp only [All, List.cons_append, List.nil_append, List.append_nil, List.mem_cons, List.not_mem_nil, or_false, forall_eq_or_imp, forall_eq, hg, and_self])) rfl rfl ?_; clear hC a; intro a hC
    refine L.or hC rfl rfl rfl rfl (fun _ => All.nil) (fun _ hp => by first | (simp only [All, List.cons_append, List.nil_append, List.append_nil, List.mem_cons, List.not_mem_nil, or_false, forall_eq_or_imp, forall_eq, Bool.and_eq_true, hp, Bool.not_false, Bool.not_true, and_self]; done) | simp [All, hp]) rfl rfl ?_; clear hC a; intro a hC
    refine L.pu hC rfl rfl (fun _ => All.nil) rfl rfl ?_; clear hC a; intro a hC
    refine L.fa hC rfl rfl rfl (fun _ => All.nil) Try.underlying56 rfl Try.sizeOf3 rfl rfl rfl ?_; clear hC a; intro a hC
    refine L.ld hC rfl rfl rfl (fun hg => by first | (simp only [Gt, Bool.and_eq_true] at hg; simp only [All, List.cons_append, List.nil_append, List.append_nil, List.mem_cons, List.not_mem_nil, or_false, forall_eq_or_imp, forall_eq, Bool.and_eq_true, hg, Bool.not_false, Bool.not_true, and_self]; done) | (simp only [Gt] at hg; simp only [All, List.cons_append, List.nil_append, List.append_nil, List.mem_cons, List.not_mem_nil, or_false, forall_eq_or_imp, forall_eq, hg, and_self])) m1 Try.isAgg3 rfl rfl rfl ?_; clear hC a; intro a hC
    refine L.pu hC rfl rfl (fun hg => by first | (simp only [Gt, Bool.and_eq_true] at hg; simp only [All, List.cons_append, List.nil_append, List.append_nil, List.mem_cons, List.not_mem_nil, or_false, forall_eq_or_imp, forall_eq, Bool.and_eq_true, hg, Bool.not_false, Bool.not_true, and_self]; done) | (simp only [Gt] at hg; simp only [All, List.cons_append, List.nil_append, List.append_nil, List.mem_cons, List.not_mem_nil, or_false, forall_eq_or_imp, forall_eq, hg, and_self])) rfl rfl ?_; clear hC a; intro a hC
    refine L.or hC rfl rfl rfl rfl (fun _ => All.nil) (fun _ hp => by first | (simp only [All, List.cons_append, List.nil_append, List.append_nil, List.mem_cons, List.not_mem_nil, or_false, forall_eq_or_imp, forall_eq, Bool.and_eq_true, hp, Bool.not_false, Bool.not_true, and_self]; done) | simp [All, hp]) rfl rfl ?_; clear hC a; intro a hC
    refine L.pu hC rfl rfl (fun _ => All.nil) rfl rfl ?_; clear hC a; intro a hC
    refine L.fa hC rfl rfl rfl (fun _ => All.nil) Try.underlying56 rfl Try.sizeOf54 rfl rfl rfl ?_; clear hC a; intro a hC
    refine L.ld hC rfl rfl rfl (fun hg => by first | (simp only [Gt, Bool.and_eq_true] at hg; simp only [All, List.cons_append, List.nil_append, List.append_nil, List.mem_cons, List.not_mem_nil, or_false, forall_eq_or_imp, forall_eq, Bool.and_eq_true, hg, Bool.not_false, Bool.not_true, and_self]; done) | (simp only [Gt] at hg; simp only [All, List.cons_append, List.nil_append, List.append_nil, List.mem_cons, List.not_mem_nil, or_false, forall_eq_or_imp, forall_eq, hg, and_self])) m1 Try.isAgg54 rfl rfl rfl ?_; clear hC a; intro a hC
    refine L.len hC rfl rfl rfl (fun hg => by first | (simp only [Gt, Bool.and_eq_true] at hg; simp only [All, List.cons_append, List.nil_append, List.append_nil, List.mem_cons, List.not_mem_nil, or_false, forall_eq_or_imp, forall_eq, Bool.and_eq_true, hg, Bool.not_false, Bool.not_true, and_self]; done) | (simp only [Gt] at hg; simp only [All, List.cons_append, List.nil_append, List.append_nil, List.mem_cons, List.not_mem_nil, or_false, forall_eq_or_imp, forall_eq, hg, and_self])) (rd_form (hC.at m2)) Try.underlying54 rfl rfl ?_; clear hC a; intro a hC
    refine L.fa hC rfl rfl rfl (fun _ => All.nil) Try.underlying60 rfl Try.sizeOf3 rfl rfl rfl ?_; clear hC a; intro a hC
    refine L.ld hC rfl rfl rfl (fun hg => by first | (simp only [Gt, Bool.and_eq_true] at hg; simp only [All, List.cons_append, List.nil_append, List.append_nil, List.mem_cons, List.not_mem_nil, or_false, forall_eq_or_imp, forall_eq, Bool.and_eq_true, hg, Bool.not_false, Bool.not_true, and_self]; done) | (simp only [Gt] at hg; simp only [All, List.cons_append, List.nil_append, List.append_nil, List.mem_cons, List.not_mem_nil, or_false, forall_eq_or_imp, forall_eq, hg, and_self])) m0 Try.isAgg3 rfl rfl rfl ?_; clear hC a; intro a hC
    refine L.pu hC rfl rfl (fun hg => by first | (simp only [Gt, Bool.and_eq_true] at hg; simp only [All, List.cons_append, List.nil_append, List.append_nil, List.mem_cons, List.not_mem_nil, or_false, forall_eq_or_imp, forall_eq, Bool.and_eq_true, hg, Bool.not_false, Bool.not_true, and_self]; done) | (simp only [Gt] at hg; simp only [All, List.cons_append, List.nil_append, List.append_nil, List.mem_cons, List.not_mem_nil, or_false, forall_eq_or_imp, forall_eq, hg, and_self])) rfl rfl ?_; clear hC a; intro a hC
    refine L.or hC rfl rfl rfl rfl (fun _ => All.nil) (fun _ hp => by first | (simp only [All, List.cons_append, List.nil_append, List.append_nil, List.mem_cons, List.not_mem_nil, or_false, forall_eq_or_imp, forall_eq, Bool.and_eq_true, hp, Bool.not_false, Bool.not_true, and_self]; done) | simp [All, hp]) rfl rfl ?_; clear hC a; intro a hC
    refine L.nil ?_
    refine hk7 _ _ ?_; clear hk7; try clear k7
    refine W.cond hC rfl (fun h2 => ?_) (fun h2 => ?_)
    ·
      refine W.seqk fun k8 hk8 => ?_
      refine W.region ?_
      refine L.pu hC rfl rfl (fun _ => All.nil) rfl rfl ?_; clear hC a; intro a hC
      refine L.nil ?_
      refine hk8 _ _ ?_; clear hk8; try clear k8
      refine W.ret ?_
      refine rets hC rfl (.tmp rfl .nil) ?_
      refine ⟨?_, hC.frm⟩
      exact congrArg (fun x => Ending.returned (.int .i64 x)) ((chkr_b h1 h2).symm)
    ·
      refine W.skip ?_
      refine hk6 _ _ ?_; clear hk6; try clear k6
      refine W.seqk fun k9 hk9 => ?_
      refine W.region ?_
      refine L.fa hC rfl rfl rfl (fun _ => All.nil) Try.underlying56 rfl Try.sizeOf3 rfl rfl rfl ?_; clear hC a; intro a hC
      refine L.ld hC rfl rfl rfl (fun _ => All.nil) m1 Try.isAgg3 rfl rfl rfl ?_; clear hC a; intro a hC
      refine L.pu hC rfl rfl (fun _ => All.nil) rfl rfl ?_; clear hC a; intro a hC
      refine L.nil ?_
      refine hk9 _ _ ?_; clear hk9; try clear k9
      refine W.seqk fun k10 hk10 => ?_
      refine W.seqk fun k11 hk11 => ?_
      refine W.region ?_
      refine L.pu hC rfl rfl (fun _ => All.nil) rfl rfl ?_; clear hC a; intro a hC
      refine L.nil ?_
      refine hk11 _ _ ?_; clear hk11; try clear k11
      refine W.block ?_
      replace hC := hC.subl (.cons _ (.cons_cons _ (.cons_cons _ .slnil)))
      replace hC := hC.fr1
      replace hC := hC.fr1
      refine W.loop (fun (j : Nat) a w' => (j ≤ l.length) ∧ (∀ i, i < j → oddA c l i l[i]! = false) ∧ Conf 154 Nob w0 [(8, (none, .int .i64 (j : Int))), (7, (none, .int .i64 (lastA c l j))), (2, (none, .pointer (some ⟨cb, 0, none⟩)))] [blkR cb (callE c (.slice vA l.length vc)) 56, rdR (.slice vA l.length vc) attE l] a w') (fun (j : Nat) => l.length - j) 0 ?_ ?_
      · exact ⟨Nat.zero_le _, fun i hi => by omega, hC.keep ⟨rfl, rfl, rfl, trivial⟩⟩
      · rintro j a w ⟨hj, ho, hC⟩
        refine W.seqk fun k12 hk12 => ?_
        refine W.seqk fun k13 hk13 => ?_
        refine W.region ?_
        refine L.pu hC rfl rfl (fun _ => All.nil) rfl rfl ?_; clear hC a; intro a hC
        refine L.fa hC rfl rfl rfl (fun _ => All.nil) Try.underlying56 rfl Try.sizeOf54 rfl rfl rfl ?_; clear hC a; intro a hC
        refine L.ld hC rfl rfl rfl (fun _ => All.nil) m0 Try.isAgg54 rfl rfl rfl ?_; clear hC a; intro a hC
        refine L.len hC rfl rfl rfl (fun _ => All.nil) (rd_form (hC.at m1)) Try.underlying54 rfl rfl ?_; clear hC a; intro a hC
        refine L.pu hC rfl rfl (fun _ => All.nil) rfl rfl ?_; clear hC a; intro a hC
        refine L.nil ?_
        refine hk13 _ _ ?_; clear hk13; try clear k13
        refine W.cond hC rfl (fun h3 => ?_) (fun h3 => ?_)
        ·
          have h3 := of_decide_eq_true h3
          refine W.skip ?_
          refine hk12 _ _ ?_; clear hk12; try clear k12
          refine W.seqk fun k14 hk14 => ?_
          refine W.block ?_
          refine W.seqk fun k15 hk15 => ?_
          refine W.region ?_
          refine L.fa hC rfl rfl rfl (fun _ => All.nil) Try.underlying56 rfl Try.sizeOf54 rfl rfl rfl ?_; clear hC a; intro a hC
          refine L.ld hC rfl rfl rfl (fun _ => All.nil) m0 Try.isAgg54 rfl rfl rfl ?_; clear hC a; intro a hC
          refine L.pu hC rfl rfl (fun _ => All.nil) rfl rfl ?_; clear hC a; intro a hC
          refine L.ixr hC rfl rfl rfl rfl m1 (fun _ => All.nil) (fun _ => All.nil) Try.underlying54 Try.sizeOf65 (fun _ => by omega) rfl rfl ?_; clear hC a; intro a hC
          refine L.ldxa hC rfl rfl rfl rfl (fun _ => All.nil) (fun hg => rd_bang hC m1 (by omega) _) Try.isAgg65 Try.sizeOf65 rfl rfl rfl rfl ?_; clear hC a; intro a hC
          refine L.alloc hC rfl rfl Try.zeroValue65 rfl rfl rfl ?_; clear hC a; intro ab a w hF hC
          refine L.st hC rfl rfl rfl rfl Try.sizeOf65 rfl rfl rfl rfl rfl ?_; clear hC a; intro a w hF hC
          refine L.nil ?_
          refine hk15 _ _ ?_; clear hk15; try clear k15
          refine W.seqk fun k16 hk16 => ?_
          refine W.seqk fun k17 hk17 => ?_
          refine W.drawD hC Try.mixed rfl rfl ?_
          apply DRN.cons (.det _ _) rfl
          · intro a w hC
            refine L.fa hC rfl rfl rfl (fun _ => All.nil) Try.underlying65 rfl Try.sizeOf3 rfl rfl rfl ?_; clear hC a; intro a hC
            exact L.nil ⟨⟨_, [], hC⟩, Frm.refl _ _⟩
          apply DRN.cons (.det _ _) rfl
          · intro a w hC
            refine L.ld hC rfl rfl rfl (fun _ => All.nil) m0 Try.isAgg3 rfl rfl rfl ?_; clear hC a; intro a hC
            exact L.nil ⟨⟨_, [], hC⟩, Frm.refl _ _⟩
          apply DRN.cons (.det _ _) rfl
          · intro a w hC
            refine L.call hC rfl rfl Try.call88 rfl (fun _ => All.nil) (fun hg => known27_ok _ _) rfl rfl ?_; clear hC a; intro a w hF hC
            exact L.nil ⟨⟨_, [], hC⟩, hF⟩
          apply DRN.cons (.det _ _) rfl
          · intro a w hC
            refine L.pu hC rfl rfl (fun _ => All.nil) rfl rfl ?_; clear hC a; intro a hC
            exact L.nil ⟨⟨_, [], hC⟩, Frm.refl _ _⟩
          apply DRN.cons (.det _ _) rfl
          · intro a w hC
            refine L.pu hC rfl rfl (fun _ => All.nil) rfl rfl ?_; clear hC a; intro a hC
            exact L.nil ⟨⟨_, [], hC⟩, Frm.refl _ _⟩
          apply DRN.cons (.det _ _) rfl
          · intro a w hC
            refine L.fa hC rfl rfl rfl (fun _ => All.nil) Try.underlying65 rfl Try.sizeOf3 rfl rfl rfl ?_; clear hC a; intro a hC
            exact L.nil ⟨⟨_, [], hC⟩, Frm.refl _ _⟩
          apply DRN.cons (.det _ _) rfl
          · intro a w hC
            refine L.ld hC rfl rfl rfl (fun hg => by first | (simp only [Gt, Bool.and_eq_true] at hg; simp only [All, List.cons_append, List.nil_append, List.append_nil, List.mem_cons, List.not_mem_nil, or_false, forall_eq_or_imp, forall_eq, Bool.and_eq_true, hg, Bool.not_false, Bool.not_true, and_self]; done) | (simp only [Gt] at hg; simp only [All, List.cons_append, List.nil_append, List.append_nil, List.mem_cons, List.not_mem_nil, or_false, forall_eq_or_imp, forall_eq, hg, and_self])) m0 Try.isAgg3 rfl rfl rfl ?_; clear hC a; intro a hC
            exact L.nil ⟨⟨_, [], hC⟩, Frm.refl _ _⟩
          apply DRN.cons (.det _ _) rfl
          · intro a w hC
            refine L.call hC rfl rfl Try.call88 rfl (fun hg => by first | (simp only [Gt, Bool.and_eq_true] at hg; simp only [All, List.cons_append, List.nil_append, List.append_nil, List.mem_cons, List.not_mem_nil, or_false, forall_eq_or_imp, forall_eq, Bool.and_eq_true, hg, Bool.not_false, Bool.not_true, and_self]; done) | (simp only [Gt] at hg; simp only [All, List.cons_append, List.nil_append, List.append_nil, List.mem_cons, List.not_mem_nil, or_false, forall_eq_or_imp, forall_eq, hg, and_self])) (fun hg => known27_ok _ _) rfl rfl ?_; clear hC a; intro a w hF hC
            exact L.nil ⟨⟨_, [], hC⟩, hF⟩
          apply DRN.cons (.det _ _) rfl
          · intro a w hC
            refine L.pu hC rfl rfl (fun hg => by first | (simp only [Gt, Bool.and_eq_true] at hg; simp only [All, List.cons_append, List.nil_append, List.append_nil, List.mem_cons, List.not_mem_nil, or_false, forall_eq_or_imp, forall_eq, Bool.and_eq_true, hg, Bool.not_false, Bool.not_true, and_self]; done) | (simp only [Gt] at hg; simp only [All, List.cons_append, List.nil_append, List.append_nil, List.mem_cons, List.not_mem_nil, or_false, forall_eq_or_imp, forall_eq, hg, and_self])) rfl rfl ?_; clear hC a; intro a hC
            exact L.nil ⟨⟨_, [], hC⟩, Frm.refl _ _⟩
          apply DRN.cons (.det _ _) rfl
          · intro a w hC
            refine L.or hC rfl rfl rfl rfl (fun _ => All.nil) (fun _ hp => by first | (simp only [All, List.cons_append, List.nil_append, List.append_nil, List.mem_cons, List.not_mem_nil, or_false, forall_eq_or_imp, forall_eq, Bool.and_eq_true, hp, Bool.not_false, Bool.not_true, and_self]; done) | simp [All, hp]) rfl rfl ?_; clear hC a; intro a hC
            exact L.nil ⟨⟨_, [], hC⟩, Frm.refl _ _⟩
          apply DRN.cons (.det _ _) rfl
          · intro a w hC
            refine L.pu hC rfl rfl (fun _ => All.nil) rfl rfl ?_; clear hC a; intro a hC
            exact L.nil ⟨⟨_, [], hC⟩, Frm.refl _ _⟩
          apply DRN.cons (.det _ _) rfl
          · intro a w hC
            refine L.fa hC rfl rfl rfl (fun _ => All.nil) Try.underlying65 rfl Try.sizeOf3 rfl rfl rfl ?_; clear hC a; intro a hC
            exact L.nil ⟨⟨_, [], hC⟩, Frm.refl _ _⟩
          apply DRN.cons (.det _ _) rfl
          · intro a w hC
            refine L.ld hC rfl rfl rfl (fun hg => by first | (simp only [Gt, Bool.and_eq_true] at hg; simp only [All, List.cons_append, List.nil_append, List.append_nil, List.mem_cons, List.not_mem_nil, or_false, forall_eq_or_imp, forall_eq, Bool.and_eq_true, hg, Bool.not_false, Bool.not_true, and_self]; done) | (simp only [Gt] at hg; simp only [All, List.cons_append, List.nil_append, List.append_nil, List.mem_cons, List.not_mem_nil, or_false, forall_eq_or_imp, forall_eq, hg, and_self])) m0 Try.isAgg3 rfl rfl rfl ?_; clear hC a; intro a hC
            exact L.nil ⟨⟨_, [], hC⟩, Frm.refl _ _⟩
          apply DRN.cons (.det _ _) rfl
          · intro a w hC
            refine L.call hC rfl rfl Try.call88 rfl (fun hg => by first | (simp only [Gt, Bool.and_eq_true] at hg; simp only [All, List.cons_append, List.nil_append, List.append_nil, List.mem_cons, List.not_mem_nil, or_false, forall_eq_or_imp, forall_eq, Bool.and_eq_true, hg, Bool.not_false, Bool.not_true, and_self]; done) | (simp only [Gt] at hg; simp only [All, List.cons_append, List.nil_append, List.append_nil, List.mem_cons, List.not_mem_nil, or_false, forall_eq_or_imp, forall_eq, hg, and_self])) (fun hg => known27_ok _ _) rfl rfl ?_; clear hC a; intro a w hF hC
            exact L.nil ⟨⟨_, [], hC⟩, hF⟩
          apply DRN.cons (.det _ _) rfl
          · intro a w hC
            refine L.pu hC rfl rfl (fun hg => by first | (simp only [Gt, Bool.and_eq_true] at hg; simp only [All, List.cons_append, List.nil_append, List.append_nil, List.mem_cons, List.not_mem_nil, or_false, forall_eq_or_imp, forall_eq, Bool.and_eq_true, hg, Bool.not_false, Bool.not_true, and_self]; done) | (simp only [Gt] at hg; simp only [All, List.cons_append, List.nil_append, List.append_nil, List.mem_cons, List.not_mem_nil, or_false, forall_eq_or_imp, forall_eq, hg, and_self])) rfl rfl ?_; clear hC a; intro a hC
            exact L.nil ⟨⟨_, [], hC⟩, Frm.refl _ _⟩
          apply DRN.cons (.det _ _) rfl
          · intro a w hC
            refine L.or hC rfl rfl rfl rfl (fun _ => All.nil) (fun _ hp => by first | (simp only [All, List.cons_append, List.nil_append, List.append_nil, List.mem_cons, List.not_mem_nil, or_false, forall_eq_or_imp, forall_eq, Bool.and_eq_true, hp, Bool.not_false, Bool.not_true, and_self]; done) | simp [All, hp]) rfl rfl ?_; clear hC a; intro a hC
            exact L.nil ⟨⟨_, [], hC⟩, Frm.refl _ _⟩
          apply DRN.cons (.det _ _) rfl
          · intro a w hC
            refine L.pu hC rfl rfl (fun _ => All.nil) rfl rfl ?_; clear hC a; intro a hC
            exact L.nil ⟨⟨_, [], hC⟩, Frm.refl _ _⟩
          apply DRN.cons (.det _ _) rfl
          · intro a w hC
            refine L.fa hC rfl rfl rfl (fun _ => All.nil) Try.underlying65 rfl Try.sizeOf3 rfl rfl rfl ?_; clear hC a; intro a hC
            exact L.nil ⟨⟨_, [], hC⟩, Frm.refl _ _⟩
          apply DRN.cons (.det _ _) rfl
          · intro a w hC
            refine L.ld hC rfl rfl rfl (fun hg => by first | (simp only [Gt, Bool.and_eq_true] at hg; simp only [All, List.cons_append, List.nil_append, List.append_nil, List.mem_cons, List.not_mem_nil, or_false, forall_eq_or_imp, forall_eq, Bool.and_eq_true, hg, Bool.not_false, Bool.not_true, and_self]; done) | (simp only [Gt] at hg; simp only [All, List.cons_append, List.nil_append, List.append_nil, List.mem_cons, List.not_mem_nil, or_false, forall_eq_or_imp, forall_eq, hg, and_self])) m0 Try.isAgg3 rfl rfl rfl ?_; clear hC a; intro a hC
            exact L.nil ⟨⟨_, [], hC⟩, Frm.refl _ _⟩
          apply DRN.cons (.det _ _) rfl
          · intro a w hC
            refine L.call hC rfl rfl Try.call88 rfl (fun hg => by first | (simp only [Gt, Bool.and_eq_true] at hg; simp only [All, List.cons_append, List.nil_append, List.append_nil, List.mem_cons, List.not_mem_nil, or_false, forall_eq_or_imp, forall_eq, Bool.and_eq_true, hg, Bool.not_false, Bool.not_true, and_self]; done) | (simp only [Gt] at hg; simp only [All, List.cons_append, List.nil_append, List.append_nil, List.mem_cons, List.not_mem_nil, or_false, forall_eq_or_imp, forall_eq, hg, and_self])) (fun hg => known27_ok _ _) rfl rfl ?_; clear hC a; intro a w hF hC
            exact L.nil ⟨⟨_, [], hC⟩, hF⟩
          apply DRN.cons (.det _ _) rfl
          · intro a w hC
            refine L.pu hC rfl rfl (fun hg => by first | (simp only [Gt, Bool.and_eq_true] at hg; simp only [All, List.cons_append, List.nil_append, List.append_nil, List.mem_cons, List.not_mem_nil, or_false, forall_eq_or_imp, forall_eq, Bool.and_eq_true, hg, Bool.not_false, Bool.not_true, and_self]; done) | (simp only [Gt] at hg; simp only [All, List.cons_append, List.nil_append, List.append_nil, List.mem_cons, List.not_mem_nil, or_false, forall_eq_or_imp, forall_eq, hg, and_self])) rfl rfl ?_; clear hC a; intro a hC
            exact L.nil ⟨⟨_, [], hC⟩, Frm.refl _ _⟩
          apply DRN.cons (.det _ _) rfl
          · intro a w hC
            refine L.or hC rfl rfl rfl rfl (fun _ => All.nil) (fun _ hp => by first | (simp only [All, List.cons_append, List.nil_append, List.append_nil, List.mem_cons, List.not_mem_nil, or_false, forall_eq_or_imp, forall_eq, Bool.and_eq_true, hp, Bool.not_false, Bool.not_true, and_self]; done) | simp [All, hp]) rfl rfl ?_; clear hC a; intro a hC
            exact L.nil ⟨⟨_, [], hC⟩, Frm.refl _ _⟩
          apply DRN.cons (.det _ _) rfl
          · intro a w hC
            refine L.pu hC rfl rfl (fun _ => All.nil) rfl rfl ?_; clear hC a; intro a hC
            exact L.nil ⟨⟨_, [], hC⟩, Frm.refl _ _⟩
          apply DRN.cons (.det _ _) rfl
          · intro a w hC
            refine L.fa hC rfl rfl rfl (fun _ => All.nil) Try.underlying65 rfl Try.sizeOf3 rfl rfl rfl ?_; clear hC a; intro a hC
            exact L.nil ⟨⟨_, [], hC⟩, Frm.refl _ _⟩
          apply DRN.cons (.det _ _) rfl
          · intro a w hC
            refine L.ld hC rfl rfl rfl (fun hg => by first | (simp only [Gt, Bool.and_eq_true] at hg; simp only [All, List.cons_append, List.nil_append, List.append_nil, List.mem_cons, List.not_mem_nil, or_false, forall_eq_or_imp, forall_eq, Bool.and_eq_true, hg, Bool.not_false, Bool.not_true, and_self]; done) | (simp only [Gt] at hg; simp only [All, List.cons_append, List.nil_append, List.append_nil, List.mem_cons, List.not_mem_nil, or_false, forall_eq_or_imp, forall_eq, hg, and_self])) m0 Try.isAgg3 rfl rfl rfl ?_; clear hC a; intro a hC
            exact L.nil ⟨⟨_, [], hC⟩, Frm.refl _ _⟩
          apply DRN.cons (.det _ _) rfl
          · intro a w hC
            refine L.pu hC rfl rfl (fun _ => All.nil) rfl rfl ?_; clear hC a; intro a hC
            exact L.nil ⟨⟨_, [], hC⟩, Frm.refl _ _⟩
          apply DRN.cons (.det _ _) rfl
          · intro a w hC
            refine L.pu hC rfl rfl (fun hg => by first | (simp only [Gt, Bool.and_eq_true] at hg; simp only [All, List.cons_append, List.nil_append, List.append_nil, List.mem_cons, List.not_mem_nil, or_false, forall_eq_or_imp, forall_eq, Bool.and_eq_true, hg, Bool.not_false, Bool.not_true, and_self]; done) | (simp only [Gt] at hg; simp only [All, List.cons_append, List.nil_append, List.append_nil, List.mem_cons, List.not_mem_nil, or_false, forall_eq_or_imp, forall_eq, hg, and_self])) rfl rfl ?_; clear hC a; intro a hC
            exact L.nil ⟨⟨_, [], hC⟩, Frm.refl _ _⟩
          apply DRN.cons (.det _ _) rfl
          · intro a w hC
            refine L.or hC rfl rfl rfl rfl (fun _ => All.nil) (fun _ hp => by first | (simp only [All, List.cons_append, List.nil_append, List.append_nil, List.mem_cons, List.not_mem_nil, or_false, forall_eq_or_imp, forall_eq, Bool.and_eq_true, hp, Bool.not_false, Bool.not_true, and_self]; done) | simp [All, hp]) rfl rfl ?_; clear hC a; intro a hC
            exact L.nil ⟨⟨_, [], hC⟩, Frm.refl _ _⟩
          apply DRN.cons (.det _ _) rfl
          · intro a w hC
            refine L.pu hC rfl rfl (fun _ => All.nil) rfl rfl ?_; clear hC a; intro a hC
            exact L.nil ⟨⟨_, [], hC⟩, Frm.refl _ _⟩
          apply DRN.cons (.det _ _) rfl
          · intro a w hC
            refine L.fa hC rfl rfl rfl (fun _ => All.nil) Try.underlying65 rfl Try.sizeOf3 rfl rfl rfl ?_; clear hC a; intro a hC
            exact L.nil ⟨⟨_, [], hC⟩, Frm.refl _ _⟩
          apply DRN.cons (.det _ _) rfl
          · intro a w hC
            refine L.ld hC rfl rfl rfl (fun hg => by first | (simp only [Gt, Bool.and_eq_true] at hg; simp only [All, List.cons_append, List.nil_append, List.append_nil, List.mem_cons, List.not_mem_nil, or_false, forall_eq_or_imp, forall_eq, Bool.and_eq_true, hg, Bool.not_false, Bool.not_true, and_self]; done) | (simp only [Gt] at hg; simp only [All, List.cons_append, List.nil_append, List.append_nil, List.mem_cons, List.not_mem_nil, or_false, forall_eq_or_imp, forall_eq, hg, and_self])) m0 Try.isAgg3 rfl rfl rfl ?_; clear hC a; intro a hC
            exact L.nil ⟨⟨_, [], hC⟩, Frm.refl _ _⟩
          apply DRN.cons (.det _ _) rfl
          · intro a w hC
            refine L.pu hC rfl rfl (fun hg => by first | (simp only [Gt, Bool.and_eq_true] at hg; simp only [All, List.cons_append, List.nil_append, List.append_nil, List.mem_cons, List.not_mem_nil, or_false, forall_eq_or_imp, forall_eq, Bool.and_eq_true, hg, Bool.not_false, Bool.not_true, and_self]; done) | (simp only [Gt] at hg; simp only [All, List.cons_append, List.nil_append, List.append_nil, List.mem_cons, List.not_mem_nil, or_false, forall_eq_or_imp, forall_eq, hg, and_self])) rfl rfl ?_; clear hC a; intro a hC
            exact L.nil ⟨⟨_, [], hC⟩, Frm.refl _ _⟩
          apply DRN.cons (.det _ _) rfl
          · intro a w hC
            refine L.or hC rfl rfl rfl rfl (fun _ => All.nil) (fun _ hp => by first | (simp only [All, List.cons_append, List.nil_append, List.append_nil, List.mem_cons, List.not_mem_nil, or_false, forall_eq_or_imp, forall_eq, Bool.and_eq_true, hp, Bool.not_false, Bool.not_true, and_self]; done) | simp [All, hp]) rfl rfl ?_; clear hC a; intro a hC
            exact L.nil ⟨⟨_, [], hC⟩, Frm.refl _ _⟩
          apply DRN.cons (.det _ _) rfl
          · intro a w hC
            refine L.pu hC rfl rfl (fun _ => All.nil) rfl rfl ?_; clear hC a; intro a hC
            exact L.nil ⟨⟨_, [], hC⟩, Frm.refl _ _⟩
          apply DRN.cons (.det _ _) rfl
          · intro a w hC
            refine L.fa hC rfl rfl rfl (fun _ => All.nil) Try.underlying65 rfl Try.sizeOf4 rfl rfl rfl ?_; clear hC a; intro a hC
            exact L.nil ⟨⟨_, [], hC⟩, Frm.refl _ _⟩
          apply DRN.cons (.det _ _) rfl
          · intro a w hC
            refine L.ld hC rfl rfl rfl (fun hg => by first | (simp only [Gt, Bool.and_eq_true] at hg; simp only [All, List.cons_append, List.nil_append, List.append_nil, List.mem_cons, List.not_mem_nil, or_false, forall_eq_or_imp, forall_eq, Bool.and_eq_true, hg, Bool.not_false, Bool.not_true, and_self]; done) | (simp only [Gt] at hg; simp only [All, List.cons_append, List.nil_append, List.append_nil, List.mem_cons, List.not_mem_nil, or_false, forall_eq_or_imp, forall_eq, hg, and_self])) m0 Try.isAgg4 rfl rfl rfl ?_; clear hC a; intro a hC
            exact L.nil ⟨⟨_, [], hC⟩, Frm.refl _ _⟩
          apply DRN.cons (.det _ _) rfl
          · intro a w hC
            refine L.pu hC rfl rfl (fun hg => by first | (simp only [Gt, Bool.and_eq_true] at hg; simp only [All, List.cons_append, List.nil_append, List.append_nil, List.mem_cons, List.not_mem_nil, or_false, forall_eq_or_imp, forall_eq, Bool.and_eq_true, hg, Bool.not_false, Bool.not_true, and_self]; done) | (simp only [Gt] at hg; simp only [All, List.cons_append, List.nil_append, List.append_nil, List.mem_cons, List.not_mem_nil, or_false, forall_eq_or_imp, forall_eq, hg, and_self])) rfl rfl ?_; clear hC a; intro a hC
            exact L.nil ⟨⟨_, [], hC⟩, Frm.refl _ _⟩
          apply DRN.cons (.det _ _) rfl
          · intro a w hC
            refine L.pu hC rfl rfl (fun _ => All.nil) rfl rfl ?_; clear hC a; intro a hC
            exact L.nil ⟨⟨_, [], hC⟩, Frm.refl _ _⟩
          apply DRN.cons (.det _ _) rfl
          · intro a w hC
            refine L.pu hC rfl rfl (fun hg => by first | (simp only [Gt, Bool.and_eq_true] at hg; simp only [All, List.cons_append, List.nil_append, List.append_nil, List.mem_cons, List.not_mem_nil, or_false, forall_eq_or_imp, forall_eq, Bool.and_eq_true, hg, Bool.not_false, Bool.not_true, and_self]; done) | (simp only [Gt] at hg; simp only [All, List.cons_append, List.nil_append, List.append_nil, List.mem_cons, List.not_mem_nil, or_false, forall_eq_or_imp, forall_eq, hg, and_self])) rfl rfl ?_; clear hC a; intro a hC
            exact L.nil ⟨⟨_, [], hC⟩, Frm.refl _ _⟩
          apply DRN.cons (.det _ _) rfl
          · intro a w hC
            refine L.pu hC rfl rfl (fun hg => by first | (simp only [Gt, Bool.and_eq_true] at hg; simp only [All, List.cons_append, List.nil_append, List.append_nil, List.mem_cons, List.not_mem_nil, or_false, forall_eq_or_imp, forall_eq, Bool.and_eq_true, hg, Bool.not_false, Bool.not_true, and_self]; done) | (simp only [Gt] at hg; simp only [All, List.cons_append, List.nil_append, List.append_nil, List.mem_cons, List.not_mem_nil, or_false, forall_eq_or_imp, forall_eq, hg, and_self])) rfl rfl ?_; clear hC a; intro a hC
            exact L.nil ⟨⟨_, [], hC⟩, Frm.refl _ _⟩
          apply DRN.cons (.det _ _) rfl
          · intro a w hC
            refine L.fa hC rfl rfl rfl (fun _ => All.nil) Try.underlying56 rfl Try.sizeOf4 rfl rfl rfl ?_; clear hC a; intro a hC
            exact L.nil ⟨⟨_, [], hC⟩, Frm.refl _ _⟩
          apply DRN.cons (.det _ _) rfl
          · intro a w hC
            refine L.ld hC rfl rfl rfl (fun hg => by first | (simp only [Gt, Bool.and_eq_true] at hg; simp only [All, List.cons_append, List.nil_append, List.append_nil, List.mem_cons, List.not_mem_nil, or_false, forall_eq_or_imp, forall_eq, Bool.and_eq_true, hg, Bool.not_false, Bool.not_true, and_self]; done) | (simp only [Gt] at hg; simp only [All, List.cons_append, List.nil_append, List.append_nil, List.mem_cons, List.not_mem_nil, or_false, forall_eq_or_imp, forall_eq, hg, and_self])) m1 Try.isAgg4 rfl rfl rfl ?_; clear hC a; intro a hC
            exact L.nil ⟨⟨_, [], hC⟩, Frm.refl _ _⟩
          apply DRN.cons (.det _ _) rfl
          · intro a w hC
            refine L.or hC rfl rfl rfl rfl (fun hg => by first | (simp only [Gt, Bool.and_eq_true] at hg; simp only [All, List.cons_append, List.nil_append, List.append_nil, List.mem_cons, List.not_mem_nil, or_false, forall_eq_or_imp, forall_eq, Bool.and_eq_true, hg, Bool.not_false, Bool.not_true, and_self]; done) | (simp only [Gt] at hg; simp only [All, List.cons_append, List.nil_append, List.append_nil, List.mem_cons, List.not_mem_nil, or_false, forall_eq_or_imp, forall_eq, hg, and_self])) (fun hg hp => by first | (simp only [Gt, Bool.and_eq_true] at hg; simp only [All, List.cons_append, List.nil_append, List.append_nil, List.mem_cons, List.not_mem_nil, or_false, forall_eq_or_imp, forall_eq, Bool.and_eq_true, hg, hp, Bool.not_false, Bool.not_true, and_self]; done) | (simp only [Gt] at hg; simp only [All, List.cons_append, List.nil_append, List.append_nil, List.mem_cons, List.not_mem_nil, or_false, forall_eq_or_imp, forall_eq, Bool.and_eq_true]; exact ⟨hg, by simp only [hp, Bool.not_false]⟩)) rfl rfl ?_; clear hC a; intro a hC
            exact L.nil ⟨⟨_, [], hC⟩, Frm.refl _ _⟩
          apply DRN.cons (.det _ _) rfl
          · intro a w hC
            refine L.and hC rfl rfl rfl rfl (fun hg => by first | (simp only [Gt, Bool.and_eq_true] at hg; simp only [All, List.cons_append, List.nil_append, List.append_nil, List.mem_cons, List.not_mem_nil, or_false, forall_eq_or_imp, forall_eq, Bool.and_eq_true, hg, Bool.not_false, Bool.not_true, and_self]; done) | (simp only [Gt] at hg; simp only [All, List.cons_append, List.nil_append, List.append_nil, List.mem_cons, List.not_mem_nil, or_false, forall_eq_or_imp, forall_eq, hg, and_self])) (fun hg hp => by first | (simp only [Gt, Bool.and_eq_true] at hg; simp only [All, List.cons_append, List.nil_append, List.append_nil, List.mem_cons, List.not_mem_nil, or_false, forall_eq_or_imp, forall_eq, Bool.and_eq_true, hg, hp, Bool.not_false, Bool.not_true, and_self]; done) | (simp only [Gt] at hg; simp only [All, List.cons_append, List.nil_append, List.append_nil, List.mem_cons, List.not_mem_nil, or_false, forall_eq_or_imp, forall_eq, Bool.and_eq_true]; exact ⟨hg, by simp only [hp, Bool.not_false]⟩)) rfl rfl ?_; clear hC a; intro a hC
            exact L.nil ⟨⟨_, [], hC⟩, Frm.refl _ _⟩
          apply DRN.cons (.det _ _) rfl
          · intro a w hC
            refine L.or hC rfl rfl rfl rfl (fun _ => All.nil) (fun _ hp => by first | (simp only [All, List.cons_append, List.nil_append, List.append_nil, List.mem_cons, List.not_mem_nil, or_false, forall_eq_or_imp, forall_eq, Bool.and_eq_true, hp, Bool.not_false, Bool.not_true, and_self]; done) | simp [All, hp]) rfl rfl ?_; clear hC a; intro a hC
            exact L.nil ⟨⟨_, [], hC⟩, Frm.refl _ _⟩
          apply DRN.cons (.det _ _) rfl
          · intro a w hC
            refine L.pu hC rfl rfl (fun _ => All.nil) rfl rfl ?_; clear hC a; intro a hC
            exact L.nil ⟨⟨_, [], hC⟩, Frm.refl _ _⟩
          apply DRN.cons (.det _ _) rfl
          · intro a w hC
            refine L.fa hC rfl rfl rfl (fun _ => All.nil) Try.underlying56 rfl Try.sizeOf4 rfl rfl rfl ?_; clear hC a; intro a hC
            exact L.nil ⟨⟨_, [], hC⟩, Frm.refl _ _⟩
          apply DRN.cons (.det _ _) rfl
          · intro a w hC
            refine L.ld hC rfl rfl rfl (fun hg => by first | (simp only [Gt, Bool.and_eq_true] at hg; simp only [All, List.cons_append, List.nil_append, List.append_nil, List.mem_cons, List.not_mem_nil, or_false, forall_eq_or_imp, forall_eq, Bool.and_eq_true, hg, Bool.not_false, Bool.not_true, and_self]; done) | (simp only [Gt] at hg; simp only [All, List.cons_append, List.nil_append, List.append_nil, List.mem_cons, List.not_mem_nil, or_false, forall_eq_or_imp, forall_eq, hg, and_self])) m1 Try.isAgg4 rfl rfl rfl ?_; clear hC a; intro a hC
            exact L.nil ⟨⟨_, [], hC⟩, Frm.refl _ _⟩
          apply DRN.cons (.det _ _) rfl
          · intro a w hC
            refine L.pu hC rfl rfl (fun hg => by first | (simp only [Gt, Bool.and_eq_true] at hg; simp only [All, List.cons_append, List.nil_append, List.append_nil, List.mem_cons, List.not_mem_nil, or_false, forall_eq_or_imp, forall_eq, Bool.and_eq_true, hg, Bool.not_false, Bool.not_true, and_self]; done) | (simp only [Gt] at hg; simp only [All, List.cons_append, List.nil_append, List.append_nil, List.mem_cons, List.not_mem_nil, or_false, forall_eq_or_imp, forall_eq, hg, and_self])) rfl rfl ?_; clear hC a; intro a hC
            exact L.nil ⟨⟨_, [], hC⟩, Frm.refl _ _⟩
          apply DRN.cons (.det _ _) rfl
          · intro a w hC
            refine L.lda hC rfl rfl rfl (fun _ => All.nil) m0 Try.isAgg65 Try.sizeOf65 rfl rfl rfl rfl ?_; clear hC a; intro a hC
            exact L.nil ⟨⟨_, [], hC⟩, Frm.refl _ _⟩
          apply DRN.cons (.det _ _) rfl
          · intro a w hC
            refine L.fa hC rfl rfl rfl (fun _ => All.nil) Try.underlying56 rfl Try.sizeOf54 rfl rfl rfl ?_; clear hC a; intro a hC
            exact L.nil ⟨⟨_, [], hC⟩, Frm.refl _ _⟩
          apply DRN.cons (.det _ _) rfl
          · intro a w hC
            refine L.ld hC rfl rfl rfl (fun hg => by first | (simp only [Gt, Bool.and_eq_true] at hg; simp only [All, List.cons_append, List.nil_append, List.append_nil, List.mem_cons, List.not_mem_nil, or_false, forall_eq_or_imp, forall_eq, Bool.and_eq_true, hg, Bool.not_false, Bool.not_true, and_self]; done) | (simp only [Gt] at hg; simp only [All, List.cons_append, List.nil_append, List.append_nil, List.mem_cons, List.not_mem_nil, or_false, forall_eq_or_imp, forall_eq, hg, and_self])) m1 Try.isAgg54 rfl rfl rfl ?_; clear hC a; intro a hC
            exact L.nil ⟨⟨_, [], hC⟩, Frm.refl _ _⟩
          apply DRN.cons (.det _ _) rfl
          · intro a w hC
            refine L.ixr hC rfl rfl rfl rfl m2 (fun hg => by first | (simp only [Gt, Bool.and_eq_true] at hg; simp only [All, List.cons_append, List.nil_append, List.append_nil, List.mem_cons, List.not_mem_nil, or_false, forall_eq_or_imp, forall_eq, Bool.and_eq_true, hg, Bool.not_false, Bool.not_true, and_self]; done) | (simp only [Gt] at hg; simp only [All, List.cons_append, List.nil_append, List.append_nil, List.mem_cons, List.not_mem_nil, or_false, forall_eq_or_imp, forall_eq, hg, and_self])) (fun _ => All.nil) Try.underlying54 Try.sizeOf65 (fun _ => by omega) rfl rfl ?_; clear hC a; intro a hC
            exact L.nil ⟨⟨_, [], hC⟩, Frm.refl _ _⟩
          apply DRN.cons (.det _ _) rfl
          · intro a w hC
            refine L.ldxa hC rfl rfl rfl rfl (fun hg => by first | (simp only [Gt, Bool.and_eq_true] at hg; simp only [All, List.cons_append, List.nil_append, List.append_nil, List.mem_cons, List.not_mem_nil, or_false, forall_eq_or_imp, forall_eq, Bool.and_eq_true, hg, Bool.not_false, Bool.not_true, and_self]; done) | (simp only [Gt] at hg; simp only [All, List.cons_append, List.nil_append, List.append_nil, List.mem_cons, List.not_mem_nil, or_false, forall_eq_or_imp, forall_eq, hg, and_self])) (fun hg => rd_bang hC m2 (show 0 < l.length by omega) _) Try.isAgg65 Try.sizeOf65 rfl rfl rfl rfl ?_; clear hC a; intro a hC
            exact L.nil ⟨⟨_, [], hC⟩, Frm.refl _ _⟩
          apply DRN.cons (.det _ _) rfl
          · intro a w hC
            refine L.call hC rfl rfl Try.call89 rfl (fun hg => by first | (simp only [Gt, Bool.and_eq_true] at hg; simp only [All, List.cons_append, List.nil_append, List.append_nil, List.mem_cons, List.not_mem_nil, or_false, forall_eq_or_imp, forall_eq, Bool.and_eq_true, hg, Bool.not_false, Bool.not_true, and_self]; done) | (simp only [Gt] at hg; simp only [All, List.cons_append, List.nil_append, List.append_nil, List.mem_cons, List.not_mem_nil, or_false, forall_eq_or_imp, forall_eq, hg, and_self])) (fun hg => pinr_ok l[j]! l[0]! _) rfl rfl ?_; clear hC a; intro a w hF hC
            exact L.nil ⟨⟨_, [], hC⟩, hF⟩
          apply DRN.cons (.det _ _) rfl
          · intro a w hC
            refine L.pu hC rfl rfl (fun hg => by first | (simp only [Gt, Bool.and_eq_true] at hg; simp only [All, List.cons_append, List.nil_append, List.append_nil, List.mem_cons, List.not_mem_nil, or_false, forall_eq_or_imp, forall_eq, Bool.and_eq_true, hg, Bool.not_false, Bool.not_true, and_self]; done) | (simp only [Gt] at hg; simp only [All, List.cons_append, List.nil_append, List.append_nil, List.mem_cons, List.not_mem_nil, or_false, forall_eq_or_imp, forall_eq, hg, and_self])) rfl rfl ?_; clear hC a; intro a hC
            exact L.nil ⟨⟨_, [], hC⟩, Frm.refl _ _⟩
          apply DRN.cons (.det _ _) rfl
          · intro a w hC
            refine L.and hC rfl rfl rfl rfl (fun hg => by first | (simp only [Gt, Bool.and_eq_true] at hg; simp only [All, List.cons_append, List.nil_append, List.append_nil, List.mem_cons, List.not_mem_nil, or_false, forall_eq_or_imp, forall_eq, Bool.and_eq_true, hg, Bool.not_false, Bool.not_true, and_self]; done) | (simp only [Gt] at hg; simp only [All, List.cons_append, List.nil_append, List.append_nil, List.mem_cons, List.not_mem_nil, or_false, forall_eq_or_imp, forall_eq, hg, and_self])) (fun hg hp => by first | (simp only [Gt, Bool.and_eq_true] at hg; simp only [All, List.cons_append, List.nil_append, List.append_nil, List.mem_cons, List.not_mem_nil, or_false, forall_eq_or_imp, forall_eq, Bool.and_eq_true, hg, hp, Bool.not_false, Bool.not_true, and_self]; done) | (simp only [Gt] at hg; simp only [All, List.cons_append, List.nil_append, List.append_nil, List.mem_cons, List.not_mem_nil, or_false, forall_eq_or_imp, forall_eq, Bool.and_eq_true]; exact ⟨hg, by simp only [hp, Bool.not_false]⟩)) rfl rfl ?_; clear hC a; intro a hC
            exact L.nil ⟨⟨_, [], hC⟩, Frm.refl _ _⟩
          apply DRN.cons (.det _ _) rfl
          · intro a w hC
            refine L.or hC rfl rfl rfl rfl (fun _ => All.nil) (fun _ hp => by first | (simp only [All, List.cons_append, List.nil_append, List.append_nil, List.mem_cons, List.not_mem_nil, or_false, forall_eq_or_imp, forall_eq, Bool.and_eq_true, hp, Bool.not_false, Bool.not_true, and_self]; done) | simp [All, hp]) rfl rfl ?_; clear hC a; intro a hC
            exact L.nil ⟨⟨_, [], hC⟩, Frm.refl _ _⟩
          refine DRN.nil (fun w' hF => ?_)
          intro a w hC hw
          subst hw
          refine hk17 _ _ ?_; clear hk17; try clear k17
          refine W.cond hC rfl (fun h4 => ?_) (fun h4 => ?_)
          ·
            have h4 := (odd_eq c l j).symm.trans h4
            refine W.seqk fun k18 hk18 => ?_
            refine W.region ?_
            refine L.pu hC rfl rfl (fun _ => All.nil) rfl rfl ?_; clear hC a; intro a hC
            refine L.nil ?_
            refine hk18 _ _ ?_; clear hk18; try clear k18
            refine W.ret ?_
            refine rets hC rfl (.tmp rfl .nil) ?_
            refine ⟨?_, hC.frm⟩
            exact congrArg (fun x => Ending.returned (.int .i64 x)) ((chkr_c h1 h2 (show j < l.length by omega) h4).symm)
          ·
            have h4 := (odd_eq c l j).symm.trans h4
            refine W.skip ?_
            refine hk16 _ _ ?_; clear hk16; try clear k16
            refine W.region ?_
            refine L.fa hC rfl rfl rfl (fun _ => All.nil) Try.underlying65 rfl Try.sizeOf3 rfl rfl rfl ?_; clear hC a; intro a hC
            refine L.ld hC rfl rfl rfl (fun _ => All.nil) m0 Try.isAgg3 rfl rfl rfl ?_; clear hC a; intro a hC
            refine L.pu hC rfl rfl (fun _ => All.nil) rfl rfl ?_; clear hC a; intro a hC
            refine L.nil ?_
            refine hk14 _ _ ?_; clear hk14; try clear k14
            refine W.region ?_
            refine L.pu hC rfl rfl (fun _ => All.nil) rfl rfl ?_; clear hC a; intro a hC
            refine L.pu hC rfl rfl (fun _ => All.nil) rfl rfl ?_; clear hC a; intro a hC
            refine L.pu hC rfl rfl (fun _ => All.nil) rfl rfl ?_; clear hC a; intro a hC
            refine L.nil ?_
            replace hC := hC.subl (.cons _ (.cons_cons _ (.cons_cons _ .slnil)))
            replace hC := hC.fr1
            replace hC := hC.fr1
            exact ⟨j + 1, ⟨by omega, fun i hi => (Nat.lt_succ_iff_lt_or_eq.1 hi).elim (ho i) (fun e => by rw [e]; exact h4), hC.keep ⟨geti rfl (w64 (by omega)), geti rfl (last_step c l j), rfl, trivial⟩⟩, by first | omega | (dsimp only; omega)⟩
        ·
          have h3 := of_decide_eq_false h3
          refine W.exit ?_
          refine Kb.here ?_
          refine hk10 _ _ ?_; clear hk10; try clear k10
          refine W.seqk fun k19 hk19 => ?_
          refine W.region ?_
          refine L.pu hC rfl rfl (fun _ => All.nil) rfl rfl ?_; clear hC a; intro a hC
          refine L.nil ?_
          refine hk19 _ _ ?_; clear hk19; try clear k19
          refine W.ret ?_
          refine rets hC rfl (.tmp rfl .nil) ?_
          refine ⟨?_, hC.frm⟩
          exact congrArg (fun x => Ending.returned (.int .i64 x)) ((chkr_d h1 h2 (fun i hi => ho i (by omega))).symm)

theorem outsr_ok (c : CallH) (v : Value) (l : List Att) (w0 : World) (hr : (rdR v attE l).ok w0) : Calls Try.prog 83 #[.agg (callE c v).toArray] w0 fun e w' => e = .returned (.tuple #[.int .i64 (cntA l), .int .i64 (hedA l)]) ∧ Frm Nob w0 w' := by
  obtain ⟨vA, vc, hv, _, _⟩ := id hr
  subst hv
  have hlen := rd_lt hr
  refine enter (μ := [rdR (.slice vA l.length vc) attE l]) (S := Nob) (vs := [.agg (callE c (.slice vA l.length vc)).toArray]) Try.func83 rfl Try.ntmps83 rfl ⟨by simpa using hr, by simp⟩ (by simp [rdR]) (fun a hC => ?_)
  refine W.seqk fun k1 hk1 => ?_
  refine W.region ?_
  refine L.box hC rfl rfl rfl rfl rfl rfl ?_; clear hC a; intro cb a w hF hC
  refine L.pu hC rfl rfl (fun _ => All.nil) rfl rfl ?_; clear hC a; intro a hC
  refine L.pu hC rfl rfl (fun _ => All.nil) rfl rfl ?_; clear hC a; intro a hC
  refine L.nil ?_
  refine hk1 _ _ ?_; clear hk1; try clear k1
  refine W.seqk fun k2 hk2 => ?_
  refine W.region ?_
  refine L.pu hC rfl rfl (fun _ => All.nil) rfl rfl ?_; clear hC a; intro a hC
  refine L.pu hC rfl rfl (fun _ => All.nil) rfl rfl ?_; clear hC a; intro a hC
  refine L.nil ?_
  refine hk2 _ _ ?_; clear hk2; try clear k2
  refine W.seqk fun k3 hk3 => ?_
  refine W.seqk fun k4 hk4 => ?_
  refine W.region ?_
  refine L.pu hC rfl rfl (fun _ => All.nil) rfl rfl ?_; clear hC a; intro a hC
  refine L.nil ?_
  refine hk4 _ _ ?_; clear hk4; try clear k4
  refine W.block ?_
  replace hC := hC.fr1
  replace hC := hC.fr1
  refine W.loop (fun (j : Nat) a w' => (j ≤ l.length) ∧ Conf 33 Nob w0 [(6, (none, .int .i64 (j : Int))), (4, (none, .int .i64 (cntA (l.take j)))), (5, (none, .int .i64 (hedA (l.take j)))), (1, (none, .pointer (some ⟨cb, 0, none⟩)))] [blkR cb (callE c (.slice vA l.length vc)) 56, rdR (.slice vA l.length vc) attE l] a w') (fun (j : Nat) => l.length - j) 0 ?_ ?_
  · exact ⟨Nat.zero_le _, hC.keep ⟨rfl, rfl, rfl, rfl, trivial⟩⟩
  · rintro j a w ⟨hj, hC⟩
    refine W.seqk fun k5 hk5 => ?_
    refine W.seqk fun k6 hk6 => ?_
    refine W.region ?_
    refine L.pu hC rfl rfl (fun _ => All.nil) rfl rfl ?_; clear hC a; intro a hC
    refine L.fa hC rfl rfl rfl (fun _ => All.nil) Try.underlying56 rfl Try.sizeOf54 rfl rfl rfl ?_; clear hC a; intro a hC
    refine L.ld hC rfl rfl rfl (fun _ => All.nil) m0 Try.isAgg54 rfl rfl rfl ?_; clear hC a; intro a hC
    refine L.len hC rfl rfl rfl (fun _ => All.nil) (rd_form (hC.at m1)) Try.underlying54 rfl rfl ?_; clear hC a; intro a hC
    refine L.pu hC rfl rfl (fun _ => All.nil) rfl rfl ?_; clear hC a; intro a hC
    refine L.nil ?_
    refine hk6 _ _ ?_; clear hk6; try clear k6
    refine W.cond hC rfl (fun h1 => ?_) (fun h1 => ?_)
    ·
      have h1 := of_decide_eq_true h1
      refine W.skip ?_
      refine hk5 _ _ ?_; clear hk5; try clear k5
      refine W.seqk fun k7 hk7 => ?_
      refine W.block ?_
      refine W.seqk fun k8 hk8 => ?_
      refine W.region ?_
      refine L.fa hC rfl rfl rfl (fun _ => All.nil) Try.underlying56 rfl Try.sizeOf54 rfl rfl rfl ?_; clear hC a; intro a hC
      refine L.ld hC rfl rfl rfl (fun _ => All.nil) m0 Try.isAgg54 rfl rfl rfl ?_; clear hC a; intro a hC
      refine L.pu hC rfl rfl (fun _ => All.nil) rfl rfl ?_; clear hC a; intro a hC
      refine L.ixr hC rfl rfl rfl rfl m1 (fun _ => All.nil) (fun _ => All.nil) Try.underlying54 Try.sizeOf65 (fun _ => by omega) rfl rfl ?_; clear hC a; intro a hC
      refine L.fae hC rfl rfl rfl (fun _ => All.nil) Try.underlying65 rfl Try.sizeOf4 rfl (fun hg => rd_some (hC.at m1) (by omega)) rfl rfl ?_; clear hC a; intro a hC
      refine L.ldx hC rfl rfl rfl rfl (fun _ => All.nil) (fun hg => rd_bang hC m1 (by omega) _) Try.isAgg4 rfl rfl rfl ?_; clear hC a; intro a hC
      refine L.pu hC rfl rfl (fun _ => All.nil) rfl rfl ?_; clear hC a; intro a hC
      refine L.nil ?_
      refine hk8 _ _ ?_; clear hk8; try clear k8
      refine W.cond hC rfl (fun h2 => ?_) (fun h2 => ?_)
      ·
        refine W.seqk fun k9 hk9 => ?_
        refine W.region ?_
        refine L.pu hC rfl rfl (fun _ => All.nil) rfl rfl ?_; clear hC a; intro a hC
        refine L.pu hC rfl rfl (fun _ => All.nil) rfl rfl ?_; clear hC a; intro a hC
        refine L.pu hC rfl rfl (fun _ => All.nil) rfl rfl ?_; clear hC a; intro a hC
        refine L.nil ?_
        refine hk9 _ _ ?_; clear hk9; try clear k9
        refine W.seqk fun k10 hk10 => ?_
        refine W.region ?_
        refine L.fa hC rfl rfl rfl (fun _ => All.nil) Try.underlying56 rfl Try.sizeOf54 rfl rfl rfl ?_; clear hC a; intro a hC
        refine L.ld hC rfl rfl rfl (fun _ => All.nil) m0 Try.isAgg54 rfl rfl rfl ?_; clear hC a; intro a hC
        refine L.pu hC rfl rfl (fun _ => All.nil) rfl rfl ?_; clear hC a; intro a hC
        refine L.ixr hC rfl rfl rfl rfl m1 (fun _ => All.nil) (fun _ => All.nil) Try.underlying54 Try.sizeOf65 (fun _ => by omega) rfl rfl ?_; clear hC a; intro a hC
        refine L.fae hC rfl rfl rfl (fun _ => All.nil) Try.underlying65 rfl Try.sizeOf4 rfl (fun hg => rd_some (hC.at m1) (by omega)) rfl rfl ?_; clear hC a; intro a hC
        refine L.ldx hC rfl rfl rfl rfl (fun _ => All.nil) (fun hg => rd_bang hC m1 (by omega) _) Try.isAgg4 rfl rfl rfl ?_; clear hC a; intro a hC
        refine L.nil ?_
        refine hk10 _ _ ?_; clear hk10; try clear k10
        refine W.cond hC rfl (fun h3 => ?_) (fun h3 => ?_)
        ·
          refine W.region ?_
          refine L.pu hC rfl rfl (fun _ => All.nil) rfl rfl ?_; clear hC a; intro a hC
          refine L.pu hC rfl rfl (fun _ => All.nil) rfl rfl ?_; clear hC a; intro a hC
          refine L.pu hC rfl rfl (fun _ => All.nil) rfl rfl ?_; clear hC a; intro a hC
          refine L.nil ?_
          refine hk7 _ _ ?_; clear hk7; try clear k7
          refine W.region ?_
          refine L.pu hC rfl rfl (fun _ => All.nil) rfl rfl ?_; clear hC a; intro a hC
          refine L.pu hC rfl rfl (fun _ => All.nil) rfl rfl ?_; clear hC a; intro a hC
          refine L.pu hC rfl rfl (fun _ => All.nil) rfl rfl ?_; clear hC a; intro a hC
          refine L.nil ?_
          replace hC := hC.fr1
          replace hC := hC.fr1
          exact ⟨j + 1, ⟨by omega, hC.keep ⟨geti rfl (w64 (by omega)), (by first | exact geti rfl (cnt_yes (by omega) (by omega) h2) | exact geti rfl (cnt_no (by omega) h2)), (by first | exact geti rfl (hedc_yes (by omega) (by omega) h2 h3) | exact geti rfl (hedc_no (by omega) (by first | exact .inl h2 | exact .inr h3))), rfl, trivial⟩⟩, by first | omega | (dsimp only; omega)⟩
        ·
          refine W.skip ?_
          refine hk7 _ _ ?_; clear hk7; try clear k7
          refine W.region ?_
          refine L.pu hC rfl rfl (fun _ => All.nil) rfl rfl ?_; clear hC a; intro a hC
          refine L.pu hC rfl rfl (fun _ => All.nil) rfl rfl ?_; clear hC a; intro a hC
          refine L.pu hC rfl rfl (fun _ => All.nil) rfl rfl ?_; clear hC a; intro a hC
          refine L.nil ?_
          replace hC := hC.fr1
          replace hC := hC.fr1
          exact ⟨j + 1, ⟨by omega, hC.keep ⟨geti rfl (w64 (by omega)), (by first | exact geti rfl (cnt_yes (by omega) (by omega) h2) | exact geti rfl (cnt_no (by omega) h2)), (by first | exact geti rfl (hedc_yes (by omega) (by omega) h2 h3) | exact geti rfl (hedc_no (by omega) (by first | exact .inl h2 | exact .inr h3))), rfl, trivial⟩⟩, by first | omega | (dsimp only; omega)⟩
      ·
        refine W.skip ?_
        refine hk7 _ _ ?_; clear hk7; try clear k7
        refine W.region ?_
        refine L.pu hC rfl rfl (fun _ => All.nil) rfl rfl ?_; clear hC a; intro a hC
        refine L.pu hC rfl rfl (fun _ => All.nil) rfl rfl ?_; clear hC a; intro a hC
        refine L.pu hC rfl rfl (fun _ => All.nil) rfl rfl ?_; clear hC a; intro a hC
        refine L.nil ?_
        replace hC := hC.fr1
        replace hC := hC.fr1
        exact ⟨j + 1, ⟨by omega, hC.keep ⟨geti rfl (w64 (by omega)), (by first | exact geti rfl (cnt_yes (by omega) (by omega) h2) | exact geti rfl (cnt_no (by omega) h2)), (by first | exact geti rfl (hedc_yes (by omega) (by omega) h2 h3) | exact geti rfl (hedc_no (by omega) (by first | exact .inl h2 | exact .inr h3))), rfl, trivial⟩⟩, by first | omega | (dsimp only; omega)⟩
    ·
      have h1 := of_decide_eq_false h1
      refine W.exit ?_
      refine Kb.here ?_
      refine hk3 _ _ ?_; clear hk3; try clear k3
      refine W.seqk fun k11 hk11 => ?_
      refine W.region ?_
      refine L.pu hC rfl rfl (fun _ => All.nil) rfl rfl ?_; clear hC a; intro a hC
      refine L.pu hC rfl rfl (fun _ => All.nil) rfl rfl ?_; clear hC a; intro a hC
      refine L.pu hC rfl rfl (fun _ => All.nil) rfl rfl ?_; clear hC a; intro a hC
      refine L.pu hC rfl rfl (fun _ => All.nil) rfl rfl ?_; clear hC a; intro a hC
      refine L.nil ?_
      refine hk11 _ _ ?_; clear hk11; try clear k11
      refine W.ret ?_
      refine retl hC rfl (.tmp rfl (.tmp rfl .nil)) rfl ?_
      refine ⟨?_, hC.frm⟩
      rw [List.take_of_length_le (show l.length ≤ j by omega)]

end Go.Proofs.E
