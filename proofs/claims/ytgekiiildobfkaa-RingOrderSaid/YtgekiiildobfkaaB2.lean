/- The breaker's exported functions. -/
import Derived.Test.YtgekiiildobfkaaB1
set_option linter.unusedVariables false
set_option linter.unusedSimpArgs false
namespace Go.Proofs.E
open Go.RowKit
def chkB (k : Brk) (s : BSet) (t : Int) : Int :=
  if (!setsB s || !(decide (t ≥ 0) && decide (t ≤ 536870912))) = true then 4
  else if (((!(decide (k.mode ≥ 0) && decide (k.mode ≤ 2)) || !(decide (k.til ≥ 0) && decide (k.til ≤ 1073741824))) || !(decide (imin (imin k.fails k.probes) k.wins ≥ 0) && decide (imin (imin k.fails k.probes) k.wins ≤ 1000))) || decide (imax (imax k.fails k.probes) k.wins > 1000)) = true then 9 else 0
def askC (k : Brk) (s : BSet) (t : Int) : List Value := if (chkB k s t != 0) = true then mC ⟨0, 0, 0, 0, 0⟩ ⟨0, 0, 0⟩ 0 else mC k s t
theorem askC_ok {k : Brk} {s : BSet} {t : Int} (h : (chkB k s t == 0) = true) : askC k s t = mC k s t := by
  unfold askC; rw [if_neg]; simpa using h
theorem askC_no {k : Brk} {s : BSet} {t : Int} (h : (chkB k s t == 0) = false) : askC k s t = mC ⟨0, 0, 0, 0, 0⟩ ⟨0, 0, 0⟩ 0 := by
  unfold askC; rw [if_pos]; simpa using h
theorem ask_at {k : Brk} {s : BSet} {t : Int} {mb : Nat} {w : World} (h : (chkB k s t == 0) = true) (hb : (blkR mb (askC k s t) 115).ok w) : (blkR mb (mC k s t) 115).ok w := by rwa [askC_ok h] at hb
def endR (k : Brk) (s : BSet) (t : Int) (probe good : Bool) : Brk × Int := if (chkB k s t == 0) = true then (endsB k s t probe good, chkB k s t) else (⟨0, 0, 0, 0, 0⟩, chkB k s t)
def oddK (x : Act) : Bool := !(decide (x.what ≥ 1) && decide (x.what ≤ 3))
def oddW (x : Act) : Bool := !(decide (x.tick ≥ 0) && decide (x.tick ≤ 536870912))
def lateB (x y : Act) : Int := IntKind.i64.wrap (x.tick - y.tick)
def sortedF {α : Type} [Inhabited α] (cmp : α → α → Int) (l : List α) : Bool := (List.range l.length).all fun m => !(decide (0 < m) && decide (cmp l[m]! l[m - 1]! < 0))
theorem sorted_yes {α : Type} [Inhabited α] {cmp : α → α → Int} {l : List α} (h : ∀ m : Nat, m < l.length → 0 < m → ¬ cmp l[m]! l[m - 1]! < 0) : sortedF cmp l = true := by
  unfold sortedF
  rw [List.all_eq_true]
  intro m hm
  have hm : m < l.length := by simpa using hm
  by_cases h0 : 0 < m
  · have := h m hm h0
    simp only [h0, decide_true, Bool.true_and, Bool.not_eq_true', decide_eq_false_iff_not]
    exact this
  · simp [h0]
theorem sorted_no {α : Type} [Inhabited α] {cmp : α → α → Int} {l : List α} {i : Int} (h1 : i < l.length) (h0 : i > 0) (h : cmp l[i.toNat]! l[(i - 1).toNat]! < 0) : sortedF cmp l = false := by
  unfold sortedF
  rw [List.all_eq_false]
  refine ⟨i.toNat, by simp; omega, ?_⟩
  have e : (i - 1).toNat = i.toNat - 1 := by omega
  rw [e] at h
  have h0' : 0 < i.toNat := by omega
  simp only [h0', h, decide_true, Bool.true_and, Bool.not_true]
  decide
theorem sorted_step {α : Type} [Inhabited α] {cmp : α → α → Int} {l : List α} {i : Int} (hs : ∀ m : Nat, i < m → m < l.length → 0 < m → ¬ cmp l[m]! l[m - 1]! < 0) (h0 : i > 0) (h : ¬ cmp l[i.toNat]! l[(i - 1).toNat]! < 0) : ∀ m : Nat, i - 1 < m → m < l.length → 0 < m → ¬ cmp l[m]! l[m - 1]! < 0 := by
  intro m h1 h2 h3
  by_cases hm : i < m
  · exact hs m hm h2 h3
  · have e : m = i.toNat := by omega
    have e2 : (i - 1).toNat = m - 1 := by omega
    rw [e2, ← e] at h
    exact h
def loopP : Brk → BSet → List Act → Brk × List Int
  | k, _, [] => (k, [])
  | k, s, a :: l => ((loopP (actB k s a).1 s l).1, (actB k s a).2 :: (loopP (actB k s a).1 s l).2)
theorem loopP_drop {k : Brk} {s : BSet} {l : List Act} {j : Nat} (h : j < l.length) : loopP k s (l.drop j) = ((loopP (actB k s l[j]!).1 s (l.drop (j + 1))).1, (actB k s l[j]!).2 :: (loopP (actB k s l[j]!).1 s (l.drop (j + 1))).2) := by
  rw [List.drop_eq_getElem_cons h, loopP, bang h]
def runP (s : BSet) (l : List Act) : Brk × List Int × Int :=
  if l.any oddK = true then (⟨0, 0, 0, 0, 0⟩, [], 23) else if decide ((l.length : Int) > 512) = true then (⟨0, 0, 0, 0, 0⟩, [], 3) else if ((!setsB s || l.any oddW) || !sortedF lateB l) = true then (⟨0, 0, 0, 0, 0⟩, [], 4)
  else ((loopP ⟨0, 0, 0, 0, 0⟩ s l).1, (loopP ⟨0, 0, 0, 0, 0⟩ s l).2, 0)
theorem chk15_ok (k : Brk) (s : BSet) (t : Int) (w0 : World) : Calls Try.prog 150 #[.agg (bE k).toArray, .agg (sE s).toArray, .int .i64 t] w0 fun e w' => e = .returned (.int .i64 (chkB k s t)) ∧ Frm Nob w0 w' := by
  refine enter (μ := []) (S := Nob) (vs := [.agg (bE k).toArray, .agg (sE s).toArray, .int .i64 t]) Try.func150 rfl Try.ntmps150 rfl (Mem.nil _) (by simp) (fun a hC => ?_)
  refine W.seqk fun k1 hk1 => ?_
  refine W.region ?_
  refine L.box hC rfl rfl rfl rfl rfl rfl ?_; clear hC a; intro b1 a w hF hC
  refine L.box hC rfl rfl rfl rfl rfl rfl ?_; clear hC a; intro b2 a w hF hC
  refine L.pu hC rfl rfl (fun _ => All.nil) rfl rfl ?_; clear hC a; intro a hC
  refine L.nil ?_
  refine hk1 _ _ ?_; clear hk1; try clear k1
  refine W.seqk fun k2 hk2 => ?_
  refine W.block ?_
  refine W.seqk fun k3 hk3 => ?_
  refine W.region ?_
  refine L.lda hC rfl rfl rfl (fun _ => All.nil) m0 Try.isAgg33 Try.sizeOf33 rfl rfl rfl rfl ?_; clear hC a; intro a hC
  refine L.call hC rfl rfl Try.call57 rfl (fun _ => All.nil) (fun hg => sets15_ok _ _) rfl rfl ?_; clear hC a; intro a w hF hC
  refine L.pu hC rfl rfl (fun _ => All.nil) rfl rfl ?_; clear hC a; intro a hC
  refine L.pu hC rfl rfl (fun _ => All.nil) rfl rfl ?_; clear hC a; intro a hC
  refine L.pu hC rfl rfl (fun _ => All.nil) rfl rfl ?_; clear hC a; intro a hC
  refine L.call hC rfl rfl Try.call56 rfl (fun hg => by simp only [Gt, Bool.and_eq_true] at hg; simp only [All, List.cons_append, List.nil_append, List.append_nil, List.mem_cons, List.not_mem_nil, or_false, forall_eq_or_imp, forall_eq, Bool.and_eq_true, hg, Bool.not_false, Bool.not_true, and_self]) (fun hg => in15_ok _ _ _ _) rfl rfl ?_; clear hC a; intro a w hF hC
  refine L.pu hC rfl rfl (fun hg => by simp only [Gt, Bool.and_eq_true] at hg; simp only [All, List.cons_append, List.nil_append, List.append_nil, List.mem_cons, List.not_mem_nil, or_false, forall_eq_or_imp, forall_eq, Bool.and_eq_true, hg, Bool.not_false, Bool.not_true, and_self]) rfl rfl ?_; clear hC a; intro a hC
  refine L.or hC rfl rfl rfl rfl (fun _ => All.nil) (fun _ hp => by simp only [All, List.cons_append, List.nil_append, List.append_nil, List.mem_cons, List.not_mem_nil, or_false, forall_eq_or_imp, forall_eq, Bool.and_eq_true, hp, Bool.not_false, Bool.not_true, and_self]) rfl rfl ?_; clear hC a; intro a hC
  refine L.pu hC rfl rfl (fun _ => All.nil) rfl rfl ?_; clear hC a; intro a hC
  refine L.nil ?_
  refine hk3 _ _ ?_; clear hk3; try clear k3
  refine W.cond hC rfl (fun h1 => ?_) (fun h1 => ?_)
  ·
    refine W.seqk fun k4 hk4 => ?_
    refine W.region ?_
    refine L.pu hC rfl rfl (fun _ => All.nil) rfl rfl ?_; clear hC a; intro a hC
    refine L.nil ?_
    refine hk4 _ _ ?_; clear hk4; try clear k4
    refine W.ret ?_
    refine rets hC rfl (.tmp rfl .nil) ?_
    exact ⟨ri (by unfold chkB; rw [if_pos h1]), hC.frm⟩
  ·
    refine W.seqk fun k5 hk5 => ?_
    refine W.region ?_
    refine L.fa hC rfl rfl rfl (fun _ => All.nil) Try.underlying36 rfl Try.sizeOf3 rfl rfl rfl ?_; clear hC a; intro a hC
    refine L.ld hC rfl rfl rfl (fun _ => All.nil) m1 Try.isAgg3 rfl rfl rfl ?_; clear hC a; intro a hC
    refine L.call hC rfl rfl Try.call56 rfl (fun _ => All.nil) (fun hg => in15_ok _ _ _ _) rfl rfl ?_; clear hC a; intro a w hF hC
    refine L.pu hC rfl rfl (fun _ => All.nil) rfl rfl ?_; clear hC a; intro a hC
    refine L.pu hC rfl rfl (fun _ => All.nil) rfl rfl ?_; clear hC a; intro a hC
    refine L.fa hC rfl rfl rfl (fun _ => All.nil) Try.underlying36 rfl Try.sizeOf3 rfl rfl rfl ?_; clear hC a; intro a hC
    refine L.ld hC rfl rfl rfl (fun hg => by simp only [Gt, Bool.and_eq_true] at hg; simp only [All, List.cons_append, List.nil_append, List.append_nil, List.mem_cons, List.not_mem_nil, or_false, forall_eq_or_imp, forall_eq, Bool.and_eq_true, hg, Bool.not_false, Bool.not_true, and_self]) m1 Try.isAgg3 rfl rfl rfl ?_; clear hC a; intro a hC
    refine L.call hC rfl rfl Try.call56 rfl (fun hg => by simp only [Gt, Bool.and_eq_true] at hg; simp only [All, List.cons_append, List.nil_append, List.append_nil, List.mem_cons, List.not_mem_nil, or_false, forall_eq_or_imp, forall_eq, Bool.and_eq_true, hg, Bool.not_false, Bool.not_true, and_self]) (fun hg => in15_ok _ _ _ _) rfl rfl ?_; clear hC a; intro a w hF hC
    refine L.pu hC rfl rfl (fun hg => by simp only [Gt, Bool.and_eq_true] at hg; simp only [All, List.cons_append, List.nil_append, List.append_nil, List.mem_cons, List.not_mem_nil, or_false, forall_eq_or_imp, forall_eq, Bool.and_eq_true, hg, Bool.not_false, Bool.not_true, and_self]) rfl rfl ?_; clear hC a; intro a hC
    refine L.or hC rfl rfl rfl rfl (fun _ => All.nil) (fun _ hp => by simp only [All, List.cons_append, List.nil_append, List.append_nil, List.mem_cons, List.not_mem_nil, or_false, forall_eq_or_imp, forall_eq, Bool.and_eq_true, hp, Bool.not_false, Bool.not_true, and_self]) rfl rfl ?_; clear hC a; intro a hC
    refine L.pu hC rfl rfl (fun _ => All.nil) rfl rfl ?_; clear hC a; intro a hC
    refine L.fa hC rfl rfl rfl (fun _ => All.nil) Try.underlying36 rfl Try.sizeOf3 rfl rfl rfl ?_; clear hC a; intro a hC
    refine L.ld hC rfl rfl rfl (fun hg => by simp only [Gt, Bool.and_eq_true] at hg; simp only [All, List.cons_append, List.nil_append, List.append_nil, List.mem_cons, List.not_mem_nil, or_false, forall_eq_or_imp, forall_eq, Bool.and_eq_true, hg, Bool.not_false, Bool.not_true, and_self]) m1 Try.isAgg3 rfl rfl rfl ?_; clear hC a; intro a hC
    refine L.fa hC rfl rfl rfl (fun _ => All.nil) Try.underlying36 rfl Try.sizeOf3 rfl rfl rfl ?_; clear hC a; intro a hC
    refine L.ld hC rfl rfl rfl (fun hg => by simp only [Gt, Bool.and_eq_true] at hg; simp only [All, List.cons_append, List.nil_append, List.append_nil, List.mem_cons, List.not_mem_nil, or_false, forall_eq_or_imp, forall_eq, Bool.and_eq_true, hg, Bool.not_false, Bool.not_true, and_self]) m1 Try.isAgg3 rfl rfl rfl ?_; clear hC a; intro a hC
    refine L.fa hC rfl rfl rfl (fun _ => All.nil) Try.underlying36 rfl Try.sizeOf3 rfl rfl rfl ?_; clear hC a; intro a hC
    refine L.ld hC rfl rfl rfl (fun hg => by simp only [Gt, Bool.and_eq_true] at hg; simp only [All, List.cons_append, List.nil_append, List.append_nil, List.mem_cons, List.not_mem_nil, or_false, forall_eq_or_imp, forall_eq, Bool.and_eq_true, hg, Bool.not_false, Bool.not_true, and_self]) m1 Try.isAgg3 rfl rfl rfl ?_; clear hC a; intro a hC
    refine L.min3 hC rfl rfl rfl rfl rfl (fun hg => by simp only [Gt, Bool.and_eq_true] at hg; simp only [All, List.cons_append, List.nil_append, List.append_nil, List.mem_cons, List.not_mem_nil, or_false, forall_eq_or_imp, forall_eq, Bool.and_eq_true, hg, Bool.not_false, Bool.not_true, and_self]) (fun hg => by simp only [Gt, Bool.and_eq_true] at hg; simp only [All, List.cons_append, List.nil_append, List.append_nil, List.mem_cons, List.not_mem_nil, or_false, forall_eq_or_imp, forall_eq, Bool.and_eq_true, hg, Bool.not_false, Bool.not_true, and_self]) (fun hg => by simp only [Gt, Bool.and_eq_true] at hg; simp only [All, List.cons_append, List.nil_append, List.append_nil, List.mem_cons, List.not_mem_nil, or_false, forall_eq_or_imp, forall_eq, Bool.and_eq_true, hg, Bool.not_false, Bool.not_true, and_self]) rfl rfl ?_; clear hC a; intro a hC
    refine L.call hC rfl rfl Try.call56 rfl (fun hg => by simp only [Gt, Bool.and_eq_true] at hg; simp only [All, List.cons_append, List.nil_append, List.append_nil, List.mem_cons, List.not_mem_nil, or_false, forall_eq_or_imp, forall_eq, Bool.and_eq_true, hg, Bool.not_false, Bool.not_true, and_self]) (fun hg => in15_ok _ _ _ _) rfl rfl ?_; clear hC a; intro a w hF hC
    refine L.pu hC rfl rfl (fun hg => by simp only [Gt, Bool.and_eq_true] at hg; simp only [All, List.cons_append, List.nil_append, List.append_nil, List.mem_cons, List.not_mem_nil, or_false, forall_eq_or_imp, forall_eq, Bool.and_eq_true, hg, Bool.not_false, Bool.not_true, and_self]) rfl rfl ?_; clear hC a; intro a hC
    refine L.or hC rfl rfl rfl rfl (fun _ => All.nil) (fun _ hp => by simp only [All, List.cons_append, List.nil_append, List.append_nil, List.mem_cons, List.not_mem_nil, or_false, forall_eq_or_imp, forall_eq, Bool.and_eq_true, hp, Bool.not_false, Bool.not_true, and_self]) rfl rfl ?_; clear hC a; intro a hC
    refine L.pu hC rfl rfl (fun _ => All.nil) rfl rfl ?_; clear hC a; intro a hC
    refine L.fa hC rfl rfl rfl (fun _ => All.nil) Try.underlying36 rfl Try.sizeOf3 rfl rfl rfl ?_; clear hC a; intro a hC
    refine L.ld hC rfl rfl rfl (fun hg => by simp only [Gt, Bool.and_eq_true] at hg; simp only [All, List.cons_append, List.nil_append, List.append_nil, List.mem_cons, List.not_mem_nil, or_false, forall_eq_or_imp, forall_eq, Bool.and_eq_true, hg, Bool.not_false, Bool.not_true, and_self]) m1 Try.isAgg3 rfl rfl rfl ?_; clear hC a; intro a hC
    refine L.fa hC rfl rfl rfl (fun _ => All.nil) Try.underlying36 rfl Try.sizeOf3 rfl rfl rfl ?_; clear hC a; intro a hC
    refine L.ld hC rfl rfl rfl (fun hg => by simp only [Gt, Bool.and_eq_true] at hg; simp only [All, List.cons_append, List.nil_append, List.append_nil, List.mem_cons, List.not_mem_nil, or_false, forall_eq_or_imp, forall_eq, Bool.and_eq_true, hg, Bool.not_false, Bool.not_true, and_self]) m1 Try.isAgg3 rfl rfl rfl ?_; clear hC a; intro a hC
    refine L.fa hC rfl rfl rfl (fun _ => All.nil) Try.underlying36 rfl Try.sizeOf3 rfl rfl rfl ?_; clear hC a; intro a hC
    refine L.ld hC rfl rfl rfl (fun hg => by simp only [Gt, Bool.and_eq_true] at hg; simp only [All, List.cons_append, List.nil_append, List.append_nil, List.mem_cons, List.not_mem_nil, or_false, forall_eq_or_imp, forall_eq, Bool.and_eq_true, hg, Bool.not_false, Bool.not_true, and_self]) m1 Try.isAgg3 rfl rfl rfl ?_; clear hC a; intro a hC
    refine L.max3 hC rfl rfl rfl rfl rfl (fun hg => by simp only [Gt, Bool.and_eq_true] at hg; simp only [All, List.cons_append, List.nil_append, List.append_nil, List.mem_cons, List.not_mem_nil, or_false, forall_eq_or_imp, forall_eq, Bool.and_eq_true, hg, Bool.not_false, Bool.not_true, and_self]) (fun hg => by simp only [Gt, Bool.and_eq_true] at hg; simp only [All, List.cons_append, List.nil_append, List.append_nil, List.mem_cons, List.not_mem_nil, or_false, forall_eq_or_imp, forall_eq, Bool.and_eq_true, hg, Bool.not_false, Bool.not_true, and_self]) (fun hg => by simp only [Gt, Bool.and_eq_true] at hg; simp only [All, List.cons_append, List.nil_append, List.append_nil, List.mem_cons, List.not_mem_nil, or_false, forall_eq_or_imp, forall_eq, Bool.and_eq_true, hg, Bool.not_false, Bool.not_true, and_self]) rfl rfl ?_; clear hC a; intro a hC
    refine L.pu hC rfl rfl (fun hg => by simp only [Gt, Bool.and_eq_true] at hg; simp only [All, List.cons_append, List.nil_append, List.append_nil, List.mem_cons, List.not_mem_nil, or_false, forall_eq_or_imp, forall_eq, Bool.and_eq_true, hg, Bool.not_false, Bool.not_true, and_self]) rfl rfl ?_; clear hC a; intro a hC
    refine L.or hC rfl rfl rfl rfl (fun _ => All.nil) (fun _ hp => by simp only [All, List.cons_append, List.nil_append, List.append_nil, List.mem_cons, List.not_mem_nil, or_false, forall_eq_or_imp, forall_eq, Bool.and_eq_true, hp, Bool.not_false, Bool.not_true, and_self]) rfl rfl ?_; clear hC a; intro a hC
    refine L.pu hC rfl rfl (fun _ => All.nil) rfl rfl ?_; clear hC a; intro a hC
    refine L.nil ?_
    refine hk5 _ _ ?_; clear hk5; try clear k5
    refine W.cond hC rfl (fun h2 => ?_) (fun h2 => ?_)
    ·
      refine W.seqk fun k6 hk6 => ?_
      refine W.region ?_
      refine L.pu hC rfl rfl (fun _ => All.nil) rfl rfl ?_; clear hC a; intro a hC
      refine L.nil ?_
      refine hk6 _ _ ?_; clear hk6; try clear k6
      refine W.ret ?_
      refine rets hC rfl (.tmp rfl .nil) ?_
      exact ⟨ri (by unfold chkB; rw [if_neg (nt h1), if_pos h2]), hC.frm⟩
    ·
      refine W.skip ?_
      refine hk2 _ _ ?_; clear hk2; try clear k2
      refine W.seqk fun k7 hk7 => ?_
      refine W.region ?_
      refine L.pu hC rfl rfl (fun _ => All.nil) rfl rfl ?_; clear hC a; intro a hC
      refine L.nil ?_
      refine hk7 _ _ ?_; clear hk7; try clear k7
      refine W.ret ?_
      refine rets hC rfl (.tmp rfl .nil) ?_
      exact ⟨ri (by unfold chkB; rw [if_neg (nt h1), if_neg (nt h2)]), hC.frm⟩

theorem ask15_ok (k : Brk) (s : BSet) (t : Int) (w0 : World) : Calls Try.prog 112 #[.agg (bE k).toArray, .agg (sE s).toArray, .int .i64 t] w0 fun e w' => ∃ mb : Nat, e = .returned (.tuple #[.pointer (some ⟨mb, 0, none⟩), .int .i64 (chkB k s t)]) ∧ True ∧ Post Nob [blkR mb (askC k s t) 115] w0 w' := by
  refine enter (μ := []) (S := Nob) (vs := [.agg (bE k).toArray, .agg (sE s).toArray, .int .i64 t]) Try.func112 rfl Try.ntmps112 rfl (Mem.nil _) (by simp) (fun a hC => ?_)
  refine W.seqk fun k1 hk1 => ?_
  refine W.region ?_
  refine L.box hC rfl rfl rfl rfl rfl rfl ?_; clear hC a; intro b1 a w hF hC
  refine L.box hC rfl rfl rfl rfl rfl rfl ?_; clear hC a; intro b2 a w hF hC
  refine L.pu hC rfl rfl (fun _ => All.nil) rfl rfl ?_; clear hC a; intro a hC
  refine L.pu hC rfl rfl (fun _ => All.nil) rfl rfl ?_; clear hC a; intro a hC
  refine L.nil ?_
  refine hk1 _ _ ?_; clear hk1; try clear k1
  refine W.seqk fun k2 hk2 => ?_
  refine W.seqk fun k3 hk3 => ?_
  refine W.region ?_
  refine L.lda hC rfl rfl rfl (fun _ => All.nil) m1 Try.isAgg36 Try.sizeOf36 rfl rfl rfl rfl ?_; clear hC a; intro a hC
  refine L.lda hC rfl rfl rfl (fun _ => All.nil) m0 Try.isAgg33 Try.sizeOf33 rfl rfl rfl rfl ?_; clear hC a; intro a hC
  refine L.pu hC rfl rfl (fun _ => All.nil) rfl rfl ?_; clear hC a; intro a hC
  refine L.call hC rfl rfl Try.call150 rfl (fun _ => All.nil) (fun hg => chk15_ok _ _ _ _) rfl rfl ?_; clear hC a; intro a w hF hC
  refine L.pu hC rfl rfl (fun _ => All.nil) rfl rfl ?_; clear hC a; intro a hC
  refine L.nil ?_
  refine hk3 _ _ ?_; clear hk3; try clear k3
  refine W.seqk fun k4 hk4 => ?_
  refine W.region ?_
  refine L.pu hC rfl rfl (fun _ => All.nil) rfl rfl ?_; clear hC a; intro a hC
  refine L.pu hC rfl rfl (fun _ => All.nil) rfl rfl ?_; clear hC a; intro a hC
  refine L.nil ?_
  refine hk4 _ _ ?_; clear hk4; try clear k4
  refine W.cond hC rfl (fun h1 => ?_) (fun h1 => ?_)
  ·
    refine W.seqk fun k5 hk5 => ?_
    refine W.region ?_
    refine L.buildS (ps := [(0, 5), (5, 3), (8, 1)]) hC rfl rfl rfl (fun _ => All.nil) Try.zeroValue115 Try.underlying115 ⟨⟨rfl, Try.sizeOf36⟩, ⟨rfl, Try.sizeOf33⟩, ⟨rfl, Try.sizeOf3⟩, trivial⟩ rfl rfl rfl ?_; clear hC a; intro a hC
    refine L.box hC rfl rfl rfl rfl rfl rfl ?_; clear hC a; intro nb a w hF hC
    refine L.pu hC rfl rfl (fun _ => All.nil) rfl rfl ?_; clear hC a; intro a hC
    refine L.pu hC rfl rfl (fun _ => All.nil) rfl rfl ?_; clear hC a; intro a hC
    refine L.pu hC rfl rfl (fun _ => All.nil) rfl rfl ?_; clear hC a; intro a hC
    refine L.nil ?_
    refine hk5 _ _ ?_; clear hk5; try clear k5
    refine W.ret ?_
    replace hC := hC.one (r := _) m0
    refine retl hC rfl (.tmp rfl (.tmp rfl .nil)) rfl ?_
    exact ⟨nb, rfl, trivial, by unfold askC; rw [if_pos h1]; exact hC.toPost (by simp [blkR])⟩
  ·
    refine W.skip ?_
    refine hk2 _ _ ?_; clear hk2; try clear k2
    refine W.seqk fun k6 hk6 => ?_
    refine W.region ?_
    refine L.lda hC rfl rfl rfl (fun _ => All.nil) m1 Try.isAgg36 Try.sizeOf36 rfl rfl rfl rfl ?_; clear hC a; intro a hC
    refine L.lda hC rfl rfl rfl (fun _ => All.nil) m0 Try.isAgg33 Try.sizeOf33 rfl rfl rfl rfl ?_; clear hC a; intro a hC
    refine L.pu hC rfl rfl (fun _ => All.nil) rfl rfl ?_; clear hC a; intro a hC
    refine L.buildS (ps := [(0, 5), (5, 3), (8, 1)]) hC rfl rfl rfl (fun _ => All.nil) Try.zeroValue115 Try.underlying115 ⟨⟨rfl, Try.sizeOf36⟩, ⟨rfl, Try.sizeOf33⟩, ⟨rfl, Try.sizeOf3⟩, trivial⟩ rfl rfl rfl ?_; clear hC a; intro a hC
    refine L.box hC rfl rfl rfl rfl rfl rfl ?_; clear hC a; intro nb a w hF hC
    refine L.pu hC rfl rfl (fun _ => All.nil) rfl rfl ?_; clear hC a; intro a hC
    refine L.pu hC rfl rfl (fun _ => All.nil) rfl rfl ?_; clear hC a; intro a hC
    refine L.nil ?_
    refine hk6 _ _ ?_; clear hk6; try clear k6
    refine W.ret ?_
    replace hC := hC.one (r := _) m0
    refine retl hC rfl (.tmp rfl (.tmp rfl .nil)) rfl ?_
    exact ⟨nb, by rw [show chkB k s t = 0 from (by simpa using h1)], trivial, by unfold askC; rw [if_neg (nt h1)]; exact hC.toPost (by simp [blkR])⟩

theorem end15_ok (k : Brk) (s : BSet) (t : Int) (probe good : Bool) (w0 : World) : Calls Try.prog 65 #[.agg (bE k).toArray, .agg (sE s).toArray, .int .i64 t, .bool probe, .bool good] w0 fun e w' => e = .returned (.tuple #[.agg (bE (endR k s t probe good).1).toArray, .int .i64 (endR k s t probe good).2]) ∧ Frm Nob w0 w' := by
  refine enter (μ := []) (S := Nob) (vs := [.agg (bE k).toArray, .agg (sE s).toArray, .int .i64 t, .bool probe, .bool good]) Try.func65 rfl Try.ntmps65 rfl (Mem.nil _) (by simp) (fun a hC => ?_)
  refine W.seqk fun k1 hk1 => ?_
  refine W.region ?_
  refine L.box hC rfl rfl rfl rfl rfl rfl ?_; clear hC a; intro b1 a w hF hC
  refine L.box hC rfl rfl rfl rfl rfl rfl ?_; clear hC a; intro b2 a w hF hC
  refine L.alloc hC rfl rfl Try.zeroValue36 rfl rfl rfl ?_; clear hC a; intro rb a w hF hC
  refine L.pu hC rfl rfl (fun _ => All.nil) rfl rfl ?_; clear hC a; intro a hC
  refine L.nil ?_
  refine hk1 _ _ ?_; clear hk1; try clear k1
  refine W.seqk fun k2 hk2 => ?_
  refine W.region ?_
  refine L.lda hC rfl rfl rfl (fun _ => All.nil) m2 Try.isAgg36 Try.sizeOf36 rfl rfl rfl rfl ?_; clear hC a; intro a hC
  refine L.lda hC rfl rfl rfl (fun _ => All.nil) m1 Try.isAgg33 Try.sizeOf33 rfl rfl rfl rfl ?_; clear hC a; intro a hC
  refine L.pu hC rfl rfl (fun _ => All.nil) rfl rfl ?_; clear hC a; intro a hC
  refine L.callg [] hC rfl rfl Try.call112 rfl (ask15_ok k s t _) (fun b h => h.elim) rfl rfl ?_; clear hC a; intro mb a w hQ hC
  refine L.pu hC rfl rfl (fun _ => All.nil) rfl rfl ?_; clear hC a; intro a hC
  refine L.pu hC rfl rfl (fun _ => All.nil) rfl rfl ?_; clear hC a; intro a hC
  refine L.pu hC rfl rfl (fun _ => All.nil) rfl rfl ?_; clear hC a; intro a hC
  refine L.pu hC rfl rfl (fun _ => All.nil) rfl rfl ?_; clear hC a; intro a hC
  refine L.pu hC rfl rfl (fun _ => All.nil) rfl rfl ?_; clear hC a; intro a hC
  refine L.nil ?_
  refine hk2 _ _ ?_; clear hk2; try clear k2
  refine W.seqk fun k3 hk3 => ?_
  refine W.seqk fun k4 hk4 => ?_
  refine W.region ?_
  refine L.pu hC rfl rfl (fun _ => All.nil) rfl rfl ?_; clear hC a; intro a hC
  refine L.pu hC rfl rfl (fun _ => All.nil) rfl rfl ?_; clear hC a; intro a hC
  refine L.nil ?_
  refine hk4 _ _ ?_; clear hk4; try clear k4
  refine W.cond hC rfl (fun h1 => ?_) (fun h1 => ?_)
  ·
    replace hC := hC.hd (congrArg (fun x => blkR mb x 115) (askC_ok h1))
    refine W.region ?_
    refine L.pu hC rfl rfl (fun _ => All.nil) rfl rfl ?_; clear hC a; intro a hC
    refine L.pu hC rfl rfl (fun _ => All.nil) rfl rfl ?_; clear hC a; intro a hC
    refine L.pu hC rfl rfl (fun _ => All.nil) rfl rfl ?_; clear hC a; intro a hC
    refine L.callg [_] hC rfl rfl Try.call108 rfl (ends_ok mb k s t probe good _ (hC.at m0)) (fun b h => ⟨_, m0, h⟩) rfl rfl ?_; clear hC a; intro _ a w hQ hC
    refine L.nil ?_
    refine hk3 _ _ ?_; clear hk3; try clear k3
    refine W.seqk fun k5 hk5 => ?_
    refine W.region ?_
    refine L.pu hC rfl rfl (fun _ => All.nil) rfl rfl ?_; clear hC a; intro a hC
    refine L.pu hC rfl rfl (fun _ => All.nil) rfl rfl ?_; clear hC a; intro a hC
    refine L.fa hC rfl rfl rfl (fun _ => All.nil) Try.underlying115 rfl Try.sizeOf36 rfl rfl rfl ?_; clear hC a; intro a hC
    refine L.lda hC rfl rfl rfl (fun _ => All.nil) m0 Try.isAgg36 Try.sizeOf36 rfl rfl rfl rfl ?_; clear hC a; intro a hC
    refine L.pu hC rfl rfl (fun _ => All.nil) rfl rfl ?_; clear hC a; intro a hC
    replace hC := hC.fr1
    refine L.st hC rfl rfl rfl rfl Try.sizeOf36 rfl rfl rfl rfl rfl ?_; clear hC a; intro a w hF hC
    refine L.pu hC rfl rfl (fun _ => All.nil) rfl rfl ?_; clear hC a; intro a hC
    refine L.nil ?_
    refine hk5 _ _ ?_; clear hk5; try clear k5
    refine W.ret ?_
    refine retl hC rfl (.agg rfl m0 Try.isAgg36 Try.sizeOf36 rfl (.tmp rfl .nil)) rfl ?_
    exact ⟨by unfold endR; rw [if_pos h1]; rfl, hC.frm⟩
  ·
    replace hC := hC.hd (congrArg (fun x => blkR mb x 115) (askC_no h1))
    refine W.skip ?_
    refine hk3 _ _ ?_; clear hk3; try clear k3
    refine W.seqk fun k6 hk6 => ?_
    refine W.region ?_
    refine L.pu hC rfl rfl (fun _ => All.nil) rfl rfl ?_; clear hC a; intro a hC
    refine L.pu hC rfl rfl (fun _ => All.nil) rfl rfl ?_; clear hC a; intro a hC
    refine L.fa hC rfl rfl rfl (fun _ => All.nil) Try.underlying115 rfl Try.sizeOf36 rfl rfl rfl ?_; clear hC a; intro a hC
    refine L.lda hC rfl rfl rfl (fun _ => All.nil) m0 Try.isAgg36 Try.sizeOf36 rfl rfl rfl rfl ?_; clear hC a; intro a hC
    refine L.pu hC rfl rfl (fun _ => All.nil) rfl rfl ?_; clear hC a; intro a hC
    replace hC := hC.fr1
    refine L.st hC rfl rfl rfl rfl Try.sizeOf36 rfl rfl rfl rfl rfl ?_; clear hC a; intro a w hF hC
    refine L.pu hC rfl rfl (fun _ => All.nil) rfl rfl ?_; clear hC a; intro a hC
    refine L.nil ?_
    refine hk6 _ _ ?_; clear hk6; try clear k6
    refine W.ret ?_
    refine retl hC rfl (.agg rfl m0 Try.isAgg36 Try.sizeOf36 rfl (.tmp rfl .nil)) rfl ?_
    exact ⟨by unfold endR; rw [if_neg (nt h1)]; rfl, hC.frm⟩

theorem allows15_ok (k : Brk) (s : BSet) (t : Int) (w0 : World) : Calls Try.prog 66 #[.agg (bE k).toArray, .agg (sE s).toArray, .int .i64 t] w0 fun e w' => e = .returned (.tuple #[.bool (chkB k s t == 0 && allowsB k s), .int .i64 (chkB k s t)]) ∧ Frm Nob w0 w' := by
  refine enter (μ := []) (S := Nob) (vs := [.agg (bE k).toArray, .agg (sE s).toArray, .int .i64 t]) Try.func66 rfl Try.ntmps66 rfl (Mem.nil _) (by simp) (fun a hC => ?_)
  refine W.seqk fun k1 hk1 => ?_
  refine W.region ?_
  refine L.box hC rfl rfl rfl rfl rfl rfl ?_; clear hC a; intro b1 a w hF hC
  refine L.box hC rfl rfl rfl rfl rfl rfl ?_; clear hC a; intro b2 a w hF hC
  refine L.pu hC rfl rfl (fun _ => All.nil) rfl rfl ?_; clear hC a; intro a hC
  refine L.pu hC rfl rfl (fun _ => All.nil) rfl rfl ?_; clear hC a; intro a hC
  refine L.nil ?_
  refine hk1 _ _ ?_; clear hk1; try clear k1
  refine W.seqk fun k2 hk2 => ?_
  refine W.region ?_
  refine L.lda hC rfl rfl rfl (fun _ => All.nil) m1 Try.isAgg36 Try.sizeOf36 rfl rfl rfl rfl ?_; clear hC a; intro a hC
  refine L.lda hC rfl rfl rfl (fun _ => All.nil) m0 Try.isAgg33 Try.sizeOf33 rfl rfl rfl rfl ?_; clear hC a; intro a hC
  refine L.pu hC rfl rfl (fun _ => All.nil) rfl rfl ?_; clear hC a; intro a hC
  refine L.callg [] hC rfl rfl Try.call112 rfl (ask15_ok k s t _) (fun b h => h.elim) rfl rfl ?_; clear hC a; intro mb a w hQ hC
  refine L.pu hC rfl rfl (fun _ => All.nil) rfl rfl ?_; clear hC a; intro a hC
  refine L.pu hC rfl rfl (fun _ => All.nil) rfl rfl ?_; clear hC a; intro a hC
  refine L.pu hC rfl rfl (fun _ => All.nil) rfl rfl ?_; clear hC a; intro a hC
  refine L.pu hC rfl rfl (fun _ => All.nil) rfl rfl ?_; clear hC a; intro a hC
  refine L.pu hC rfl rfl (fun _ => All.nil) rfl rfl ?_; clear hC a; intro a hC
  refine L.nil ?_
  refine hk2 _ _ ?_; clear hk2; try clear k2
  refine W.seqk fun k3 hk3 => ?_
  refine W.region ?_
  refine L.pu hC rfl rfl (fun _ => All.nil) rfl rfl ?_; clear hC a; intro a hC
  refine L.pu hC rfl rfl (fun _ => All.nil) rfl rfl ?_; clear hC a; intro a hC
  refine L.pu hC rfl rfl (fun _ => All.nil) rfl rfl ?_; clear hC a; intro a hC
  refine L.pu hC rfl rfl (fun _ => All.nil) rfl rfl ?_; clear hC a; intro a hC
  refine L.call hC rfl rfl Try.call109 rfl (fun hg => by simp only [Gt, Bool.and_eq_true] at hg; simp only [All, List.cons_append, List.nil_append, List.append_nil, List.mem_cons, List.not_mem_nil, or_false, forall_eq_or_imp, forall_eq, Bool.and_eq_true, hg, Bool.not_false, Bool.not_true, and_self]) (fun hg => allows_ok mb k s t _ (ask_at hg (hC.at m0))) rfl rfl ?_; clear hC a; intro a w hF hC
  refine L.and hC rfl rfl rfl rfl (fun _ => All.nil) (fun _ hp => by simp only [All, List.cons_append, List.nil_append, List.append_nil, List.mem_cons, List.not_mem_nil, or_false, forall_eq_or_imp, forall_eq, Bool.and_eq_true, hp, Bool.not_false, Bool.not_true, and_self]) rfl rfl ?_; clear hC a; intro a hC
  refine L.pu hC rfl rfl (fun _ => All.nil) rfl rfl ?_; clear hC a; intro a hC
  refine L.pu hC rfl rfl (fun _ => All.nil) rfl rfl ?_; clear hC a; intro a hC
  refine L.pu hC rfl rfl (fun _ => All.nil) rfl rfl ?_; clear hC a; intro a hC
  refine L.nil ?_
  refine hk3 _ _ ?_; clear hk3; try clear k3
  refine W.ret ?_
  refine retl hC rfl (.tmp rfl (.tmp rfl .nil)) rfl ?_
  refine ⟨?_, hC.frm⟩
  rfl

theorem num15_ok (x : Int) (w0 : World) : Calls Try.prog 20 #[.int .i64 x] w0 fun e w' => e = .returned (.int .i64 x) ∧ Frm Nob w0 w' := by
  refine enter (μ := []) (S := Nob) (vs := [.int .i64 x]) Try.func20 rfl Try.ntmps20 rfl (Mem.nil _) (by simp) (fun a hC => ?_)
  refine W.seqk fun k1 hk1 => ?_
  refine W.region ?_
  refine L.pu hC rfl rfl (fun _ => All.nil) rfl rfl ?_; clear hC a; intro a hC
  refine L.nil ?_
  refine hk1 _ _ ?_; clear hk1; try clear k1
  refine W.seqk fun k2 hk2 => ?_
  refine W.region ?_
  refine L.pu hC rfl rfl (fun _ => All.nil) rfl rfl ?_; clear hC a; intro a hC
  refine L.pu hC rfl rfl (fun _ => All.nil) rfl rfl ?_; clear hC a; intro a hC
  refine L.nil ?_
  refine hk2 _ _ ?_; clear hk2; try clear k2
  refine W.ret ?_
  refine rets hC rfl (.tmp rfl .nil) ?_
  refine ⟨?_, hC.frm⟩
  rfl

theorem alive15_ok (w0 : World) : Calls Try.prog 21 #[] w0 fun e w' => e = .returned (.bool true) ∧ Frm Nob w0 w' := by
  refine enter (μ := []) (S := Nob) (vs := []) Try.func21 rfl Try.ntmps21 rfl (Mem.nil _) (by simp) (fun a hC => ?_)
  refine W.seqk fun k1 hk1 => ?_
  refine W.region ?_
  refine L.pu hC rfl rfl (fun _ => All.nil) rfl rfl ?_; clear hC a; intro a hC
  refine L.nil ?_
  refine hk1 _ _ ?_; clear hk1; try clear k1
  refine W.seqk fun k2 hk2 => ?_
  refine W.region ?_
  refine L.buildS (ps := [(0, 1), (1, 1), (2, 1), (3, 1), (4, 1)]) hC rfl rfl rfl (fun _ => All.nil) Try.zeroValue36 Try.underlying36 ⟨⟨rfl, Try.sizeOf3⟩, ⟨rfl, Try.sizeOf3⟩, ⟨rfl, Try.sizeOf3⟩, ⟨rfl, Try.sizeOf3⟩, ⟨rfl, Try.sizeOf3⟩, trivial⟩ rfl rfl rfl ?_; clear hC a; intro a hC
  refine L.buildS (ps := [(0, 1), (1, 1), (2, 1)]) hC rfl rfl rfl (fun _ => All.nil) Try.zeroValue33 Try.underlying33 ⟨⟨rfl, Try.sizeOf3⟩, ⟨rfl, Try.sizeOf3⟩, ⟨rfl, Try.sizeOf3⟩, trivial⟩ rfl rfl rfl ?_; clear hC a; intro a hC
  refine L.call hC rfl rfl Try.call65 rfl (fun _ => All.nil) (fun hg => end15_ok ⟨0, 0, 0, 0, 0⟩ ⟨1, 5, 1⟩ 3 false false _) rfl rfl ?_; clear hC a; intro a w hF hC
  refine L.pu hC rfl rfl (fun _ => All.nil) rfl rfl ?_; clear hC a; intro a hC
  refine L.pu hC rfl rfl (fun _ => All.nil) rfl rfl ?_; clear hC a; intro a hC
  refine L.pu hC rfl rfl (fun _ => All.nil) rfl rfl ?_; clear hC a; intro a hC
  refine L.alloc hC rfl rfl Try.zeroValue36 rfl rfl rfl ?_; clear hC a; intro b1 a w hF hC
  refine L.st hC rfl rfl rfl rfl Try.sizeOf36 rfl rfl rfl rfl rfl ?_; clear hC a; intro a w hF hC
  refine L.pu hC rfl rfl (fun _ => All.nil) rfl rfl ?_; clear hC a; intro a hC
  refine L.nil ?_
  refine hk2 _ _ ?_; clear hk2; try clear k2
  refine W.seqk fun k3 hk3 => ?_
  refine W.region ?_
  refine L.lda hC rfl rfl rfl (fun _ => All.nil) m0 Try.isAgg36 Try.sizeOf36 rfl rfl rfl rfl ?_; clear hC a; intro a hC
  refine L.buildS (ps := [(0, 1), (1, 1), (2, 1)]) hC rfl rfl rfl (fun _ => All.nil) Try.zeroValue33 Try.underlying33 ⟨⟨rfl, Try.sizeOf3⟩, ⟨rfl, Try.sizeOf3⟩, ⟨rfl, Try.sizeOf3⟩, trivial⟩ rfl rfl rfl ?_; clear hC a; intro a hC
  refine L.call hC rfl rfl Try.call66 rfl (fun _ => All.nil) (fun hg => allows15_ok (endR ⟨0, 0, 0, 0, 0⟩ ⟨1, 5, 1⟩ 3 false false).1 ⟨1, 5, 1⟩ 4 _) rfl rfl ?_; clear hC a; intro a w hF hC
  refine L.pu hC rfl rfl (fun _ => All.nil) rfl rfl ?_; clear hC a; intro a hC
  refine L.pu hC rfl rfl (fun _ => All.nil) rfl rfl ?_; clear hC a; intro a hC
  refine L.pu hC rfl rfl (fun _ => All.nil) rfl rfl ?_; clear hC a; intro a hC
  refine L.pu hC rfl rfl (fun _ => All.nil) rfl rfl ?_; clear hC a; intro a hC
  refine L.pu hC rfl rfl (fun _ => All.nil) rfl rfl ?_; clear hC a; intro a hC
  refine L.nil ?_
  refine hk3 _ _ ?_; clear hk3; try clear k3
  refine W.seqk fun k4 hk4 => ?_
  refine W.region ?_
  refine L.pu hC rfl rfl (fun _ => All.nil) rfl rfl ?_; clear hC a; intro a hC
  refine L.call hC rfl rfl Try.call20 rfl (fun _ => All.nil) (fun hg => num15_ok _ _) rfl rfl ?_; clear hC a; intro a w hF hC
  refine L.pu hC rfl rfl (fun _ => All.nil) rfl rfl ?_; clear hC a; intro a hC
  refine L.call hC rfl rfl Try.call20 rfl (fun _ => All.nil) (fun hg => num15_ok _ _) rfl rfl ?_; clear hC a; intro a w hF hC
  refine L.pu hC rfl rfl (fun _ => All.nil) rfl rfl ?_; clear hC a; intro a hC
  refine L.pu hC rfl rfl (fun _ => All.nil) rfl rfl ?_; clear hC a; intro a hC
  refine L.pu hC rfl rfl (fun _ => All.nil) rfl rfl ?_; clear hC a; intro a hC
  refine L.lda hC rfl rfl rfl (fun _ => All.nil) m0 Try.isAgg36 Try.sizeOf36 rfl rfl rfl rfl ?_; clear hC a; intro a hC
  refine L.buildS (ps := [(0, 1), (1, 1), (2, 1), (3, 1), (4, 1)]) hC rfl rfl rfl (fun _ => All.nil) Try.zeroValue36 Try.underlying36 ⟨⟨rfl, Try.sizeOf3⟩, ⟨rfl, Try.sizeOf3⟩, ⟨rfl, Try.sizeOf3⟩, ⟨rfl, Try.sizeOf3⟩, ⟨rfl, Try.sizeOf3⟩, trivial⟩ rfl rfl rfl ?_; clear hC a; intro a hC
  refine L.bin hC rfl rfl rfl rfl (fun hg => by simp only [Gt, Bool.and_eq_true] at hg; simp only [All, List.cons_append, List.nil_append, List.append_nil, List.mem_cons, List.not_mem_nil, or_false, forall_eq_or_imp, forall_eq, Bool.and_eq_true, hg, Bool.not_false, Bool.not_true, and_self]) (fun hg => by simp only [Gt, Bool.and_eq_true] at hg; simp only [All, List.cons_append, List.nil_append, List.append_nil, List.mem_cons, List.not_mem_nil, or_false, forall_eq_or_imp, forall_eq, Bool.and_eq_true, hg, Bool.not_false, Bool.not_true, and_self]) (fun _ => run_eqS Try.underlying36 Try.stoodInHeld36 Try.eqGuardType36 ⟨⟨rfl, rfl, ⟨_, Try.underlying3⟩⟩, ⟨rfl, rfl, ⟨_, Try.underlying3⟩⟩, ⟨rfl, rfl, ⟨_, Try.underlying3⟩⟩, ⟨rfl, rfl, ⟨_, Try.underlying3⟩⟩, ⟨rfl, rfl, ⟨_, Try.underlying3⟩⟩, trivial⟩ rfl) rfl rfl ?_; clear hC a; intro a hC
  refine L.and hC rfl rfl rfl rfl (fun _ => All.nil) (fun _ hp => by simp only [All, List.cons_append, List.nil_append, List.append_nil, List.mem_cons, List.not_mem_nil, or_false, forall_eq_or_imp, forall_eq, Bool.and_eq_true, hp, Bool.not_false, Bool.not_true, and_self]) rfl rfl ?_; clear hC a; intro a hC
  refine L.pu hC rfl rfl (fun _ => All.nil) rfl rfl ?_; clear hC a; intro a hC
  refine L.pu hC rfl rfl (fun _ => All.nil) rfl rfl ?_; clear hC a; intro a hC
  refine L.pu hC rfl rfl (fun hg => by simp only [Gt, Bool.and_eq_true] at hg; simp only [All, List.cons_append, List.nil_append, List.append_nil, List.mem_cons, List.not_mem_nil, or_false, forall_eq_or_imp, forall_eq, Bool.and_eq_true, hg, Bool.not_false, Bool.not_true, and_self]) rfl rfl ?_; clear hC a; intro a hC
  refine L.and hC rfl rfl rfl rfl (fun _ => All.nil) (fun _ hp => by simp only [All, List.cons_append, List.nil_append, List.append_nil, List.mem_cons, List.not_mem_nil, or_false, forall_eq_or_imp, forall_eq, Bool.and_eq_true, hp, Bool.not_false, Bool.not_true, and_self]) rfl rfl ?_; clear hC a; intro a hC
  refine L.pu hC rfl rfl (fun _ => All.nil) rfl rfl ?_; clear hC a; intro a hC
  refine L.nil ?_
  refine hk4 _ _ ?_; clear hk4; try clear k4
  refine W.ret ?_
  refine rets hC rfl (.tmp rfl .nil) ?_
  refine ⟨?_, hC.frm⟩
  refine rb ?_
  decide

theorem late_ok (x y : Act) (w0 : World) : Calls Try.prog 53 #[.agg (actE.enc x).toArray, .agg (actE.enc y).toArray] w0 fun e w' => e = .returned (.int .i64 (IntKind.i64.wrap (x.tick - y.tick))) ∧ Frm Nob w0 w' := by
  refine enter (μ := []) (S := Nob) (vs := [.agg (actE.enc x).toArray, .agg (actE.enc y).toArray]) Try.func53 rfl Try.ntmps53 rfl (Mem.nil _) (by simp) (fun a hC => ?_)
  refine W.seqk fun k1 hk1 => ?_
  refine W.region ?_
  refine L.box hC rfl rfl rfl rfl rfl rfl ?_; clear hC a; intro b1 a w hF hC
  refine L.box hC rfl rfl rfl rfl rfl rfl ?_; clear hC a; intro b2 a w hF hC
  refine L.pu hC rfl rfl (fun _ => All.nil) rfl rfl ?_; clear hC a; intro a hC
  refine L.nil ?_
  refine hk1 _ _ ?_; clear hk1; try clear k1
  refine W.seqk fun k2 hk2 => ?_
  refine W.region ?_
  refine L.fa hC rfl rfl rfl (fun _ => All.nil) Try.underlying106 rfl Try.sizeOf3 rfl rfl rfl ?_; clear hC a; intro a hC
  refine L.ld hC rfl rfl rfl (fun _ => All.nil) m1 Try.isAgg3 rfl rfl rfl ?_; clear hC a; intro a hC
  refine L.fa hC rfl rfl rfl (fun _ => All.nil) Try.underlying106 rfl Try.sizeOf3 rfl rfl rfl ?_; clear hC a; intro a hC
  refine L.ld hC rfl rfl rfl (fun _ => All.nil) m0 Try.isAgg3 rfl rfl rfl ?_; clear hC a; intro a hC
  refine L.pu hC rfl rfl (fun _ => All.nil) rfl rfl ?_; clear hC a; intro a hC
  refine L.pu hC rfl rfl (fun _ => All.nil) rfl rfl ?_; clear hC a; intro a hC
  refine L.nil ?_
  refine hk2 _ _ ?_; clear hk2; try clear k2
  refine W.ret ?_
  refine rets hC rfl (.tmp rfl .nil) ?_
  refine ⟨?_, hC.frm⟩
  rfl

theorem kind_ok (x : Act) (w0 : World) : Calls Try.prog 55 #[.agg (actE.enc x).toArray] w0 fun e w' => e = .returned (.bool (oddK x)) ∧ Frm Nob w0 w' := by
  refine enter (μ := []) (S := Nob) (vs := [.agg (actE.enc x).toArray]) Try.func55 rfl Try.ntmps55 rfl (Mem.nil _) (by simp) (fun a hC => ?_)
  refine W.seqk fun k1 hk1 => ?_
  refine W.region ?_
  refine L.box hC rfl rfl rfl rfl rfl rfl ?_; clear hC a; intro b1 a w hF hC
  refine L.pu hC rfl rfl (fun _ => All.nil) rfl rfl ?_; clear hC a; intro a hC
  refine L.nil ?_
  refine hk1 _ _ ?_; clear hk1; try clear k1
  refine W.seqk fun k2 hk2 => ?_
  refine W.region ?_
  refine L.fa hC rfl rfl rfl (fun _ => All.nil) Try.underlying106 rfl Try.sizeOf3 rfl rfl rfl ?_; clear hC a; intro a hC
  refine L.ld hC rfl rfl rfl (fun _ => All.nil) m0 Try.isAgg3 rfl rfl rfl ?_; clear hC a; intro a hC
  refine L.call hC rfl rfl Try.call56 rfl (fun _ => All.nil) (fun hg => in15_ok _ _ _ _) rfl rfl ?_; clear hC a; intro a w hF hC
  refine L.pu hC rfl rfl (fun _ => All.nil) rfl rfl ?_; clear hC a; intro a hC
  refine L.pu hC rfl rfl (fun _ => All.nil) rfl rfl ?_; clear hC a; intro a hC
  refine L.nil ?_
  refine hk2 _ _ ?_; clear hk2; try clear k2
  refine W.ret ?_
  refine rets hC rfl (.tmp rfl .nil) ?_
  refine ⟨?_, hC.frm⟩
  rfl

theorem when_ok (x : Act) (w0 : World) : Calls Try.prog 58 #[.agg (actE.enc x).toArray] w0 fun e w' => e = .returned (.bool (oddW x)) ∧ Frm Nob w0 w' := by
  refine enter (μ := []) (S := Nob) (vs := [.agg (actE.enc x).toArray]) Try.func58 rfl Try.ntmps58 rfl (Mem.nil _) (by simp) (fun a hC => ?_)
  refine W.seqk fun k1 hk1 => ?_
  refine W.region ?_
  refine L.box hC rfl rfl rfl rfl rfl rfl ?_; clear hC a; intro b1 a w hF hC
  refine L.pu hC rfl rfl (fun _ => All.nil) rfl rfl ?_; clear hC a; intro a hC
  refine L.nil ?_
  refine hk1 _ _ ?_; clear hk1; try clear k1
  refine W.seqk fun k2 hk2 => ?_
  refine W.region ?_
  refine L.fa hC rfl rfl rfl (fun _ => All.nil) Try.underlying106 rfl Try.sizeOf3 rfl rfl rfl ?_; clear hC a; intro a hC
  refine L.ld hC rfl rfl rfl (fun _ => All.nil) m0 Try.isAgg3 rfl rfl rfl ?_; clear hC a; intro a hC
  refine L.call hC rfl rfl Try.call56 rfl (fun _ => All.nil) (fun hg => in15_ok _ _ _ _) rfl rfl ?_; clear hC a; intro a w hF hC
  refine L.pu hC rfl rfl (fun _ => All.nil) rfl rfl ?_; clear hC a; intro a hC
  refine L.pu hC rfl rfl (fun _ => All.nil) rfl rfl ?_; clear hC a; intro a hC
  refine L.nil ?_
  refine hk2 _ _ ?_; clear hk2; try clear k2
  refine W.ret ?_
  refine rets hC rfl (.tmp rfl .nil) ?_
  refine ⟨?_, hC.frm⟩
  rfl

theorem idxA_ok (v : Value) (l : List Act) (g : FuncId) (lb : Array Value) (p : Act → Bool) (w : World) (hr : (rdR v actE l).ok w) (hcall : ∀ (vs : Array Value) (w : World), (callFunc g vs).run Try.prog w = .ok (.enter g vs) w)
    (hp : ∀ x ∈ l, ∀ w', Frm Nob w w' → Calls Try.prog g (#[.agg (actE.enc x).toArray] ++ lb) w' fun e w'' => e = .returned (.bool (p x)) ∧ Frm Nob w' w'') : Calls Try.prog 106 #[v, .func (.func g) #[] lb] w fun e w' => e = .returned (.int .i64 (fidx p l)) ∧ Frm Nob w w' := by
  refine enter (μ := [rdR v actE l]) (S := Nob) (vs := [v, .func (.func g) #[] lb]) Try.func106 rfl Try.ntmps106 rfl ⟨by simpa using hr, by simp⟩ (by simp [rdR]) (fun a hC => ?_)
  refine W.seqk fun k1 hk1 => ?_
  refine W.region ?_
  refine L.pu hC rfl rfl (fun _ => All.nil) rfl rfl ?_; clear hC a; intro a hC
  refine L.nil ?_
  refine hk1 _ _ ?_; clear hk1; try clear k1
  refine W.seqk fun k2 hk2 => ?_
  refine W.seqk fun k3 hk3 => ?_
  refine W.region ?_
  refine L.pu hC rfl rfl (fun _ => All.nil) rfl rfl ?_; clear hC a; intro a hC
  refine L.len hC rfl rfl rfl (fun _ => All.nil) (rd_form (hC.at m0)) Try.underlying34 rfl rfl ?_; clear hC a; intro a hC
  refine L.pu hC rfl rfl (fun _ => All.nil) rfl rfl ?_; clear hC a; intro a hC
  refine L.nil ?_
  refine hk3 _ _ ?_; clear hk3; try clear k3
  refine W.block ?_
  refine W.loop (fun (j : Nat) a w' => j ≤ l.length ∧ (∀ x ∈ l.take j, p x = false) ∧ Conf 19 Nob w [(8, (none, .int .i64 j)), (7, (none, .int .i64 l.length)), (6, (none, v)), (1, (none, .func (.func g) #[] lb)), (0, (none, v))] [rdR v actE l] a w') (fun j => l.length - j) 0 ?_ ?_
  · exact ⟨Nat.zero_le _, by simp, hC.keep ⟨rfl, rfl, rfl, rfl, rfl, trivial⟩⟩
  ·
    rintro j a w ⟨hj, ho, hC⟩
    refine W.seqk fun k4 hk4 => ?_
    refine W.region ?_
    refine L.pu hC rfl rfl (fun _ => All.nil) rfl rfl ?_; clear hC a; intro a hC
    refine L.nil ?_
    refine hk4 _ _ ?_; clear hk4; try clear k4
    refine W.seqk fun k5 hk5 => ?_
    refine W.cond hC rfl (fun h1 => ?_) (fun h1 => ?_)
    ·
      have h1 := of_decide_eq_true h1
      refine W.skip ?_
      refine hk5 _ _ ?_; clear hk5; try clear k5
      refine W.seqk fun k6 hk6 => ?_
      refine W.block ?_
      refine W.seqk fun k7 hk7 => ?_
      refine W.region ?_
      refine L.pu hC rfl rfl (fun _ => All.nil) rfl rfl ?_; clear hC a; intro a hC
      refine L.pu hC rfl rfl (fun _ => All.nil) rfl rfl ?_; clear hC a; intro a hC
      refine L.nil ?_
      refine hk7 _ _ ?_; clear hk7; try clear k7
      refine W.seqk fun k8 hk8 => ?_
      refine W.region ?_
      refine L.pu hC rfl rfl (fun _ => All.nil) rfl rfl ?_; clear hC a; intro a hC
      refine L.pu hC rfl rfl (fun _ => All.nil) rfl rfl ?_; clear hC a; intro a hC
      refine L.pu hC rfl rfl (fun _ => All.nil) rfl rfl ?_; clear hC a; intro a hC
      refine L.ixr hC rfl rfl rfl rfl m0 (fun _ => All.nil) (fun _ => All.nil) Try.underlying34 Try.sizeOf106 (fun _ => by omega) rfl rfl ?_; clear hC a; intro a hC
      refine L.ldxa hC rfl rfl rfl rfl (fun _ => All.nil) (fun hg => rd_bang hC m0 (by omega) _) Try.isAgg106 Try.sizeOf106 rfl rfl rfl rfl ?_; clear hC a; intro a hC
      refine L.callf hC rfl rfl rfl (fun _ => All.nil) hcall rfl (fun _ => All.nil) (fun hg => hp _ (bang_mem (by omega)) _ (hC.frm)) rfl rfl ?_; clear hC a; intro a w hF hC
      refine L.nil ?_
      refine hk8 _ _ ?_; clear hk8; try clear k8
      refine W.cond hC rfl (fun h2 => ?_) (fun h2 => ?_)
      ·
        refine W.seqk fun k9 hk9 => ?_
        refine W.region ?_
        refine L.pu hC rfl rfl (fun _ => All.nil) rfl rfl ?_; clear hC a; intro a hC
        refine L.pu hC rfl rfl (fun _ => All.nil) rfl rfl ?_; clear hC a; intro a hC
        refine L.nil ?_
        refine hk9 _ _ ?_; clear hk9; try clear k9
        refine W.ret ?_
        refine rets hC rfl (.tmp rfl .nil) ?_
        refine ⟨?_, hC.frm⟩
        refine ri ?_
        exact (fidx_here ho (by omega) h2).symm
      ·
        refine W.skip ?_
        refine hk6 _ _ ?_; clear hk6; try clear k6
        refine W.region ?_
        refine L.pu hC rfl rfl (fun _ => All.nil) rfl rfl ?_; clear hC a; intro a hC
        refine L.pu hC rfl rfl (fun _ => All.nil) rfl rfl ?_; clear hC a; intro a hC
        refine L.nil ?_
        have hl := rd_lt (hC.at m0)
        refine ⟨j + 1, ⟨by omega, fidx_step ho (by omega) h2, hC.keep ⟨?_, rfl, rfl, rfl, rfl, trivial⟩⟩, by omega⟩
        rw [w64 (by omega)]; rfl
    ·
      have h1 := of_decide_eq_false h1
      refine W.exit ?_
      refine Kb.here ?_
      refine hk2 _ _ ?_; clear hk2; try clear k2
      refine W.seqk fun k10 hk10 => ?_
      refine W.region ?_
      refine L.pu hC rfl rfl (fun _ => All.nil) rfl rfl ?_; clear hC a; intro a hC
      refine L.nil ?_
      refine hk10 _ _ ?_; clear hk10; try clear k10
      refine W.ret ?_
      refine rets hC rfl (.tmp rfl .nil) ?_
      refine ⟨?_, hC.frm⟩
      refine ri ?_
      exact (fidx_none (by rwa [List.take_of_length_le (by omega)] at ho)).symm

theorem hasA_ok (v : Value) (l : List Act) (g : FuncId) (lb : Array Value) (p : Act → Bool) (w : World) (hr : (rdR v actE l).ok w) (hcall : ∀ (vs : Array Value) (w : World), (callFunc g vs).run Try.prog w = .ok (.enter g vs) w)
    (hp : ∀ x ∈ l, ∀ w', Frm Nob w w' → Calls Try.prog g (#[.agg (actE.enc x).toArray] ++ lb) w' fun e w'' => e = .returned (.bool (p x)) ∧ Frm Nob w' w'') : Calls Try.prog 54 #[v, .func (.func g) #[] lb] w fun e w' => e = .returned (.bool (l.any p)) ∧ Frm Nob w w' := by
  refine enter (μ := []) (S := Nob) (vs := [v, .func (.func g) #[] lb]) Try.func54 rfl Try.ntmps54 rfl (Mem.nil _) (by simp) (fun a hC => ?_)
  refine W.seqk fun k1 hk1 => ?_
  refine W.region ?_
  refine L.pu hC rfl rfl (fun _ => All.nil) rfl rfl ?_; clear hC a; intro a hC
  refine L.nil ?_
  refine hk1 _ _ ?_; clear hk1; try clear k1
  refine W.seqk fun k2 hk2 => ?_
  refine W.region ?_
  refine L.pu hC rfl rfl (fun _ => All.nil) rfl rfl ?_; clear hC a; intro a hC
  refine L.pu hC rfl rfl (fun _ => All.nil) rfl rfl ?_; clear hC a; intro a hC
  refine L.call hC rfl rfl Try.call106 rfl (fun _ => All.nil) (fun hg => idxA_ok v l g lb p _ ((rdR v actE l).st _ _ hr (fun b hb => hC.frm.block b ((rdR v actE l).bd _ hr b hb) (fun h => h))) hcall (fun x hx w' hw => hp x hx w' (hC.frm.trans hw (fun _ _ h => h.elim)))) rfl rfl ?_; clear hC a; intro a w hF hC
  refine L.pu hC rfl rfl (fun _ => All.nil) rfl rfl ?_; clear hC a; intro a hC
  refine L.pu hC rfl rfl (fun _ => All.nil) rfl rfl ?_; clear hC a; intro a hC
  refine L.nil ?_
  refine hk2 _ _ ?_; clear hk2; try clear k2
  refine W.ret ?_
  refine rets hC rfl (.tmp rfl .nil) ?_
  refine ⟨?_, hC.frm⟩
  refine rb ?_
  exact fidx_ge

theorem sortedA_ok (v : Value) (l : List Act) (g : FuncId) (lb : Array Value) (cmp : Act → Act → Int) (w0 : World) (hr : (rdR v actE l).ok w0) (hcall : ∀ (vs : Array Value) (w : World), (callFunc g vs).run Try.prog w = .ok (.enter g vs) w)
    (hp : ∀ x y w', Frm Nob w0 w' → Calls Try.prog g (#[.agg (actE.enc x).toArray, .agg (actE.enc y).toArray] ++ lb) w' fun e w'' => e = .returned (.int .i64 (cmp x y)) ∧ Frm Nob w' w'') : Calls Try.prog 59 #[v, .func (.func g) #[] lb] w0 fun e w' => e = .returned (.bool (sortedF cmp l)) ∧ Frm Nob w0 w' := by
  have hlen := rd_lt hr
  refine enter (μ := [rdR v actE l]) (S := Nob) (vs := [v, .func (.func g) #[] lb]) Try.func59 rfl Try.ntmps59 rfl ⟨by simpa using hr, by simp⟩ (by simp [rdR]) (fun a hC => ?_)
  refine W.seqk fun k1 hk1 => ?_
  refine W.region ?_
  refine L.pu hC rfl rfl (fun _ => All.nil) rfl rfl ?_; clear hC a; intro a hC
  refine L.nil ?_
  refine hk1 _ _ ?_; clear hk1; try clear k1
  refine W.seqk fun k2 hk2 => ?_
  refine W.seqk fun k3 hk3 => ?_
  refine W.region ?_
  refine L.pu hC rfl rfl (fun _ => All.nil) rfl rfl ?_; clear hC a; intro a hC
  refine L.len hC rfl rfl rfl (fun _ => All.nil) (rd_form (hC.at m0)) Try.underlying34 rfl rfl ?_; clear hC a; intro a hC
  refine L.pu hC rfl rfl (fun _ => All.nil) rfl rfl ?_; clear hC a; intro a hC
  refine L.pu hC rfl rfl (fun _ => All.nil) rfl rfl ?_; clear hC a; intro a hC
  refine L.nil ?_
  refine hk3 _ _ ?_; clear hk3; try clear k3
  refine W.block ?_
  refine W.loop (fun (i : Int) a w' => (-1 ≤ i) ∧ (i < l.length) ∧ (∀ m : Nat, i < m → m < l.length → 0 < m → ¬ cmp l[m]! l[m - 1]! < 0) ∧ Conf 25 Nob w0 [(5, (none, .int .i64 i)), (1, (none, .func (.func g) #[] lb)), (0, (none, v))] [rdR v actE l] a w') (fun (i : Int) => i.toNat) ((l.length : Int) - 1) ?_ ?_
  · exact ⟨by omega, by omega, fun m h1 h2 _ => by omega, hC.keep ⟨geti rfl (w64 (by omega)), rfl, rfl, trivial⟩⟩
  · rintro i a w ⟨hi0, hi1, hs, hC⟩
    refine W.seqk fun k4 hk4 => ?_
    refine W.seqk fun k5 hk5 => ?_
    refine W.region ?_
    refine L.pu hC rfl rfl (fun _ => All.nil) rfl rfl ?_; clear hC a; intro a hC
    refine L.pu hC rfl rfl (fun _ => All.nil) rfl rfl ?_; clear hC a; intro a hC
    refine L.nil ?_
    refine hk5 _ _ ?_; clear hk5; try clear k5
    refine W.cond hC rfl (fun h1 => ?_) (fun h1 => ?_)
    ·
      have h1' := of_decide_eq_true h1
      have hw : IntKind.i64.wrap (i - 1) = i - 1 := w64 (by omega)
      refine W.skip ?_
      refine hk4 _ _ ?_; clear hk4; try clear k4
      refine W.seqk fun k6 hk6 => ?_
      refine W.block ?_
      refine W.seqk fun k7 hk7 => ?_
      refine W.drawD hC Try.mixed rfl rfl ?_
      apply DRN.cons (.det _ _) rfl
      · intro a w hC
        refine L.pu hC rfl rfl (fun _ => All.nil) rfl rfl ?_; clear hC a; intro a hC
        exact L.nil ⟨⟨_, [], hC⟩, Frm.refl _ _⟩
      apply DRN.cons (.det _ _) rfl
      · intro a w hC
        refine L.pu hC rfl rfl (fun _ => All.nil) rfl rfl ?_; clear hC a; intro a hC
        exact L.nil ⟨⟨_, [], hC⟩, Frm.refl _ _⟩
      apply DRN.cons (.det _ _) rfl
      · intro a w hC
        refine L.pu hC rfl rfl (fun _ => All.nil) rfl rfl ?_; clear hC a; intro a hC
        exact L.nil ⟨⟨_, [], hC⟩, Frm.refl _ _⟩
      apply DRN.cons (.det _ _) rfl
      · intro a w hC
        refine L.ixr hC rfl rfl rfl rfl m0 (fun _ => All.nil) (fun _ => All.nil) Try.underlying34 Try.sizeOf106 (fun _ => by omega) rfl rfl ?_; clear hC a; intro a hC
        exact L.nil ⟨⟨_, [], hC⟩, Frm.refl _ _⟩
      apply DRN.cons (.det _ _) rfl
      · intro a w hC
        refine L.ldxa hC rfl rfl rfl rfl (fun _ => All.nil) (fun hg => rd_bang hC m0 (by omega) _) Try.isAgg106 Try.sizeOf106 rfl rfl rfl rfl ?_; clear hC a; intro a hC
        exact L.nil ⟨⟨_, [], hC⟩, Frm.refl _ _⟩
      apply DRN.cons (.det _ _) rfl
      · intro a w hC
        refine L.pu hC rfl rfl (fun _ => All.nil) rfl rfl ?_; clear hC a; intro a hC
        exact L.nil ⟨⟨_, [], hC⟩, Frm.refl _ _⟩
      apply DRN.cons (.det _ _) rfl
      · intro a w hC
        refine L.pu hC rfl rfl (fun _ => All.nil) rfl rfl ?_; clear hC a; intro a hC
        exact L.nil ⟨⟨_, [], hC⟩, Frm.refl _ _⟩
      apply DRN.cons (.det _ _) rfl
      · intro a w hC
        refine L.pu hC rfl rfl (fun _ => All.nil) rfl rfl ?_; clear hC a; intro a hC
        exact L.nil ⟨⟨_, [], hC⟩, Frm.refl _ _⟩
      apply DRN.cons (.det _ _) rfl
      · intro a w hC
        refine L.ixr hC rfl rfl rfl rfl m0 (fun _ => All.nil) (fun _ => All.nil) Try.underlying34 Try.sizeOf106 (fun _ => by rw [hw]; omega) rfl rfl ?_; clear hC a; intro a hC
        exact L.nil ⟨⟨_, [], hC⟩, Frm.refl _ _⟩
      apply DRN.cons (.det _ _) rfl
      · intro a w hC
        refine L.ldxa hC rfl rfl rfl rfl (fun _ => All.nil) (fun hg => rd_bang hC m0 (by rw [hw]; omega) _) Try.isAgg106 Try.sizeOf106 rfl rfl rfl rfl ?_; clear hC a; intro a hC
        exact L.nil ⟨⟨_, [], hC⟩, Frm.refl _ _⟩
      apply DRN.cons (.det _ _) rfl
      · intro a w hC
        refine L.callf hC rfl rfl rfl (fun _ => All.nil) hcall rfl (fun _ => All.nil) (fun hg => hp _ _ _ hC.frm) rfl rfl ?_; clear hC a; intro a w hF hC
        exact L.nil ⟨⟨_, [], hC⟩, hF⟩
      apply DRN.cons (.det _ _) rfl
      · intro a w hC
        refine L.pu hC rfl rfl (fun _ => All.nil) rfl rfl ?_; clear hC a; intro a hC
        exact L.nil ⟨⟨_, [], hC⟩, Frm.refl _ _⟩
      refine DRN.nil (fun w' hF => ?_)
      intro a w hC hw
      subst hw
      refine hk7 _ _ ?_; clear hk7; try clear k7
      refine W.cond hC rfl (fun h2 => ?_) (fun h2 => ?_)
      ·
        refine W.seqk fun k8 hk8 => ?_
        refine W.region ?_
        refine L.pu hC rfl rfl (fun _ => All.nil) rfl rfl ?_; clear hC a; intro a hC
        refine L.nil ?_
        refine hk8 _ _ ?_; clear hk8; try clear k8
        refine W.ret ?_
        refine rets hC rfl (.tmp rfl .nil) ?_
        refine ⟨?_, hC.frm⟩
        refine rb ?_
        exact (sorted_no (by omega) h1' (by simpa [hw] using h2)).symm
      ·
        refine W.skip ?_
        refine hk6 _ _ ?_; clear hk6; try clear k6
        refine W.region ?_
        refine L.pu hC rfl rfl (fun _ => All.nil) rfl rfl ?_; clear hC a; intro a hC
        refine L.pu hC rfl rfl (fun _ => All.nil) rfl rfl ?_; clear hC a; intro a hC
        refine L.pu hC rfl rfl (fun _ => All.nil) rfl rfl ?_; clear hC a; intro a hC
        refine L.nil ?_
        exact ⟨i - 1, ⟨by omega, by omega, sorted_step hs h1' (by simpa [hw] using h2), hC.keep ⟨geti rfl hw, rfl, rfl, trivial⟩⟩, by first | omega | (dsimp only; omega)⟩
    ·
      have h1' := of_decide_eq_false h1
      refine W.exit ?_
      refine Kb.here ?_
      refine hk2 _ _ ?_; clear hk2; try clear k2
      refine W.seqk fun k9 hk9 => ?_
      refine W.region ?_
      refine L.pu hC rfl rfl (fun _ => All.nil) rfl rfl ?_; clear hC a; intro a hC
      refine L.nil ?_
      refine hk9 _ _ ?_; clear hk9; try clear k9
      refine W.ret ?_
      refine rets hC rfl (.tmp rfl .nil) ?_
      refine ⟨?_, hC.frm⟩
      refine rb ?_
      exact (sorted_yes (fun m h2 h3 => hs m (by omega) h2 h3)).symm

theorem run15_ok (v : Value) (s : BSet) (l : List Act) (w0 : World) (hr : (rdR v actE l).ok w0) : Calls Try.prog 17 #[.agg (sE s).toArray, v] w0 fun e w' => ∃ r : Value, e = .returned (.tuple #[.agg (bE (runP s l).1).toArray, r, .int .i64 (runP s l).2.2]) ∧ True ∧ Post Nob [ownR r 3 intE (runP s l).2.1] w0 w' := by
  refine enter (μ := [rdR v actE l]) (S := Nob) (vs := [.agg (sE s).toArray, v]) Try.func17 rfl Try.ntmps17 rfl ⟨by simpa using hr, by simp⟩ (by simp [rdR]) (fun a hC => ?_)
  refine W.seqk fun k1 hk1 => ?_
  refine W.region ?_
  refine L.box hC rfl rfl rfl rfl rfl rfl ?_; clear hC a; intro sb a w hF hC
  refine L.alloc hC rfl rfl Try.zeroValue36 rfl rfl rfl ?_; clear hC a; intro rb a w hF hC
  refine L.pu hC rfl rfl (fun _ => All.nil) rfl rfl ?_; clear hC a; intro a hC
  refine L.pu hC rfl rfl (fun _ => All.nil) rfl rfl ?_; clear hC a; intro a hC
  refine L.nil ?_
  refine hk1 _ _ ?_; clear hk1; try clear k1
  refine W.seqk fun k2 hk2 => ?_
  refine W.region ?_
  refine L.pu hC rfl rfl (fun _ => All.nil) rfl rfl ?_; clear hC a; intro a hC
  refine L.nil ?_
  refine hk2 _ _ ?_; clear hk2; try clear k2
  refine W.seqk fun k3 hk3 => ?_
  refine W.block ?_
  refine W.seqk fun k4 hk4 => ?_
  refine W.region ?_
  refine L.pu hC rfl rfl (fun _ => All.nil) rfl rfl ?_; clear hC a; intro a hC
  refine L.call hC rfl rfl Try.call54 rfl (fun _ => All.nil) (fun hg => hasA_ok v l 55 #[] oddK _ (hC.at m2) Try.call55 (fun x hx w' hw => by simpa using kind_ok x w')) rfl rfl ?_; clear hC a; intro a w hF hC
  refine L.pu hC rfl rfl (fun _ => All.nil) rfl rfl ?_; clear hC a; intro a hC
  refine L.nil ?_
  refine hk4 _ _ ?_; clear hk4; try clear k4
  refine W.cond hC rfl (fun h1 => ?_) (fun h1 => ?_)
  ·
    refine W.seqk fun k5 hk5 => ?_
    refine W.region ?_
    refine L.buildS (ps := [(0, 1), (1, 1), (2, 1), (3, 1), (4, 1)]) hC rfl rfl rfl (fun _ => All.nil) Try.zeroValue36 Try.underlying36 ⟨⟨rfl, Try.sizeOf3⟩, ⟨rfl, Try.sizeOf3⟩, ⟨rfl, Try.sizeOf3⟩, ⟨rfl, Try.sizeOf3⟩, ⟨rfl, Try.sizeOf3⟩, trivial⟩ rfl rfl rfl ?_; clear hC a; intro a hC
    refine L.st hC rfl rfl rfl rfl Try.sizeOf36 rfl rfl rfl rfl rfl ?_; clear hC a; intro a w hF hC
    refine L.pu hC rfl rfl (fun _ => All.nil) rfl rfl ?_; clear hC a; intro a hC
    refine L.pu hC rfl rfl (fun _ => All.nil) rfl rfl ?_; clear hC a; intro a hC
    refine L.nil ?_
    refine hk5 _ _ ?_; clear hk5; try clear k5
    refine W.ret ?_
    replace hC := (hC.one (r := _) m0)
    refine retl hC rfl (.agg rfl m0 Try.isAgg36 Try.sizeOf36 rfl (.tmp rfl (.tmp rfl .nil))) rfl ?_
    replace hC := (hC.drop).nilown (ty := 3) (E := intE)
    exact ⟨_, by unfold runP; rw [if_pos h1]; rfl, trivial, by unfold runP; rw [if_pos h1]; exact hC.toPost (by simp [ownR])⟩
  ·
    refine W.seqk fun k6 hk6 => ?_
    refine W.region ?_
    refine L.pu hC rfl rfl (fun _ => All.nil) rfl rfl ?_; clear hC a; intro a hC
    refine L.len hC rfl rfl rfl (fun _ => All.nil) (rd_form (hC.at m2)) Try.underlying34 rfl rfl ?_; clear hC a; intro a hC
    refine L.pu hC rfl rfl (fun _ => All.nil) rfl rfl ?_; clear hC a; intro a hC
    refine L.pu hC rfl rfl (fun _ => All.nil) rfl rfl ?_; clear hC a; intro a hC
    refine L.nil ?_
    refine hk6 _ _ ?_; clear hk6; try clear k6
    refine W.cond hC rfl (fun h2 => ?_) (fun h2 => ?_)
    ·
      refine W.seqk fun k7 hk7 => ?_
      refine W.region ?_
      refine L.buildS (ps := [(0, 1), (1, 1), (2, 1), (3, 1), (4, 1)]) hC rfl rfl rfl (fun _ => All.nil) Try.zeroValue36 Try.underlying36 ⟨⟨rfl, Try.sizeOf3⟩, ⟨rfl, Try.sizeOf3⟩, ⟨rfl, Try.sizeOf3⟩, ⟨rfl, Try.sizeOf3⟩, ⟨rfl, Try.sizeOf3⟩, trivial⟩ rfl rfl rfl ?_; clear hC a; intro a hC
      refine L.st hC rfl rfl rfl rfl Try.sizeOf36 rfl rfl rfl rfl rfl ?_; clear hC a; intro a w hF hC
      refine L.pu hC rfl rfl (fun _ => All.nil) rfl rfl ?_; clear hC a; intro a hC
      refine L.pu hC rfl rfl (fun _ => All.nil) rfl rfl ?_; clear hC a; intro a hC
      refine L.nil ?_
      refine hk7 _ _ ?_; clear hk7; try clear k7
      refine W.ret ?_
      replace hC := (hC.one (r := _) m0)
      refine retl hC rfl (.agg rfl m0 Try.isAgg36 Try.sizeOf36 rfl (.tmp rfl (.tmp rfl .nil))) rfl ?_
      replace hC := (hC.drop).nilown (ty := 3) (E := intE)
      exact ⟨_, by unfold runP; rw [if_neg (nt h1), if_pos h2]; rfl, trivial, by unfold runP; rw [if_neg (nt h1), if_pos h2]; exact hC.toPost (by simp [ownR])⟩
    ·
      refine W.seqk fun k8 hk8 => ?_
      refine W.region ?_
      refine L.lda hC rfl rfl rfl (fun _ => All.nil) m1 Try.isAgg33 Try.sizeOf33 rfl rfl rfl rfl ?_; clear hC a; intro a hC
      refine L.call hC rfl rfl Try.call57 rfl (fun _ => All.nil) (fun hg => sets15_ok _ _) rfl rfl ?_; clear hC a; intro a w hF hC
      refine L.pu hC rfl rfl (fun _ => All.nil) rfl rfl ?_; clear hC a; intro a hC
      refine L.pu hC rfl rfl (fun _ => All.nil) rfl rfl ?_; clear hC a; intro a hC
      refine L.pu hC rfl rfl (fun _ => All.nil) rfl rfl ?_; clear hC a; intro a hC
      refine L.call hC rfl rfl Try.call54 rfl (fun hg => by simp only [Gt, Bool.and_eq_true] at hg; simp only [All, List.cons_append, List.nil_append, List.append_nil, List.mem_cons, List.not_mem_nil, or_false, forall_eq_or_imp, forall_eq, Bool.and_eq_true, hg, Bool.not_false, Bool.not_true, and_self]) (fun hg => hasA_ok v l 58 #[] oddW _ (hC.at m2) Try.call58 (fun x hx w' hw => by simpa using when_ok x w')) rfl rfl ?_; clear hC a; intro a w hF hC
      refine L.or hC rfl rfl rfl rfl (fun _ => All.nil) (fun _ hp => by simp only [All, List.cons_append, List.nil_append, List.append_nil, List.mem_cons, List.not_mem_nil, or_false, forall_eq_or_imp, forall_eq, Bool.and_eq_true, hp, Bool.not_false, Bool.not_true, and_self]) rfl rfl ?_; clear hC a; intro a hC
      refine L.pu hC rfl rfl (fun _ => All.nil) rfl rfl ?_; clear hC a; intro a hC
      refine L.pu hC rfl rfl (fun _ => All.nil) rfl rfl ?_; clear hC a; intro a hC
      refine L.pu hC rfl rfl (fun _ => All.nil) rfl rfl ?_; clear hC a; intro a hC
      refine L.call hC rfl rfl Try.call59 rfl (fun hg => by simp only [Gt, Bool.and_eq_true] at hg; simp only [All, List.cons_append, List.nil_append, List.append_nil, List.mem_cons, List.not_mem_nil, or_false, forall_eq_or_imp, forall_eq, Bool.and_eq_true, hg, Bool.not_false, Bool.not_true, and_self]) (fun hg => sortedA_ok v l 53 #[] lateB _ (hC.at m2) Try.call53 (fun x y w' hw => by have := late_ok x y w'; simpa [lateB] using this)) rfl rfl ?_; clear hC a; intro a w hF hC
      refine L.pu hC rfl rfl (fun hg => by simp only [Gt, Bool.and_eq_true] at hg; simp only [All, List.cons_append, List.nil_append, List.append_nil, List.mem_cons, List.not_mem_nil, or_false, forall_eq_or_imp, forall_eq, Bool.and_eq_true, hg, Bool.not_false, Bool.not_true, and_self]) rfl rfl ?_; clear hC a; intro a hC
      refine L.or hC rfl rfl rfl rfl (fun _ => All.nil) (fun _ hp => by simp only [All, List.cons_append, List.nil_append, List.append_nil, List.mem_cons, List.not_mem_nil, or_false, forall_eq_or_imp, forall_eq, Bool.and_eq_true, hp, Bool.not_false, Bool.not_true, and_self]) rfl rfl ?_; clear hC a; intro a hC
      refine L.pu hC rfl rfl (fun _ => All.nil) rfl rfl ?_; clear hC a; intro a hC
      refine L.nil ?_
      refine hk8 _ _ ?_; clear hk8; try clear k8
      refine W.cond hC rfl (fun h3 => ?_) (fun h3 => ?_)
      ·
        refine W.seqk fun k9 hk9 => ?_
        refine W.region ?_
        refine L.buildS (ps := [(0, 1), (1, 1), (2, 1), (3, 1), (4, 1)]) hC rfl rfl rfl (fun _ => All.nil) Try.zeroValue36 Try.underlying36 ⟨⟨rfl, Try.sizeOf3⟩, ⟨rfl, Try.sizeOf3⟩, ⟨rfl, Try.sizeOf3⟩, ⟨rfl, Try.sizeOf3⟩, ⟨rfl, Try.sizeOf3⟩, trivial⟩ rfl rfl rfl ?_; clear hC a; intro a hC
        refine L.st hC rfl rfl rfl rfl Try.sizeOf36 rfl rfl rfl rfl rfl ?_; clear hC a; intro a w hF hC
        refine L.pu hC rfl rfl (fun _ => All.nil) rfl rfl ?_; clear hC a; intro a hC
        refine L.pu hC rfl rfl (fun _ => All.nil) rfl rfl ?_; clear hC a; intro a hC
        refine L.nil ?_
        refine hk9 _ _ ?_; clear hk9; try clear k9
        refine W.ret ?_
        replace hC := (hC.one (r := _) m0)
        refine retl hC rfl (.agg rfl m0 Try.isAgg36 Try.sizeOf36 rfl (.tmp rfl (.tmp rfl .nil))) rfl ?_
        replace hC := (hC.drop).nilown (ty := 3) (E := intE)
        exact ⟨_, by unfold runP; rw [if_neg (nt h1), if_neg (nt h2), if_pos h3]; rfl, trivial, by unfold runP; rw [if_neg (nt h1), if_neg (nt h2), if_pos h3]; exact hC.toPost (by simp [ownR])⟩
      ·
        refine W.skip ?_
        refine hk3 _ _ ?_; clear hk3; try clear k3
        refine W.seqk fun k10 hk10 => ?_
        refine W.region ?_
        refine L.lda hC rfl rfl rfl (fun _ => All.nil) m1 Try.isAgg33 Try.sizeOf33 rfl rfl rfl rfl ?_; clear hC a; intro a hC
        refine L.buildS (ps := [(0, 5), (5, 3), (8, 1)]) hC rfl rfl rfl (fun _ => All.nil) Try.zeroValue115 Try.underlying115 ⟨⟨rfl, Try.sizeOf36⟩, ⟨rfl, Try.sizeOf33⟩, ⟨rfl, Try.sizeOf3⟩, trivial⟩ rfl rfl rfl ?_; clear hC a; intro a hC
        refine L.box hC rfl rfl rfl rfl rfl rfl ?_; clear hC a; intro mb a w hF hC
        refine L.pu hC rfl rfl (fun _ => All.nil) rfl rfl ?_; clear hC a; intro a hC
        refine L.nil ?_
        refine hk10 _ _ ?_; clear hk10; try clear k10
        refine W.seqk fun k11 hk11 => ?_
        refine W.region ?_
        refine L.pu hC rfl rfl (fun _ => All.nil) rfl rfl ?_; clear hC a; intro a hC
        refine L.nil ?_
        refine hk11 _ _ ?_; clear hk11; try clear k11
        refine W.seqk fun k12 hk12 => ?_
        refine W.seqk fun k13 hk13 => ?_
        refine W.region ?_
        refine L.pu hC rfl rfl (fun _ => All.nil) rfl rfl ?_; clear hC a; intro a hC
        refine L.len hC rfl rfl rfl (fun _ => All.nil) (rd_form (hC.at m3)) Try.underlying34 rfl rfl ?_; clear hC a; intro a hC
        refine L.pu hC rfl rfl (fun _ => All.nil) rfl rfl ?_; clear hC a; intro a hC
        refine L.nil ?_
        refine hk13 _ _ ?_; clear hk13; try clear k13
        refine W.block ?_
        replace hC := hC.nilown (ty := 3) (E := intE)
        have hlen : ¬ (l.length : Int) > 512 := of_decide_eq_false h2
        replace hC := hC.subl (.cons_cons _ (.cons_cons _ (.cons_cons _ (.cons _ (.cons_cons _ .slnil)))))
        replace hC := hC.fr2
        replace hC := hC.fr3
        replace hC := hC.fr2
        replace hC := hC.fr3
        refine W.loop (fun (gst : Nat × Brk × Int × Value × List Int) a w' => match gst with | ⟨j, k, t, ov, outs⟩ => (j ≤ l.length) ∧ (outs.length = j) ∧ ((loopP k s (l.drop j)).1 = (loopP ⟨0, 0, 0, 0, 0⟩ s l).1) ∧ (outs ++ (loopP k s (l.drop j)).2 = (loopP ⟨0, 0, 0, 0, 0⟩ s l).2) ∧ Conf 57 Nob w0 [(41, (none, .int .i64 (j : Int))), (40, (none, .int .i64 (l.length : Int))), (39, (none, v)), (9, (none, ov)), (8, (none, .pointer (some ⟨mb, 0, none⟩))), (4, (none, .pointer (some ⟨rb, 0, none⟩)))] [blkR mb (mC k s t) 115, ownR ov 3 intE outs, rdR v actE l, blkR rb (bE ⟨0, 0, 0, 0, 0⟩) 36] a w') (fun (gst : Nat × Brk × Int × Value × List Int) => match gst with | ⟨j, k, t, ov, outs⟩ => l.length - j) (0, ⟨0, 0, 0, 0, 0⟩, 0, .slice none 0 0, []) ?_ ?_
        · exact ⟨Nat.zero_le _, rfl, rfl, rfl, hC.keep ⟨rfl, rfl, rfl, rfl, rfl, rfl, trivial⟩⟩
        · rintro ⟨j, k, t, ov, outs⟩ a w ⟨hj, hol, hk, ho, hC⟩
          refine W.seqk fun k14 hk14 => ?_
          refine W.region ?_
          refine L.pu hC rfl rfl (fun _ => All.nil) rfl rfl ?_; clear hC a; intro a hC
          refine L.nil ?_
          refine hk14 _ _ ?_; clear hk14; try clear k14
          refine W.seqk fun k15 hk15 => ?_
          refine W.cond hC rfl (fun h4 => ?_) (fun h4 => ?_)
          ·
            have h4 := of_decide_eq_true h4
            refine W.skip ?_
            refine hk15 _ _ ?_; clear hk15; try clear k15
            refine W.seqk fun k16 hk16 => ?_
            refine W.block ?_
            refine W.seqk fun k17 hk17 => ?_
            refine W.region ?_
            refine L.ixr hC rfl rfl rfl rfl m2 (fun _ => All.nil) (fun _ => All.nil) Try.underlying34 Try.sizeOf106 (fun _ => by omega) rfl rfl ?_; clear hC a; intro a hC
            refine L.ldxa hC rfl rfl rfl rfl (fun _ => All.nil) (fun hg => rd_bang hC m2 (by omega) _) Try.isAgg106 Try.sizeOf106 rfl rfl rfl rfl ?_; clear hC a; intro a hC
            refine L.alloc hC rfl rfl Try.zeroValue106 rfl rfl rfl ?_; clear hC a; intro ab a w hF hC
            refine L.st hC rfl rfl rfl rfl Try.sizeOf106 rfl rfl rfl rfl rfl ?_; clear hC a; intro a w hF hC
            refine L.nil ?_
            refine hk17 _ _ ?_; clear hk17; try clear k17
            refine W.region ?_
            refine L.pu hC rfl rfl (fun _ => All.nil) rfl rfl ?_; clear hC a; intro a hC
            refine L.pu hC rfl rfl (fun _ => All.nil) rfl rfl ?_; clear hC a; intro a hC
            refine L.lda hC rfl rfl rfl (fun _ => All.nil) m0 Try.isAgg106 Try.sizeOf106 rfl rfl rfl rfl ?_; clear hC a; intro a hC
            replace hC := hC.fr1
            refine L.callg [_] hC rfl rfl Try.call60 rfl (act_ok mb k s t l[j]! _ (hC.at m0)) (fun b h => ⟨_, m0, h⟩) rfl rfl ?_; clear hC a; intro _ a w hQ hC
            refine L.bsP hC rfl rfl rfl Try.underlying37 Try.infoI3 rfl rfl rfl rfl rfl rfl rfl ?_; clear hC a; intro b2 a w hF hC
            replace hC := hC.fr3
            refine L.app (xs := [(actB k s l[j]!).2]) hC rfl rfl rfl rfl ⟨_, _, rfl, lit_cells (hC.at m1) rfl⟩ Try.underlying37 Try.infoI3 rfl (by simp; omega) (by simp; omega) rfl rfl ?_; clear hC a; intro v3 a w hF hC
            refine L.pu hC rfl rfl (fun _ => All.nil) rfl rfl ?_; clear hC a; intro a hC
            refine L.nil ?_
            refine hk16 _ _ ?_; clear hk16; try clear k16
            refine W.region ?_
            refine L.pu hC rfl rfl (fun _ => All.nil) rfl rfl ?_; clear hC a; intro a hC
            refine L.pu hC rfl rfl (fun _ => All.nil) rfl rfl ?_; clear hC a; intro a hC
            refine L.nil ?_
            replace hC := hC.subl (.cons_cons _ (.cons _ (.cons_cons _ (.cons _ (.cons_cons _ (.cons_cons _ .slnil))))))
            replace hC := hC.fr3
            replace hC := hC.fr3
            replace hC := hC.fr2
            replace hC := hC.fr3
            exact ⟨(j + 1, (actB k s l[j]!).1, l[j]!.tick, v3, outs ++ [(actB k s l[j]!).2]), ⟨by omega, by rw [List.length_append, hol]; rfl, by rw [← hk, loopP_drop (l := l) (j := j) (by omega)], by rw [← ho, loopP_drop (l := l) (j := j) (by omega)]; simp, hC.keep ⟨geti rfl (w64 (by omega)), rfl, rfl, rfl, rfl, rfl, trivial⟩⟩, by first | omega | (dsimp only; omega)⟩
          ·
            have h4 := of_decide_eq_false h4
            refine W.exit ?_
            refine Kb.here ?_
            refine hk12 _ _ ?_; clear hk12; try clear k12
            refine W.seqk fun k18 hk18 => ?_
            refine W.region ?_
            refine L.pu hC rfl rfl (fun _ => All.nil) rfl rfl ?_; clear hC a; intro a hC
            refine L.pu hC rfl rfl (fun _ => All.nil) rfl rfl ?_; clear hC a; intro a hC
            refine L.fa hC rfl rfl rfl (fun _ => All.nil) Try.underlying115 rfl Try.sizeOf36 rfl rfl rfl ?_; clear hC a; intro a hC
            refine L.lda hC rfl rfl rfl (fun _ => All.nil) m0 Try.isAgg36 Try.sizeOf36 rfl rfl rfl rfl ?_; clear hC a; intro a hC
            refine L.pu hC rfl rfl (fun _ => All.nil) rfl rfl ?_; clear hC a; intro a hC
            replace hC := hC.fr3
            refine L.st hC rfl rfl rfl rfl Try.sizeOf36 rfl rfl rfl rfl rfl ?_; clear hC a; intro a w hF hC
            refine L.pu hC rfl rfl (fun _ => All.nil) rfl rfl ?_; clear hC a; intro a hC
            refine L.pu hC rfl rfl (fun _ => All.nil) rfl rfl ?_; clear hC a; intro a hC
            refine L.nil ?_
            refine hk18 _ _ ?_; clear hk18; try clear k18
            refine W.ret ?_
            refine retl hC rfl (.agg rfl m0 Try.isAgg36 Try.sizeOf36 rfl (.tmp rfl (.tmp rfl .nil))) rfl ?_
            replace hC := hC.subl (.cons _ (.cons _ (.cons_cons _ (.cons _ .slnil))))
            have e : runP s l = (k, outs, 0) := by
              unfold runP; rw [if_neg (nt h1), if_neg (nt h2), if_neg (nt h3)]
              rw [List.drop_of_length_le (by omega)] at hk ho
              simp only [loopP, List.append_nil] at hk ho
              rw [← hk, ← ho]
            exact ⟨_, by rw [e]; rfl, trivial, by rw [e]; exact hC.toPost (by simp [ownR])⟩

end Go.Proofs.E
