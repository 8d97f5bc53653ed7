/- The page's breaker. -/
import Derived.Test.YtgekiiildobfkaaB2
set_option linter.unusedVariables false
set_option linter.unusedSimpArgs false
namespace Go.Proofs.E
open Go.RowKit
theorem Mem.rd2' {α β : Type _} {v u : Value} {E : Enc α} {F : Enc β} {l : List α} {m : List β} {w : World} (h1 : (rdR v E l).ok w) (h2 : (rdR u F m).ok w) : Mem [rdR v E l, rdR u F m] w :=
  ⟨by simp [h1, h2], by simp [apart, rdR]⟩
theorem same_len {l m : List Int} (h : ((l.length : Int) != m.length) = false) : m.length = l.length := by
  have : (l.length : Int) = m.length := by simpa using h
  omega
theorem same_no {l m : List Int} (h : ((l.length : Int) != m.length) = true) : decide (l = m) = false := by
  rw [decide_eq_false_iff_not]; rintro rfl; simp at h
theorem same_no2 {l m : List Int} {j : Nat} (h : (l[j]! != m[j]!) = true) (h1 : j < l.length) (h2 : j < m.length) : decide (l = m) = false := by
  rw [decide_eq_false_iff_not]; rintro rfl; simp at h
theorem same_step {l m : List Int} {j : Nat} (he : l.take j = m.take j) (h1 : j < l.length) (h2 : j < m.length) (h : (l[j]! != m[j]!) = false) : l.take (j + 1) = m.take (j + 1) := by
  have h : l[j]! = m[j]! := by simpa only [bne_eq_false_iff_eq] using h
  rw [List.take_add_one, List.take_add_one, he, List.getElem?_eq_getElem h1, List.getElem?_eq_getElem h2]
  rw [bang h1, bang h2] at h
  rw [h]
theorem same_yes {l m : List Int} {j : Nat} (he : l.take j = m.take j) (h1 : ¬ j < l.length) (h2 : m.length = l.length) : decide (l = m) = true := by
  rw [List.take_of_length_le (by omega), List.take_of_length_le (by omega)] at he
  exact decide_eq_true he
theorem any_yes {α : Type _} {p : α → Bool} {l : List α} {x : α} (hx : x ∈ l) (h : p x = true) : l.any p = true := List.any_eq_true.2 ⟨x, hx, h⟩
theorem any_no {α : Type _} {p : α → Bool} {l : List α} (h : ∀ x ∈ l, p x = false) : l.any p = false := by
  rw [List.any_eq_false]; intro x hx; rw [h x hx]; decide
def setsR (s : BSet) : Bool := (((((decide (s.fails ≥ 1) && decide (s.fails ≤ 1000)) && decide (s.opn ≥ 1)) && decide (s.opn ≤ 1048576)) && decide (s.probes ≥ 1)) && decide (s.probes ≤ 64))
def chkR (k : Brk) (s : BSet) (t : Int) : Int :=
  if ((!setsR s || decide (t < 0)) || decide (t > 536870912)) = true then 4
  else if (((((((((decide (k.mode < 0) || decide (k.mode > 2)) || decide (k.fails < 0)) || decide (k.fails > 1000)) || decide (k.til < 0)) || decide (k.til > 1073741824)) || decide (k.probes < 0)) || decide (k.probes > 1000)) || decide (k.wins < 0)) || decide (k.wins > 1000)) = true then 9 else 0
def tickR (k : Brk) (s : BSet) (t : Int) : Brk × Int :=
  if (chkR k s t != 0) = true then (⟨0, 0, 0, 0, 0⟩, chkR k s t) else if (k.mode == 1 && decide (k.til ≤ t)) = true then ({ k with mode := 2, wins := 0 }, 0) else (k, 0)
def allowsR (k : Brk) (s : BSet) (t : Int) : Bool := chkR k s t == 0 && (k.mode == 0 || (k.mode == 2 && decide (k.probes < s.probes)))
def beginR (k : Brk) (s : BSet) (t : Int) : Brk × Bool × Int :=
  if (chkR k s t != 0) = true then (⟨0, 0, 0, 0, 0⟩, false, chkR k s t) else if (!allowsR k s t) = true then (⟨0, 0, 0, 0, 0⟩, false, 9)
  else if (k.mode == 2) = true then ({ k with probes := IntKind.i64.wrap (k.probes + 1) }, true, 0) else (k, false, 0)
def endRA (k : Brk) (s : BSet) (t : Int) (probe good : Bool) : Brk × Int :=
  if (k.mode == 0 && good) = true then ({ k with fails := 0 }, 0) else if (k.mode == 0) = true then
    (if decide (IntKind.i64.wrap (k.fails + 1) ≥ s.fails) = true then ({ k with mode := 1, til := IntKind.i64.wrap (t + s.opn), fails := 0 }, 0) else ({ k with fails := IntKind.i64.wrap (k.fails + 1) }, 0))
  else if ((k.mode == 2 && probe) && good) = true then
    (if decide (IntKind.i64.wrap (k.wins + 1) ≥ s.probes) = true then ({ k with mode := 0, fails := 0, wins := 0 }, 0) else ({ k with wins := IntKind.i64.wrap (k.wins + 1) }, 0))
  else if (k.mode == 2 && probe) = true then ({ k with mode := 1, til := IntKind.i64.wrap (t + s.opn), wins := 0 }, 0) else (k, 0)
def endRR (k : Brk) (s : BSet) (t : Int) (probe good : Bool) : Brk × Int :=
  if (chkR k s t != 0) = true then (⟨0, 0, 0, 0, 0⟩, chkR k s t) else if probe = true then endRA { k with probes := imax 0 (IntKind.i64.wrap (k.probes - 1)) } s t probe good else endRA k s t probe good
def badK (x : Act) : Bool := decide (x.what < 1) || decide (x.what > 3)
def badT : Int → List Act → Bool
  | _, [] => false
  | last, a :: l => if (decide (a.tick < last) || decide (a.tick > 536870912)) = true then true else badT a.tick l
theorem badT_step {last : Int} {l : List Act} {j : Nat} (hj : j < l.length) (h : (decide (l[j]!.tick < last) || decide (l[j]!.tick > 536870912)) = false) : badT last (l.drop j) = badT l[j]!.tick (l.drop (j + 1)) := by
  rw [List.drop_eq_getElem_cons hj, badT]
  rw [bang hj] at h ⊢
  rw [if_neg (nt h)]
theorem badT_here {last : Int} {l : List Act} {j : Nat} (hj : j < l.length) (h : (decide (l[j]!.tick < last) || decide (l[j]!.tick > 536870912)) = true) : badT last (l.drop j) = true := by
  rw [List.drop_eq_getElem_cons hj, badT]
  rw [bang hj] at h
  rw [if_pos h]
def actR (k : Brk) (s : BSet) (x : Act) : Brk × Int :=
  if (x.what == 1) = true then ((tickR k s x.tick).1, 0) else if (x.what == 2) = true then
    (if ((beginR k s x.tick).2.2 != 0) = true then (k, 2) else if (beginR k s x.tick).2.1 = true then ((beginR k s x.tick).1, 1) else (k, 0))
  else if (x.what == 3) = true then ((endRR k s x.tick x.probe x.good).1, 0) else (k, 0)
def loopR : Brk → BSet → List Act → Brk × List Int
  | k, _, [] => (k, [])
  | k, s, a :: l => ((loopR (actR k s a).1 s l).1, (actR k s a).2 :: (loopR (actR k s a).1 s l).2)
theorem loopR_drop {k : Brk} {s : BSet} {l : List Act} {j : Nat} (h : j < l.length) : loopR k s (l.drop j) = ((loopR (actR k s l[j]!).1 s (l.drop (j + 1))).1, (actR k s l[j]!).2 :: (loopR (actR k s l[j]!).1 s (l.drop (j + 1))).2) := by
  rw [List.drop_eq_getElem_cons h, loopR, bang h]
def runR (s : BSet) (l : List Act) : Brk × List Int × Int :=
  if l.any badK = true then (⟨0, 0, 0, 0, 0⟩, [], 23) else if decide ((l.length : Int) > 512) = true then (⟨0, 0, 0, 0, 0⟩, [], 3) else if badT 0 l = true then (⟨0, 0, 0, 0, 0⟩, [], 4) else if (!setsR s) = true then (⟨0, 0, 0, 0, 0⟩, [], 4)
  else ((loopR ⟨0, 0, 0, 0, 0⟩ s l).1, (loopR ⟨0, 0, 0, 0, 0⟩ s l).2, 0)
theorem setsR_ok (s : BSet) (w0 : World) : Calls Try.prog 61 #[.agg (sE s).toArray] w0 fun e w' => e = .returned (.bool (setsR s)) ∧ Frm Nob w0 w' := by
  refine enter (μ := []) (S := Nob) (vs := [.agg (sE s).toArray]) Try.func61 rfl Try.ntmps61 rfl (Mem.nil _) (by simp) (fun a hC => ?_)
  refine W.seqk fun k1 hk1 => ?_
  refine W.region ?_
  refine L.box hC rfl rfl rfl rfl rfl rfl ?_; clear hC a; intro b1 a w hF hC
  refine L.pu hC rfl rfl (fun _ => All.nil) rfl rfl ?_; clear hC a; intro a hC
  refine L.nil ?_
  refine hk1 _ _ ?_; clear hk1; try clear k1
  refine W.seqk fun k2 hk2 => ?_
  refine W.region ?_
  refine L.fa hC rfl rfl rfl (fun _ => All.nil) Try.underlying33 rfl Try.sizeOf3 rfl rfl rfl ?_; clear hC a; intro a hC
  refine L.ld hC rfl rfl rfl (fun _ => All.nil) m0 Try.isAgg3 rfl rfl rfl ?_; clear hC a; intro a hC
  refine L.pu hC rfl rfl (fun _ => All.nil) rfl rfl ?_; clear hC a; intro a hC
  refine L.pu hC rfl rfl (fun _ => All.nil) rfl rfl ?_; clear hC a; intro a hC
  refine L.fa hC rfl rfl rfl (fun _ => All.nil) Try.underlying33 rfl Try.sizeOf3 rfl rfl rfl ?_; clear hC a; intro a hC
  refine L.ld hC rfl rfl rfl (fun hg => by simp only [Gt, Bool.and_eq_true] at hg; simp only [All, List.cons_append, List.nil_append, List.append_nil, List.mem_cons, List.not_mem_nil, or_false, forall_eq_or_imp, forall_eq, Bool.and_eq_true, hg, Bool.not_false, Bool.not_true, and_self]) m0 Try.isAgg3 rfl rfl rfl ?_; clear hC a; intro a hC
  refine L.pu hC rfl rfl (fun hg => by simp only [Gt, Bool.and_eq_true] at hg; simp only [All, List.cons_append, List.nil_append, List.append_nil, List.mem_cons, List.not_mem_nil, or_false, forall_eq_or_imp, forall_eq, Bool.and_eq_true, hg, Bool.not_false, Bool.not_true, and_self]) rfl rfl ?_; clear hC a; intro a hC
  refine L.and hC rfl rfl rfl rfl (fun _ => All.nil) (fun _ hp => by simp only [All, List.cons_append, List.nil_append, List.append_nil, List.mem_cons, List.not_mem_nil, or_false, forall_eq_or_imp, forall_eq, Bool.and_eq_true, hp, Bool.not_false, Bool.not_true, and_self]) rfl rfl ?_; clear hC a; intro a hC
  refine L.pu hC rfl rfl (fun _ => All.nil) rfl rfl ?_; clear hC a; intro a hC
  refine L.fa hC rfl rfl rfl (fun _ => All.nil) Try.underlying33 rfl Try.sizeOf3 rfl rfl rfl ?_; clear hC a; intro a hC
  refine L.ld hC rfl rfl rfl (fun hg => by simp only [Gt, Bool.and_eq_true] at hg; simp only [All, List.cons_append, List.nil_append, List.append_nil, List.mem_cons, List.not_mem_nil, or_false, forall_eq_or_imp, forall_eq, Bool.and_eq_true, hg, Bool.not_false, Bool.not_true, and_self]) m0 Try.isAgg3 rfl rfl rfl ?_; clear hC a; intro a hC
  refine L.pu hC rfl rfl (fun hg => by simp only [Gt, Bool.and_eq_true] at hg; simp only [All, List.cons_append, List.nil_append, List.append_nil, List.mem_cons, List.not_mem_nil, or_false, forall_eq_or_imp, forall_eq, Bool.and_eq_true, hg, Bool.not_false, Bool.not_true, and_self]) rfl rfl ?_; clear hC a; intro a hC
  refine L.and hC rfl rfl rfl rfl (fun _ => All.nil) (fun _ hp => by simp only [All, List.cons_append, List.nil_append, List.append_nil, List.mem_cons, List.not_mem_nil, or_false, forall_eq_or_imp, forall_eq, Bool.and_eq_true, hp, Bool.not_false, Bool.not_true, and_self]) rfl rfl ?_; clear hC a; intro a hC
  refine L.pu hC rfl rfl (fun _ => All.nil) rfl rfl ?_; clear hC a; intro a hC
  refine L.fa hC rfl rfl rfl (fun _ => All.nil) Try.underlying33 rfl Try.sizeOf3 rfl rfl rfl ?_; clear hC a; intro a hC
  refine L.ld hC rfl rfl rfl (fun hg => by simp only [Gt, Bool.and_eq_true] at hg; simp only [All, List.cons_append, List.nil_append, List.append_nil, List.mem_cons, List.not_mem_nil, or_false, forall_eq_or_imp, forall_eq, Bool.and_eq_true, hg, Bool.not_false, Bool.not_true, and_self]) m0 Try.isAgg3 rfl rfl rfl ?_; clear hC a; intro a hC
  refine L.pu hC rfl rfl (fun hg => by simp only [Gt, Bool.and_eq_true] at hg; simp only [All, List.cons_append, List.nil_append, List.append_nil, List.mem_cons, List.not_mem_nil, or_false, forall_eq_or_imp, forall_eq, Bool.and_eq_true, hg, Bool.not_false, Bool.not_true, and_self]) rfl rfl ?_; clear hC a; intro a hC
  refine L.and hC rfl rfl rfl rfl (fun _ => All.nil) (fun _ hp => by simp only [All, List.cons_append, List.nil_append, List.append_nil, List.mem_cons, List.not_mem_nil, or_false, forall_eq_or_imp, forall_eq, Bool.and_eq_true, hp, Bool.not_false, Bool.not_true, and_self]) rfl rfl ?_; clear hC a; intro a hC
  refine L.pu hC rfl rfl (fun _ => All.nil) rfl rfl ?_; clear hC a; intro a hC
  refine L.fa hC rfl rfl rfl (fun _ => All.nil) Try.underlying33 rfl Try.sizeOf3 rfl rfl rfl ?_; clear hC a; intro a hC
  refine L.ld hC rfl rfl rfl (fun hg => by simp only [Gt, Bool.and_eq_true] at hg; simp only [All, List.cons_append, List.nil_append, List.append_nil, List.mem_cons, List.not_mem_nil, or_false, forall_eq_or_imp, forall_eq, Bool.and_eq_true, hg, Bool.not_false, Bool.not_true, and_self]) m0 Try.isAgg3 rfl rfl rfl ?_; clear hC a; intro a hC
  refine L.pu hC rfl rfl (fun hg => by simp only [Gt, Bool.and_eq_true] at hg; simp only [All, List.cons_append, List.nil_append, List.append_nil, List.mem_cons, List.not_mem_nil, or_false, forall_eq_or_imp, forall_eq, Bool.and_eq_true, hg, Bool.not_false, Bool.not_true, and_self]) rfl rfl ?_; clear hC a; intro a hC
  refine L.and hC rfl rfl rfl rfl (fun _ => All.nil) (fun _ hp => by simp only [All, List.cons_append, List.nil_append, List.append_nil, List.mem_cons, List.not_mem_nil, or_false, forall_eq_or_imp, forall_eq, Bool.and_eq_true, hp, Bool.not_false, Bool.not_true, and_self]) rfl rfl ?_; clear hC a; intro a hC
  refine L.pu hC rfl rfl (fun _ => All.nil) rfl rfl ?_; clear hC a; intro a hC
  refine L.fa hC rfl rfl rfl (fun _ => All.nil) Try.underlying33 rfl Try.sizeOf3 rfl rfl rfl ?_; clear hC a; intro a hC
  refine L.ld hC rfl rfl rfl (fun hg => by simp only [Gt, Bool.and_eq_true] at hg; simp only [All, List.cons_append, List.nil_append, List.append_nil, List.mem_cons, List.not_mem_nil, or_false, forall_eq_or_imp, forall_eq, Bool.and_eq_true, hg, Bool.not_false, Bool.not_true, and_self]) m0 Try.isAgg3 rfl rfl rfl ?_; clear hC a; intro a hC
  refine L.pu hC rfl rfl (fun hg => by simp only [Gt, Bool.and_eq_true] at hg; simp only [All, List.cons_append, List.nil_append, List.append_nil, List.mem_cons, List.not_mem_nil, or_false, forall_eq_or_imp, forall_eq, Bool.and_eq_true, hg, Bool.not_false, Bool.not_true, and_self]) rfl rfl ?_; clear hC a; intro a hC
  refine L.and hC rfl rfl rfl rfl (fun _ => All.nil) (fun _ hp => by simp only [All, List.cons_append, List.nil_append, List.append_nil, List.mem_cons, List.not_mem_nil, or_false, forall_eq_or_imp, forall_eq, Bool.and_eq_true, hp, Bool.not_false, Bool.not_true, and_self]) rfl rfl ?_; clear hC a; intro a hC
  refine L.pu hC rfl rfl (fun _ => All.nil) rfl rfl ?_; clear hC a; intro a hC
  refine L.nil ?_
  refine hk2 _ _ ?_; clear hk2; try clear k2
  refine W.ret ?_
  refine rets hC rfl (.tmp rfl .nil) ?_
  refine ⟨?_, hC.frm⟩
  rfl

theorem chkR_ok (k : Brk) (s : BSet) (t : Int) (w0 : World) : Calls Try.prog 110 #[.agg (bE k).toArray, .agg (sE s).toArray, .int .i64 t] w0 fun e w' => e = .returned (.int .i64 (chkR k s t)) ∧ Frm Nob w0 w' := by
  refine enter (μ := []) (S := Nob) (vs := [.agg (bE k).toArray, .agg (sE s).toArray, .int .i64 t]) Try.func110 rfl Try.ntmps110 rfl (Mem.nil _) (by simp) (fun a hC => ?_)
  refine W.seqk fun k1 hk1 => ?_
  refine W.region ?_
  refine L.box hC rfl rfl rfl rfl rfl rfl ?_; clear hC a; intro b1 a w hF hC
  refine L.box hC rfl rfl rfl rfl rfl rfl ?_; clear hC a; intro b2 a w hF hC
  refine L.pu hC rfl rfl (fun _ => All.nil) rfl rfl ?_; clear hC a; intro a hC
  refine L.nil ?_
  refine hk1 _ _ ?_; clear hk1; try clear k1
  refine W.seqk fun k2 hk2 => ?_
  refine W.block ?_
  refine W.seqk fun k3 hk3 => ?_
  refine W.region ?_
  refine L.lda hC rfl rfl rfl (fun _ => All.nil) m0 Try.isAgg33 Try.sizeOf33 rfl rfl rfl rfl ?_; clear hC a; intro a hC
  refine L.call hC rfl rfl Try.call61 rfl (fun _ => All.nil) (fun hg => setsR_ok _ _) rfl rfl ?_; clear hC a; intro a w hF hC
  refine L.pu hC rfl rfl (fun _ => All.nil) rfl rfl ?_; clear hC a; intro a hC
  refine L.pu hC rfl rfl (fun _ => All.nil) rfl rfl ?_; clear hC a; intro a hC
  refine L.pu hC rfl rfl (fun _ => All.nil) rfl rfl ?_; clear hC a; intro a hC
  refine L.pu hC rfl rfl (fun hg => by simp only [Gt, Bool.and_eq_true] at hg; simp only [All, List.cons_append, List.nil_append, List.append_nil, List.mem_cons, List.not_mem_nil, or_false, forall_eq_or_imp, forall_eq, Bool.and_eq_true, hg, Bool.not_false, Bool.not_true, and_self]) rfl rfl ?_; clear hC a; intro a hC
  refine L.or hC rfl rfl rfl rfl (fun _ => All.nil) (fun _ hp => by simp only [All, List.cons_append, List.nil_append, List.append_nil, List.mem_cons, List.not_mem_nil, or_false, forall_eq_or_imp, forall_eq, Bool.and_eq_true, hp, Bool.not_false, Bool.not_true, and_self]) rfl rfl ?_; clear hC a; intro a hC
  refine L.pu hC rfl rfl (fun _ => All.nil) rfl rfl ?_; clear hC a; intro a hC
  refine L.pu hC rfl rfl (fun _ => All.nil) rfl rfl ?_; clear hC a; intro a hC
  refine L.pu hC rfl rfl (fun hg => by simp only [Gt, Bool.and_eq_true] at hg; simp only [All, List.cons_append, List.nil_append, List.append_nil, List.mem_cons, List.not_mem_nil, or_false, forall_eq_or_imp, forall_eq, Bool.and_eq_true, hg, Bool.not_false, Bool.not_true, and_self]) rfl rfl ?_; clear hC a; intro a hC
  refine L.or hC rfl rfl rfl rfl (fun _ => All.nil) (fun _ hp => by simp only [All, List.cons_append, List.nil_append, List.append_nil, List.mem_cons, List.not_mem_nil, or_false, forall_eq_or_imp, forall_eq, Bool.and_eq_true, hp, Bool.not_false, Bool.not_true, and_self]) rfl rfl ?_; clear hC a; intro a hC
  refine L.pu hC rfl rfl (fun _ => All.nil) rfl rfl ?_; clear hC a; intro a hC
  refine L.nil ?_
  refine hk3 _ _ ?_; clear hk3; try clear k3
  refine W.cond hC rfl (fun h1 => ?_) (fun h1 => ?_)
  ·
    refine W.seqk fun k4 hk4 => ?_
    refine W.region ?_
    refine L.pu hC rfl rfl (fun _ => All.nil) rfl rfl ?_; clear hC a; intro a hC
    refine L.nil ?_
    refine hk4 _ _ ?_; clear hk4; try clear k4
    refine W.ret ?_
    refine rets hC rfl (.tmp rfl .nil) ?_
    exact ⟨ri (by unfold chkR; rw [if_pos h1]), hC.frm⟩
  ·
    refine W.seqk fun k5 hk5 => ?_
    refine W.region ?_
    refine L.fa hC rfl rfl rfl (fun _ => All.nil) Try.underlying36 rfl Try.sizeOf3 rfl rfl rfl ?_; clear hC a; intro a hC
    refine L.ld hC rfl rfl rfl (fun _ => All.nil) m1 Try.isAgg3 rfl rfl rfl ?_; clear hC a; intro a hC
    refine L.pu hC rfl rfl (fun _ => All.nil) rfl rfl ?_; clear hC a; intro a hC
    refine L.pu hC rfl rfl (fun _ => All.nil) rfl rfl ?_; clear hC a; intro a hC
    refine L.fa hC rfl rfl rfl (fun _ => All.nil) Try.underlying36 rfl Try.sizeOf3 rfl rfl rfl ?_; clear hC a; intro a hC
    refine L.ld hC rfl rfl rfl (fun hg => by simp only [Gt, Bool.and_eq_true] at hg; simp only [All, List.cons_append, List.nil_append, List.append_nil, List.mem_cons, List.not_mem_nil, or_false, forall_eq_or_imp, forall_eq, Bool.and_eq_true, hg, Bool.not_false, Bool.not_true, and_self]) m1 Try.isAgg3 rfl rfl rfl ?_; clear hC a; intro a hC
    refine L.pu hC rfl rfl (fun hg => by simp only [Gt, Bool.and_eq_true] at hg; simp only [All, List.cons_append, List.nil_append, List.append_nil, List.mem_cons, List.not_mem_nil, or_false, forall_eq_or_imp, forall_eq, Bool.and_eq_true, hg, Bool.not_false, Bool.not_true, and_self]) rfl rfl ?_; clear hC a; intro a hC
    refine L.or hC rfl rfl rfl rfl (fun _ => All.nil) (fun _ hp => by simp only [All, List.cons_append, List.nil_append, List.append_nil, List.mem_cons, List.not_mem_nil, or_false, forall_eq_or_imp, forall_eq, Bool.and_eq_true, hp, Bool.not_false, Bool.not_true, and_self]) rfl rfl ?_; clear hC a; intro a hC
    refine L.pu hC rfl rfl (fun _ => All.nil) rfl rfl ?_; clear hC a; intro a hC
    refine L.fa hC rfl rfl rfl (fun _ => All.nil) Try.underlying36 rfl Try.sizeOf3 rfl rfl rfl ?_; clear hC a; intro a hC
    refine L.ld hC rfl rfl rfl (fun hg => by simp only [Gt, Bool.and_eq_true] at hg; simp only [All, List.cons_append, List.nil_append, List.append_nil, List.mem_cons, List.not_mem_nil, or_false, forall_eq_or_imp, forall_eq, Bool.and_eq_true, hg, Bool.not_false, Bool.not_true, and_self]) m1 Try.isAgg3 rfl rfl rfl ?_; clear hC a; intro a hC
    refine L.pu hC rfl rfl (fun hg => by simp only [Gt, Bool.and_eq_true] at hg; simp only [All, List.cons_append, List.nil_append, List.append_nil, List.mem_cons, List.not_mem_nil, or_false, forall_eq_or_imp, forall_eq, Bool.and_eq_true, hg, Bool.not_false, Bool.not_true, and_self]) rfl rfl ?_; clear hC a; intro a hC
    refine L.or hC rfl rfl rfl rfl (fun _ => All.nil) (fun _ hp => by simp only [All, List.cons_append, List.nil_append, List.append_nil, List.mem_cons, List.not_mem_nil, or_false, forall_eq_or_imp, forall_eq, Bool.and_eq_true, hp, Bool.not_false, Bool.not_true, and_self]) rfl rfl ?_; clear hC a; intro a hC
    refine L.pu hC rfl rfl (fun _ => All.nil) rfl rfl ?_; clear hC a; intro a hC
    refine L.fa hC rfl rfl rfl (fun _ => All.nil) Try.underlying36 rfl Try.sizeOf3 rfl rfl rfl ?_; clear hC a; intro a hC
    refine L.ld hC rfl rfl rfl (fun hg => by simp only [Gt, Bool.and_eq_true] at hg; simp only [All, List.cons_append, List.nil_append, List.append_nil, List.mem_cons, List.not_mem_nil, or_false, forall_eq_or_imp, forall_eq, Bool.and_eq_true, hg, Bool.not_false, Bool.not_true, and_self]) m1 Try.isAgg3 rfl rfl rfl ?_; clear hC a; intro a hC
    refine L.pu hC rfl rfl (fun hg => by simp only [Gt, Bool.and_eq_true] at hg; simp only [All, List.cons_append, List.nil_append, List.append_nil, List.mem_cons, List.not_mem_nil, or_false, forall_eq_or_imp, forall_eq, Bool.and_eq_true, hg, Bool.not_false, Bool.not_true, and_self]) rfl rfl ?_; clear hC a; intro a hC
    refine L.or hC rfl rfl rfl rfl (fun _ => All.nil) (fun _ hp => by simp only [All, List.cons_append, List.nil_append, List.append_nil, List.mem_cons, List.not_mem_nil, or_false, forall_eq_or_imp, forall_eq, Bool.and_eq_true, hp, Bool.not_false, Bool.not_true, and_self]) rfl rfl ?_; clear hC a; intro a hC
    refine L.pu hC rfl rfl (fun _ => All.nil) rfl rfl ?_; clear hC a; intro a hC
    refine L.fa hC rfl rfl rfl (fun _ => All.nil) Try.underlying36 rfl Try.sizeOf3 rfl rfl rfl ?_; clear hC a; intro a hC
    refine L.ld hC rfl rfl rfl (fun hg => by simp only [Gt, Bool.and_eq_true] at hg; simp only [All, List.cons_append, List.nil_append, List.append_nil, List.mem_cons, List.not_mem_nil, or_false, forall_eq_or_imp, forall_eq, Bool.and_eq_true, hg, Bool.not_false, Bool.not_true, and_self]) m1 Try.isAgg3 rfl rfl rfl ?_; clear hC a; intro a hC
    refine L.pu hC rfl rfl (fun hg => by simp only [Gt, Bool.and_eq_true] at hg; simp only [All, List.cons_append, List.nil_append, List.append_nil, List.mem_cons, List.not_mem_nil, or_false, forall_eq_or_imp, forall_eq, Bool.and_eq_true, hg, Bool.not_false, Bool.not_true, and_self]) rfl rfl ?_; clear hC a; intro a hC
    refine L.or hC rfl rfl rfl rfl (fun _ => All.nil) (fun _ hp => by simp only [All, List.cons_append, List.nil_append, List.append_nil, List.mem_cons, List.not_mem_nil, or_false, forall_eq_or_imp, forall_eq, Bool.and_eq_true, hp, Bool.not_false, Bool.not_true, and_self]) rfl rfl ?_; clear hC a; intro a hC
    refine L.pu hC rfl rfl (fun _ => All.nil) rfl rfl ?_; clear hC a; intro a hC
    refine L.fa hC rfl rfl rfl (fun _ => All.nil) Try.underlying36 rfl Try.sizeOf3 rfl rfl rfl ?_; clear hC a; intro a hC
    refine L.ld hC rfl rfl rfl (fun hg => by simp only [Gt, Bool.and_eq_true] at hg; simp only [All, List.cons_append, List.nil_append, List.append_nil, List.mem_cons, List.not_mem_nil, or_false, forall_eq_or_imp, forall_eq, Bool.and_eq_true, hg, Bool.not_false, Bool.not_true, and_self]) m1 Try.isAgg3 rfl rfl rfl ?_; clear hC a; intro a hC
    refine L.pu hC rfl rfl (fun hg => by simp only [Gt, Bool.and_eq_true] at hg; simp only [All, List.cons_append, List.nil_append, List.append_nil, List.mem_cons, List.not_mem_nil, or_false, forall_eq_or_imp, forall_eq, Bool.and_eq_true, hg, Bool.not_false, Bool.not_true, and_self]) rfl rfl ?_; clear hC a; intro a hC
    refine L.or hC rfl rfl rfl rfl (fun _ => All.nil) (fun _ hp => by simp only [All, List.cons_append, List.nil_append, List.append_nil, List.mem_cons, List.not_mem_nil, or_false, forall_eq_or_imp, forall_eq, Bool.and_eq_true, hp, Bool.not_false, Bool.not_true, and_self]) rfl rfl ?_; clear hC a; intro a hC
    refine L.pu hC rfl rfl (fun _ => All.nil) rfl rfl ?_; clear hC a; intro a hC
    refine L.fa hC rfl rfl rfl (fun _ => All.nil) Try.underlying36 rfl Try.sizeOf3 rfl rfl rfl ?_; clear hC a; intro a hC
    refine L.ld hC rfl rfl rfl (fun hg => by simp only [Gt, Bool.and_eq_true] at hg; simp only [All, List.cons_append, List.nil_append, List.append_nil, List.mem_cons, List.not_mem_nil, or_false, forall_eq_or_imp, forall_eq, Bool.and_eq_true, hg, Bool.not_false, Bool.not_true, and_self]) m1 Try.isAgg3 rfl rfl rfl ?_; clear hC a; intro a hC
    refine L.pu hC rfl rfl (fun hg => by simp only [Gt, Bool.and_eq_true] at hg; simp only [All, List.cons_append, List.nil_append, List.append_nil, List.mem_cons, List.not_mem_nil, or_false, forall_eq_or_imp, forall_eq, Bool.and_eq_true, hg, Bool.not_false, Bool.not_true, and_self]) rfl rfl ?_; clear hC a; intro a hC
    refine L.or hC rfl rfl rfl rfl (fun _ => All.nil) (fun _ hp => by simp only [All, List.cons_append, List.nil_append, List.append_nil, List.mem_cons, List.not_mem_nil, or_false, forall_eq_or_imp, forall_eq, Bool.and_eq_true, hp, Bool.not_false, Bool.not_true, and_self]) rfl rfl ?_; clear hC a; intro a hC
    refine L.pu hC rfl rfl (fun _ => All.nil) rfl rfl ?_; clear hC a; intro a hC
    refine L.fa hC rfl rfl rfl (fun _ => All.nil) Try.underlying36 rfl Try.sizeOf3 rfl rfl rfl ?_; clear hC a; intro a hC
    refine L.ld hC rfl rfl rfl (fun hg => by simp only [Gt, Bool.and_eq_true] at hg; simp only [All, List.cons_append, List.nil_append, List.append_nil, List.mem_cons, List.not_mem_nil, or_false, forall_eq_or_imp, forall_eq, Bool.and_eq_true, hg, Bool.not_false, Bool.not_true, and_self]) m1 Try.isAgg3 rfl rfl rfl ?_; clear hC a; intro a hC
    refine L.pu hC rfl rfl (fun hg => by simp only [Gt, Bool.and_eq_true] at hg; simp only [All, List.cons_append, List.nil_append, List.append_nil, List.mem_cons, List.not_mem_nil, or_false, forall_eq_or_imp, forall_eq, Bool.and_eq_true, hg, Bool.not_false, Bool.not_true, and_self]) rfl rfl ?_; clear hC a; intro a hC
    refine L.or hC rfl rfl rfl rfl (fun _ => All.nil) (fun _ hp => by simp only [All, List.cons_append, List.nil_append, List.append_nil, List.mem_cons, List.not_mem_nil, or_false, forall_eq_or_imp, forall_eq, Bool.and_eq_true, hp, Bool.not_false, Bool.not_true, and_self]) rfl rfl ?_; clear hC a; intro a hC
    refine L.pu hC rfl rfl (fun _ => All.nil) rfl rfl ?_; clear hC a; intro a hC
    refine L.fa hC rfl rfl rfl (fun _ => All.nil) Try.underlying36 rfl Try.sizeOf3 rfl rfl rfl ?_; clear hC a; intro a hC
    refine L.ld hC rfl rfl rfl (fun hg => by simp only [Gt, Bool.and_eq_true] at hg; simp only [All, List.cons_append, List.nil_append, List.append_nil, List.mem_cons, List.not_mem_nil, or_false, forall_eq_or_imp, forall_eq, Bool.and_eq_true, hg, Bool.not_false, Bool.not_true, and_self]) m1 Try.isAgg3 rfl rfl rfl ?_; clear hC a; intro a hC
    refine L.pu hC rfl rfl (fun hg => by simp only [Gt, Bool.and_eq_true] at hg; simp only [All, List.cons_append, List.nil_append, List.append_nil, List.mem_cons, List.not_mem_nil, or_false, forall_eq_or_imp, forall_eq, Bool.and_eq_true, hg, Bool.not_false, Bool.not_true, and_self]) rfl rfl ?_; clear hC a; intro a hC
    refine L.or hC rfl rfl rfl rfl (fun _ => All.nil) (fun _ hp => by simp only [All, List.cons_append, List.nil_append, List.append_nil, List.mem_cons, List.not_mem_nil, or_false, forall_eq_or_imp, forall_eq, Bool.and_eq_true, hp, Bool.not_false, Bool.not_true, and_self]) rfl rfl ?_; clear hC a; intro a hC
    refine L.pu hC rfl rfl (fun _ => All.nil) rfl rfl ?_; clear hC a; intro a hC
    refine L.fa hC rfl rfl rfl (fun _ => All.nil) Try.underlying36 rfl Try.sizeOf3 rfl rfl rfl ?_; clear hC a; intro a hC
    refine L.ld hC rfl rfl rfl (fun hg => by simp only [Gt, Bool.and_eq_true] at hg; simp only [All, List.cons_append, List.nil_append, List.append_nil, List.mem_cons, List.not_mem_nil, or_false, forall_eq_or_imp, forall_eq, Bool.and_eq_true, hg, Bool.not_false, Bool.not_true, and_self]) m1 Try.isAgg3 rfl rfl rfl ?_; clear hC a; intro a hC
    refine L.pu hC rfl rfl (fun hg => by simp only [Gt, Bool.and_eq_true] at hg; simp only [All, List.cons_append, List.nil_append, List.append_nil, List.mem_cons, List.not_mem_nil, or_false, forall_eq_or_imp, forall_eq, Bool.and_eq_true, hg, Bool.not_false, Bool.not_true, and_self]) rfl rfl ?_; clear hC a; intro a hC
    refine L.or hC rfl rfl rfl rfl (fun _ => All.nil) (fun _ hp => by simp only [All, List.cons_append, List.nil_append, List.append_nil, List.mem_cons, List.not_mem_nil, or_false, forall_eq_or_imp, forall_eq, Bool.and_eq_true, hp, Bool.not_false, Bool.not_true, and_self]) rfl rfl ?_; clear hC a; intro a hC
    refine L.pu hC rfl rfl (fun _ => All.nil) rfl rfl ?_; clear hC a; intro a hC
    refine L.nil ?_
    refine hk5 _ _ ?_; clear hk5; try clear k5
    refine W.cond hC rfl (fun h2 => ?_) (fun h2 => ?_)
    ·
      refine W.seqk fun k6 hk6 => ?_
      refine W.region ?_
      refine L.pu hC rfl rfl (fun _ => All.nil) rfl rfl ?_; clear hC a; intro a hC
      refine L.nil ?_
      refine hk6 _ _ ?_; clear hk6; try clear k6
      refine W.ret ?_
      refine rets hC rfl (.tmp rfl .nil) ?_
      exact ⟨ri (by unfold chkR; rw [if_neg (nt h1), if_pos h2]), hC.frm⟩
    ·
      refine W.skip ?_
      refine hk2 _ _ ?_; clear hk2; try clear k2
      refine W.seqk fun k7 hk7 => ?_
      refine W.region ?_
      refine L.pu hC rfl rfl (fun _ => All.nil) rfl rfl ?_; clear hC a; intro a hC
      refine L.nil ?_
      refine hk7 _ _ ?_; clear hk7; try clear k7
      refine W.ret ?_
      refine rets hC rfl (.tmp rfl .nil) ?_
      exact ⟨ri (by unfold chkR; rw [if_neg (nt h1), if_neg (nt h2)]), hC.frm⟩

theorem tickR_ok (k : Brk) (s : BSet) (t : Int) (w0 : World) : Calls Try.prog 62 #[.agg (bE k).toArray, .agg (sE s).toArray, .int .i64 t] w0 fun e w' => e = .returned (.tuple #[.agg (bE (tickR k s t).1).toArray, .int .i64 (tickR k s t).2]) ∧ Frm Nob w0 w' := by
  refine enter (μ := []) (S := Nob) (vs := [.agg (bE k).toArray, .agg (sE s).toArray, .int .i64 t]) Try.func62 rfl Try.ntmps62 rfl (Mem.nil _) (by simp) (fun a hC => ?_)
  refine W.seqk fun k1 hk1 => ?_
  refine W.region ?_
  refine L.box hC rfl rfl rfl rfl rfl rfl ?_; clear hC a; intro b1 a w hF hC
  refine L.box hC rfl rfl rfl rfl rfl rfl ?_; clear hC a; intro b2 a w hF hC
  refine L.alloc hC rfl rfl Try.zeroValue36 rfl rfl rfl ?_; clear hC a; intro b3 a w hF hC
  refine L.pu hC rfl rfl (fun _ => All.nil) rfl rfl ?_; clear hC a; intro a hC
  refine L.nil ?_
  refine hk1 _ _ ?_; clear hk1; try clear k1
  refine W.seqk fun k2 hk2 => ?_
  refine W.region ?_
  refine L.lda hC rfl rfl rfl (fun _ => All.nil) m2 Try.isAgg36 Try.sizeOf36 rfl rfl rfl rfl ?_; clear hC a; intro a hC
  refine L.lda hC rfl rfl rfl (fun _ => All.nil) m1 Try.isAgg33 Try.sizeOf33 rfl rfl rfl rfl ?_; clear hC a; intro a hC
  refine L.pu hC rfl rfl (fun _ => All.nil) rfl rfl ?_; clear hC a; intro a hC
  refine L.call hC rfl rfl Try.call110 rfl (fun _ => All.nil) (fun hg => chkR_ok _ _ _ _) rfl rfl ?_; clear hC a; intro a w hF hC
  refine L.pu hC rfl rfl (fun _ => All.nil) rfl rfl ?_; clear hC a; intro a hC
  refine L.nil ?_
  refine hk2 _ _ ?_; clear hk2; try clear k2
  refine W.seqk fun k3 hk3 => ?_
  refine W.seqk fun k4 hk4 => ?_
  refine W.region ?_
  refine L.pu hC rfl rfl (fun _ => All.nil) rfl rfl ?_; clear hC a; intro a hC
  refine L.pu hC rfl rfl (fun _ => All.nil) rfl rfl ?_; clear hC a; intro a hC
  refine L.nil ?_
  refine hk4 _ _ ?_; clear hk4; try clear k4
  refine W.cond hC rfl (fun h1 => ?_) (fun h1 => ?_)
  ·
    refine W.seqk fun k5 hk5 => ?_
    refine W.region ?_
    refine L.buildS (ps := [(0, 1), (1, 1), (2, 1), (3, 1), (4, 1)]) hC rfl rfl rfl (fun _ => All.nil) Try.zeroValue36 Try.underlying36 ⟨⟨rfl, Try.sizeOf3⟩, ⟨rfl, Try.sizeOf3⟩, ⟨rfl, Try.sizeOf3⟩, ⟨rfl, Try.sizeOf3⟩, ⟨rfl, Try.sizeOf3⟩, trivial⟩ rfl rfl rfl ?_; clear hC a; intro a hC
    refine L.pu hC rfl rfl (fun _ => All.nil) rfl rfl ?_; clear hC a; intro a hC
    refine L.st hC rfl rfl rfl rfl Try.sizeOf36 rfl rfl rfl rfl rfl ?_; clear hC a; intro a w hF hC
    refine L.pu hC rfl rfl (fun _ => All.nil) rfl rfl ?_; clear hC a; intro a hC
    refine L.nil ?_
    refine hk5 _ _ ?_; clear hk5; try clear k5
    refine W.ret ?_
    refine retl hC rfl (.agg rfl m0 Try.isAgg36 Try.sizeOf36 rfl (.tmp rfl .nil)) rfl ?_
    exact ⟨by unfold tickR; rw [if_pos h1]; rfl, hC.frm⟩
  ·
    refine W.skip ?_
    refine hk3 _ _ ?_; clear hk3; try clear k3
    refine W.seqk fun k6 hk6 => ?_
    refine W.seqk fun k7 hk7 => ?_
    refine W.region ?_
    refine L.fa hC rfl rfl rfl (fun _ => All.nil) Try.underlying36 rfl Try.sizeOf3 rfl rfl rfl ?_; clear hC a; intro a hC
    refine L.ld hC rfl rfl rfl (fun _ => All.nil) m2 Try.isAgg3 rfl rfl rfl ?_; clear hC a; intro a hC
    refine L.pu hC rfl rfl (fun _ => All.nil) rfl rfl ?_; clear hC a; intro a hC
    refine L.pu hC rfl rfl (fun _ => All.nil) rfl rfl ?_; clear hC a; intro a hC
    refine L.fa hC rfl rfl rfl (fun _ => All.nil) Try.underlying36 rfl Try.sizeOf3 rfl rfl rfl ?_; clear hC a; intro a hC
    refine L.ld hC rfl rfl rfl (fun hg => by simp only [Gt, Bool.and_eq_true] at hg; simp only [All, List.cons_append, List.nil_append, List.append_nil, List.mem_cons, List.not_mem_nil, or_false, forall_eq_or_imp, forall_eq, Bool.and_eq_true, hg, Bool.not_false, Bool.not_true, and_self]) m2 Try.isAgg3 rfl rfl rfl ?_; clear hC a; intro a hC
    refine L.pu hC rfl rfl (fun _ => All.nil) rfl rfl ?_; clear hC a; intro a hC
    refine L.pu hC rfl rfl (fun hg => by simp only [Gt, Bool.and_eq_true] at hg; simp only [All, List.cons_append, List.nil_append, List.append_nil, List.mem_cons, List.not_mem_nil, or_false, forall_eq_or_imp, forall_eq, Bool.and_eq_true, hg, Bool.not_false, Bool.not_true, and_self]) rfl rfl ?_; clear hC a; intro a hC
    refine L.and hC rfl rfl rfl rfl (fun _ => All.nil) (fun _ hp => by simp only [All, List.cons_append, List.nil_append, List.append_nil, List.mem_cons, List.not_mem_nil, or_false, forall_eq_or_imp, forall_eq, Bool.and_eq_true, hp, Bool.not_false, Bool.not_true, and_self]) rfl rfl ?_; clear hC a; intro a hC
    refine L.nil ?_
    refine hk7 _ _ ?_; clear hk7; try clear k7
    refine W.cond hC rfl (fun h2 => ?_) (fun h2 => ?_)
    ·
      refine W.region ?_
      refine L.fa hC rfl rfl rfl (fun _ => All.nil) Try.underlying36 rfl Try.sizeOf3 rfl rfl rfl ?_; clear hC a; intro a hC
      replace hC := hC.fr2
      refine L.st hC rfl rfl rfl rfl Try.sizeOf3 rfl rfl rfl rfl rfl ?_; clear hC a; intro a w hF hC
      refine L.fa hC rfl rfl rfl (fun _ => All.nil) Try.underlying36 rfl Try.sizeOf3 rfl rfl rfl ?_; clear hC a; intro a hC
      refine L.st hC rfl rfl rfl rfl Try.sizeOf3 rfl rfl rfl rfl rfl ?_; clear hC a; intro a w hF hC
      refine L.nil ?_
      refine hk6 _ _ ?_; clear hk6; try clear k6
      refine W.seqk fun k8 hk8 => ?_
      refine W.region ?_
      refine L.lda hC rfl rfl rfl (fun _ => All.nil) m0 Try.isAgg36 Try.sizeOf36 rfl rfl rfl rfl ?_; clear hC a; intro a hC
      replace hC := hC.fr1
      refine L.st hC rfl rfl rfl rfl Try.sizeOf36 rfl rfl rfl rfl rfl ?_; clear hC a; intro a w hF hC
      refine L.pu hC rfl rfl (fun _ => All.nil) rfl rfl ?_; clear hC a; intro a hC
      refine L.nil ?_
      refine hk8 _ _ ?_; clear hk8; try clear k8
      refine W.ret ?_
      refine retl hC rfl (.agg rfl m0 Try.isAgg36 Try.sizeOf36 rfl (.tmp rfl .nil)) rfl ?_
      exact ⟨by unfold tickR; rw [if_neg (nt h1), if_pos h2]; rfl, hC.frm⟩
    ·
      refine W.skip ?_
      refine hk6 _ _ ?_; clear hk6; try clear k6
      refine W.seqk fun k9 hk9 => ?_
      refine W.region ?_
      refine L.lda hC rfl rfl rfl (fun _ => All.nil) m2 Try.isAgg36 Try.sizeOf36 rfl rfl rfl rfl ?_; clear hC a; intro a hC
      refine L.st hC rfl rfl rfl rfl Try.sizeOf36 rfl rfl rfl rfl rfl ?_; clear hC a; intro a w hF hC
      refine L.pu hC rfl rfl (fun _ => All.nil) rfl rfl ?_; clear hC a; intro a hC
      refine L.nil ?_
      refine hk9 _ _ ?_; clear hk9; try clear k9
      refine W.ret ?_
      refine retl hC rfl (.agg rfl m0 Try.isAgg36 Try.sizeOf36 rfl (.tmp rfl .nil)) rfl ?_
      exact ⟨by unfold tickR; rw [if_neg (nt h1), if_neg (nt h2)]; rfl, hC.frm⟩

theorem allowsR_ok (k : Brk) (s : BSet) (t : Int) (w0 : World) : Calls Try.prog 111 #[.agg (bE k).toArray, .agg (sE s).toArray, .int .i64 t] w0 fun e w' => e = .returned (.tuple #[.bool (allowsR k s t), .int .i64 (chkR k s t)]) ∧ Frm Nob w0 w' := by
  refine enter (μ := []) (S := Nob) (vs := [.agg (bE k).toArray, .agg (sE s).toArray, .int .i64 t]) Try.func111 rfl Try.ntmps111 rfl (Mem.nil _) (by simp) (fun a hC => ?_)
  refine W.seqk fun k1 hk1 => ?_
  refine W.region ?_
  refine L.box hC rfl rfl rfl rfl rfl rfl ?_; clear hC a; intro b1 a w hF hC
  refine L.box hC rfl rfl rfl rfl rfl rfl ?_; clear hC a; intro b2 a w hF hC
  refine L.pu hC rfl rfl (fun _ => All.nil) rfl rfl ?_; clear hC a; intro a hC
  refine L.pu hC rfl rfl (fun _ => All.nil) rfl rfl ?_; clear hC a; intro a hC
  refine L.nil ?_
  refine hk1 _ _ ?_; clear hk1; try clear k1
  refine W.seqk fun k2 hk2 => ?_
  refine W.region ?_
  refine L.lda hC rfl rfl rfl (fun _ => All.nil) m1 Try.isAgg36 Try.sizeOf36 rfl rfl rfl rfl ?_; clear hC a; intro a hC
  refine L.lda hC rfl rfl rfl (fun _ => All.nil) m0 Try.isAgg33 Try.sizeOf33 rfl rfl rfl rfl ?_; clear hC a; intro a hC
  refine L.pu hC rfl rfl (fun _ => All.nil) rfl rfl ?_; clear hC a; intro a hC
  refine L.call hC rfl rfl Try.call110 rfl (fun _ => All.nil) (fun hg => chkR_ok _ _ _ _) rfl rfl ?_; clear hC a; intro a w hF hC
  refine L.pu hC rfl rfl (fun _ => All.nil) rfl rfl ?_; clear hC a; intro a hC
  refine L.nil ?_
  refine hk2 _ _ ?_; clear hk2; try clear k2
  refine W.seqk fun k3 hk3 => ?_
  refine W.region ?_
  refine L.pu hC rfl rfl (fun _ => All.nil) rfl rfl ?_; clear hC a; intro a hC
  refine L.pu hC rfl rfl (fun _ => All.nil) rfl rfl ?_; clear hC a; intro a hC
  refine L.pu hC rfl rfl (fun _ => All.nil) rfl rfl ?_; clear hC a; intro a hC
  refine L.fa hC rfl rfl rfl (fun _ => All.nil) Try.underlying36 rfl Try.sizeOf3 rfl rfl rfl ?_; clear hC a; intro a hC
  refine L.ld hC rfl rfl rfl (fun hg => by simp only [Gt, Bool.and_eq_true] at hg; simp only [All, List.cons_append, List.nil_append, List.append_nil, List.mem_cons, List.not_mem_nil, or_false, forall_eq_or_imp, forall_eq, Bool.and_eq_true, hg, Bool.not_false, Bool.not_true, and_self]) m1 Try.isAgg3 rfl rfl rfl ?_; clear hC a; intro a hC
  refine L.pu hC rfl rfl (fun hg => by simp only [Gt, Bool.and_eq_true] at hg; simp only [All, List.cons_append, List.nil_append, List.append_nil, List.mem_cons, List.not_mem_nil, or_false, forall_eq_or_imp, forall_eq, Bool.and_eq_true, hg, Bool.not_false, Bool.not_true, and_self]) rfl rfl ?_; clear hC a; intro a hC
  refine L.pu hC rfl rfl (fun hg => by simp only [Gt, Bool.and_eq_true] at hg; simp only [All, List.cons_append, List.nil_append, List.append_nil, List.mem_cons, List.not_mem_nil, or_false, forall_eq_or_imp, forall_eq, Bool.and_eq_true, hg, Bool.not_false, Bool.not_true, and_self]) rfl rfl ?_; clear hC a; intro a hC
  refine L.fa hC rfl rfl rfl (fun _ => All.nil) Try.underlying36 rfl Try.sizeOf3 rfl rfl rfl ?_; clear hC a; intro a hC
  refine L.ld hC rfl rfl rfl (fun hg => by simp only [Gt, Bool.and_eq_true] at hg; simp only [All, List.cons_append, List.nil_append, List.append_nil, List.mem_cons, List.not_mem_nil, or_false, forall_eq_or_imp, forall_eq, Bool.and_eq_true, hg, Bool.not_false, Bool.not_true, and_self]) m1 Try.isAgg3 rfl rfl rfl ?_; clear hC a; intro a hC
  refine L.pu hC rfl rfl (fun hg => by simp only [Gt, Bool.and_eq_true] at hg; simp only [All, List.cons_append, List.nil_append, List.append_nil, List.mem_cons, List.not_mem_nil, or_false, forall_eq_or_imp, forall_eq, Bool.and_eq_true, hg, Bool.not_false, Bool.not_true, and_self]) rfl rfl ?_; clear hC a; intro a hC
  refine L.pu hC rfl rfl (fun hg => by simp only [Gt, Bool.and_eq_true] at hg; simp only [All, List.cons_append, List.nil_append, List.append_nil, List.mem_cons, List.not_mem_nil, or_false, forall_eq_or_imp, forall_eq, Bool.and_eq_true, hg, Bool.not_false, Bool.not_true, and_self]) rfl rfl ?_; clear hC a; intro a hC
  refine L.fa hC rfl rfl rfl (fun _ => All.nil) Try.underlying36 rfl Try.sizeOf3 rfl rfl rfl ?_; clear hC a; intro a hC
  refine L.ld hC rfl rfl rfl (fun hg => by simp only [Gt, Bool.and_eq_true] at hg; simp only [All, List.cons_append, List.nil_append, List.append_nil, List.mem_cons, List.not_mem_nil, or_false, forall_eq_or_imp, forall_eq, Bool.and_eq_true, hg, Bool.not_false, Bool.not_true, and_self]) m1 Try.isAgg3 rfl rfl rfl ?_; clear hC a; intro a hC
  refine L.fa hC rfl rfl rfl (fun _ => All.nil) Try.underlying33 rfl Try.sizeOf3 rfl rfl rfl ?_; clear hC a; intro a hC
  refine L.ld hC rfl rfl rfl (fun hg => by simp only [Gt, Bool.and_eq_true] at hg; simp only [All, List.cons_append, List.nil_append, List.append_nil, List.mem_cons, List.not_mem_nil, or_false, forall_eq_or_imp, forall_eq, Bool.and_eq_true, hg, Bool.not_false, Bool.not_true, and_self]) m0 Try.isAgg3 rfl rfl rfl ?_; clear hC a; intro a hC
  refine L.pu hC rfl rfl (fun hg => by simp only [Gt, Bool.and_eq_true] at hg; simp only [All, List.cons_append, List.nil_append, List.append_nil, List.mem_cons, List.not_mem_nil, or_false, forall_eq_or_imp, forall_eq, Bool.and_eq_true, hg, Bool.not_false, Bool.not_true, and_self]) rfl rfl ?_; clear hC a; intro a hC
  refine L.and hC rfl rfl rfl rfl (fun hg => by simp only [Gt, Bool.and_eq_true] at hg; simp only [All, List.cons_append, List.nil_append, List.append_nil, List.mem_cons, List.not_mem_nil, or_false, forall_eq_or_imp, forall_eq, Bool.and_eq_true, hg, Bool.not_false, Bool.not_true, and_self]) (fun hg hp => by simp only [Gt, Bool.and_eq_true] at hg; simp only [All, List.cons_append, List.nil_append, List.append_nil, List.mem_cons, List.not_mem_nil, or_false, forall_eq_or_imp, forall_eq, Bool.and_eq_true, hg, hp, Bool.not_false, Bool.not_true, and_self]) rfl rfl ?_; clear hC a; intro a hC
  refine L.or hC rfl rfl rfl rfl (fun hg => by simp only [Gt, Bool.and_eq_true] at hg; simp only [All, List.cons_append, List.nil_append, List.append_nil, List.mem_cons, List.not_mem_nil, or_false, forall_eq_or_imp, forall_eq, Bool.and_eq_true, hg, Bool.not_false, Bool.not_true, and_self]) (fun hg hp => by simp only [Gt, Bool.and_eq_true] at hg; simp only [All, List.cons_append, List.nil_append, List.append_nil, List.mem_cons, List.not_mem_nil, or_false, forall_eq_or_imp, forall_eq, Bool.and_eq_true, hg, hp, Bool.not_false, Bool.not_true, and_self]) rfl rfl ?_; clear hC a; intro a hC
  refine L.and hC rfl rfl rfl rfl (fun _ => All.nil) (fun _ hp => by simp only [All, List.cons_append, List.nil_append, List.append_nil, List.mem_cons, List.not_mem_nil, or_false, forall_eq_or_imp, forall_eq, Bool.and_eq_true, hp, Bool.not_false, Bool.not_true, and_self]) rfl rfl ?_; clear hC a; intro a hC
  refine L.pu hC rfl rfl (fun _ => All.nil) rfl rfl ?_; clear hC a; intro a hC
  refine L.pu hC rfl rfl (fun _ => All.nil) rfl rfl ?_; clear hC a; intro a hC
  refine L.pu hC rfl rfl (fun _ => All.nil) rfl rfl ?_; clear hC a; intro a hC
  refine L.nil ?_
  refine hk3 _ _ ?_; clear hk3; try clear k3
  refine W.ret ?_
  refine retl hC rfl (.tmp rfl (.tmp rfl .nil)) rfl ?_
  refine ⟨?_, hC.frm⟩
  rfl

theorem beginR_ok (k : Brk) (s : BSet) (t : Int) (w0 : World) : Calls Try.prog 63 #[.agg (bE k).toArray, .agg (sE s).toArray, .int .i64 t] w0 fun e w' => e = .returned (.tuple #[.agg (bE (beginR k s t).1).toArray, .bool (beginR k s t).2.1, .int .i64 (beginR k s t).2.2]) ∧ Frm Nob w0 w' := by
  refine enter (μ := []) (S := Nob) (vs := [.agg (bE k).toArray, .agg (sE s).toArray, .int .i64 t]) Try.func63 rfl Try.ntmps63 rfl (Mem.nil _) (by simp) (fun a hC => ?_)
  refine W.seqk fun k1 hk1 => ?_
  refine W.region ?_
  refine L.box hC rfl rfl rfl rfl rfl rfl ?_; clear hC a; intro b1 a w hF hC
  refine L.box hC rfl rfl rfl rfl rfl rfl ?_; clear hC a; intro b2 a w hF hC
  refine L.alloc hC rfl rfl Try.zeroValue36 rfl rfl rfl ?_; clear hC a; intro b3 a w hF hC
  refine L.pu hC rfl rfl (fun _ => All.nil) rfl rfl ?_; clear hC a; intro a hC
  refine L.pu hC rfl rfl (fun _ => All.nil) rfl rfl ?_; clear hC a; intro a hC
  refine L.nil ?_
  refine hk1 _ _ ?_; clear hk1; try clear k1
  refine W.seqk fun k2 hk2 => ?_
  refine W.region ?_
  refine L.lda hC rfl rfl rfl (fun _ => All.nil) m2 Try.isAgg36 Try.sizeOf36 rfl rfl rfl rfl ?_; clear hC a; intro a hC
  refine L.lda hC rfl rfl rfl (fun _ => All.nil) m1 Try.isAgg33 Try.sizeOf33 rfl rfl rfl rfl ?_; clear hC a; intro a hC
  refine L.pu hC rfl rfl (fun _ => All.nil) rfl rfl ?_; clear hC a; intro a hC
  refine L.call hC rfl rfl Try.call111 rfl (fun _ => All.nil) (fun hg => allowsR_ok _ _ _ _) rfl rfl ?_; clear hC a; intro a w hF hC
  refine L.pu hC rfl rfl (fun _ => All.nil) rfl rfl ?_; clear hC a; intro a hC
  refine L.pu hC rfl rfl (fun _ => All.nil) rfl rfl ?_; clear hC a; intro a hC
  refine L.pu hC rfl rfl (fun _ => All.nil) rfl rfl ?_; clear hC a; intro a hC
  refine L.pu hC rfl rfl (fun _ => All.nil) rfl rfl ?_; clear hC a; intro a hC
  refine L.pu hC rfl rfl (fun _ => All.nil) rfl rfl ?_; clear hC a; intro a hC
  refine L.nil ?_
  refine hk2 _ _ ?_; clear hk2; try clear k2
  refine W.seqk fun k3 hk3 => ?_
  refine W.block ?_
  refine W.seqk fun k4 hk4 => ?_
  refine W.region ?_
  refine L.pu hC rfl rfl (fun _ => All.nil) rfl rfl ?_; clear hC a; intro a hC
  refine L.pu hC rfl rfl (fun _ => All.nil) rfl rfl ?_; clear hC a; intro a hC
  refine L.pu hC rfl rfl (fun _ => All.nil) rfl rfl ?_; clear hC a; intro a hC
  refine L.nil ?_
  refine hk4 _ _ ?_; clear hk4; try clear k4
  refine W.cond hC rfl (fun h1 => ?_) (fun h1 => ?_)
  ·
    refine W.seqk fun k5 hk5 => ?_
    refine W.region ?_
    refine L.buildS (ps := [(0, 1), (1, 1), (2, 1), (3, 1), (4, 1)]) hC rfl rfl rfl (fun _ => All.nil) Try.zeroValue36 Try.underlying36 ⟨⟨rfl, Try.sizeOf3⟩, ⟨rfl, Try.sizeOf3⟩, ⟨rfl, Try.sizeOf3⟩, ⟨rfl, Try.sizeOf3⟩, ⟨rfl, Try.sizeOf3⟩, trivial⟩ rfl rfl rfl ?_; clear hC a; intro a hC
    refine L.pu hC rfl rfl (fun _ => All.nil) rfl rfl ?_; clear hC a; intro a hC
    refine L.st hC rfl rfl rfl rfl Try.sizeOf36 rfl rfl rfl rfl rfl ?_; clear hC a; intro a w hF hC
    refine L.pu hC rfl rfl (fun _ => All.nil) rfl rfl ?_; clear hC a; intro a hC
    refine L.pu hC rfl rfl (fun _ => All.nil) rfl rfl ?_; clear hC a; intro a hC
    refine L.nil ?_
    refine hk5 _ _ ?_; clear hk5; try clear k5
    refine W.ret ?_
    refine retl hC rfl (.agg rfl m0 Try.isAgg36 Try.sizeOf36 rfl (.tmp rfl (.tmp rfl .nil))) rfl ?_
    exact ⟨by unfold beginR; rw [if_pos h1]; rfl, hC.frm⟩
  ·
    refine W.seqk fun k6 hk6 => ?_
    refine W.region ?_
    refine L.pu hC rfl rfl (fun _ => All.nil) rfl rfl ?_; clear hC a; intro a hC
    refine L.pu hC rfl rfl (fun _ => All.nil) rfl rfl ?_; clear hC a; intro a hC
    refine L.pu hC rfl rfl (fun _ => All.nil) rfl rfl ?_; clear hC a; intro a hC
    refine L.nil ?_
    refine hk6 _ _ ?_; clear hk6; try clear k6
    refine W.cond hC rfl (fun h2 => ?_) (fun h2 => ?_)
    ·
      refine W.seqk fun k7 hk7 => ?_
      refine W.region ?_
      refine L.buildS (ps := [(0, 1), (1, 1), (2, 1), (3, 1), (4, 1)]) hC rfl rfl rfl (fun _ => All.nil) Try.zeroValue36 Try.underlying36 ⟨⟨rfl, Try.sizeOf3⟩, ⟨rfl, Try.sizeOf3⟩, ⟨rfl, Try.sizeOf3⟩, ⟨rfl, Try.sizeOf3⟩, ⟨rfl, Try.sizeOf3⟩, trivial⟩ rfl rfl rfl ?_; clear hC a; intro a hC
      refine L.st hC rfl rfl rfl rfl Try.sizeOf36 rfl rfl rfl rfl rfl ?_; clear hC a; intro a w hF hC
      refine L.pu hC rfl rfl (fun _ => All.nil) rfl rfl ?_; clear hC a; intro a hC
      refine L.pu hC rfl rfl (fun _ => All.nil) rfl rfl ?_; clear hC a; intro a hC
      refine L.nil ?_
      refine hk7 _ _ ?_; clear hk7; try clear k7
      refine W.ret ?_
      refine retl hC rfl (.agg rfl m0 Try.isAgg36 Try.sizeOf36 rfl (.tmp rfl (.tmp rfl .nil))) rfl ?_
      exact ⟨by unfold beginR; rw [if_neg (nt h1), if_pos h2]; rfl, hC.frm⟩
    ·
      refine W.seqk fun k8 hk8 => ?_
      refine W.region ?_
      refine L.fa hC rfl rfl rfl (fun _ => All.nil) Try.underlying36 rfl Try.sizeOf3 rfl rfl rfl ?_; clear hC a; intro a hC
      refine L.ld hC rfl rfl rfl (fun _ => All.nil) m2 Try.isAgg3 rfl rfl rfl ?_; clear hC a; intro a hC
      refine L.pu hC rfl rfl (fun _ => All.nil) rfl rfl ?_; clear hC a; intro a hC
      refine L.pu hC rfl rfl (fun _ => All.nil) rfl rfl ?_; clear hC a; intro a hC
      refine L.nil ?_
      refine hk8 _ _ ?_; clear hk8; try clear k8
      refine W.cond hC rfl (fun h3 => ?_) (fun h3 => ?_)
      ·
        refine W.seqk fun k9 hk9 => ?_
        refine W.region ?_
        refine L.fa hC rfl rfl rfl (fun _ => All.nil) Try.underlying36 rfl Try.sizeOf3 rfl rfl rfl ?_; clear hC a; intro a hC
        refine L.ld hC rfl rfl rfl (fun _ => All.nil) m2 Try.isAgg3 rfl rfl rfl ?_; clear hC a; intro a hC
        refine L.pu hC rfl rfl (fun _ => All.nil) rfl rfl ?_; clear hC a; intro a hC
        refine L.fa hC rfl rfl rfl (fun _ => All.nil) Try.underlying36 rfl Try.sizeOf3 rfl rfl rfl ?_; clear hC a; intro a hC
        replace hC := hC.fr2
        refine L.st hC rfl rfl rfl rfl Try.sizeOf3 rfl rfl rfl rfl rfl ?_; clear hC a; intro a w hF hC
        refine L.nil ?_
        refine hk9 _ _ ?_; clear hk9; try clear k9
        refine W.seqk fun k10 hk10 => ?_
        refine W.region ?_
        refine L.lda hC rfl rfl rfl (fun _ => All.nil) m0 Try.isAgg36 Try.sizeOf36 rfl rfl rfl rfl ?_; clear hC a; intro a hC
        replace hC := hC.fr1
        refine L.st hC rfl rfl rfl rfl Try.sizeOf36 rfl rfl rfl rfl rfl ?_; clear hC a; intro a w hF hC
        refine L.pu hC rfl rfl (fun _ => All.nil) rfl rfl ?_; clear hC a; intro a hC
        refine L.pu hC rfl rfl (fun _ => All.nil) rfl rfl ?_; clear hC a; intro a hC
        refine L.nil ?_
        refine hk10 _ _ ?_; clear hk10; try clear k10
        refine W.ret ?_
        refine retl hC rfl (.agg rfl m0 Try.isAgg36 Try.sizeOf36 rfl (.tmp rfl (.tmp rfl .nil))) rfl ?_
        exact ⟨by unfold beginR; rw [if_neg (nt h1), if_neg (nt h2), if_pos h3]; rfl, hC.frm⟩
      ·
        refine W.skip ?_
        refine hk3 _ _ ?_; clear hk3; try clear k3
        refine W.seqk fun k11 hk11 => ?_
        refine W.region ?_
        refine L.lda hC rfl rfl rfl (fun _ => All.nil) m2 Try.isAgg36 Try.sizeOf36 rfl rfl rfl rfl ?_; clear hC a; intro a hC
        refine L.st hC rfl rfl rfl rfl Try.sizeOf36 rfl rfl rfl rfl rfl ?_; clear hC a; intro a w hF hC
        refine L.pu hC rfl rfl (fun _ => All.nil) rfl rfl ?_; clear hC a; intro a hC
        refine L.pu hC rfl rfl (fun _ => All.nil) rfl rfl ?_; clear hC a; intro a hC
        refine L.nil ?_
        refine hk11 _ _ ?_; clear hk11; try clear k11
        refine W.ret ?_
        refine retl hC rfl (.agg rfl m0 Try.isAgg36 Try.sizeOf36 rfl (.tmp rfl (.tmp rfl .nil))) rfl ?_
        exact ⟨by unfold beginR; rw [if_neg (nt h1), if_neg (nt h2), if_neg (nt h3)]; rfl, hC.frm⟩

theorem endRR_ok (k : Brk) (s : BSet) (t : Int) (probe good : Bool) (w0 : World) : Calls Try.prog 64 #[.agg (bE k).toArray, .agg (sE s).toArray, .int .i64 t, .bool probe, .bool good] w0 fun e w' => e = .returned (.tuple #[.agg (bE (endRR k s t probe good).1).toArray, .int .i64 (endRR k s t probe good).2]) ∧ Frm Nob w0 w' := by
  refine enter (μ := []) (S := Nob) (vs := [.agg (bE k).toArray, .agg (sE s).toArray, .int .i64 t, .bool probe, .bool good]) Try.func64 rfl Try.ntmps64 rfl (Mem.nil _) (by simp) (fun a hC => ?_)
  refine W.seqk fun k1 hk1 => ?_
  refine W.region ?_
  refine L.box hC rfl rfl rfl rfl rfl rfl ?_; clear hC a; intro bb a w hF hC
  refine L.box hC rfl rfl rfl rfl rfl rfl ?_; clear hC a; intro sb a w hF hC
  refine L.alloc hC rfl rfl Try.zeroValue36 rfl rfl rfl ?_; clear hC a; intro rb a w hF hC
  refine L.pu hC rfl rfl (fun _ => All.nil) rfl rfl ?_; clear hC a; intro a hC
  refine L.nil ?_
  refine hk1 _ _ ?_; clear hk1; try clear k1
  refine W.seqk fun k2 hk2 => ?_
  refine W.region ?_
  refine L.lda hC rfl rfl rfl (fun _ => All.nil) m2 Try.isAgg36 Try.sizeOf36 rfl rfl rfl rfl ?_; clear hC a; intro a hC
  refine L.lda hC rfl rfl rfl (fun _ => All.nil) m1 Try.isAgg33 Try.sizeOf33 rfl rfl rfl rfl ?_; clear hC a; intro a hC
  refine L.pu hC rfl rfl (fun _ => All.nil) rfl rfl ?_; clear hC a; intro a hC
  refine L.call hC rfl rfl Try.call110 rfl (fun _ => All.nil) (fun hg => chkR_ok _ _ _ _) rfl rfl ?_; clear hC a; intro a w hF hC
  refine L.pu hC rfl rfl (fun _ => All.nil) rfl rfl ?_; clear hC a; intro a hC
  refine L.nil ?_
  refine hk2 _ _ ?_; clear hk2; try clear k2
  refine W.seqk fun k3 hk3 => ?_
  refine W.seqk fun k4 hk4 => ?_
  refine W.region ?_
  refine L.pu hC rfl rfl (fun _ => All.nil) rfl rfl ?_; clear hC a; intro a hC
  refine L.pu hC rfl rfl (fun _ => All.nil) rfl rfl ?_; clear hC a; intro a hC
  refine L.nil ?_
  refine hk4 _ _ ?_; clear hk4; try clear k4
  refine W.cond hC rfl (fun h1 => ?_) (fun h1 => ?_)
  ·
    refine W.seqk fun k5 hk5 => ?_
    refine W.region ?_
    refine L.buildS (ps := [(0, 1), (1, 1), (2, 1), (3, 1), (4, 1)]) hC rfl rfl rfl (fun _ => All.nil) Try.zeroValue36 Try.underlying36 ⟨⟨rfl, Try.sizeOf3⟩, ⟨rfl, Try.sizeOf3⟩, ⟨rfl, Try.sizeOf3⟩, ⟨rfl, Try.sizeOf3⟩, ⟨rfl, Try.sizeOf3⟩, trivial⟩ rfl rfl rfl ?_; clear hC a; intro a hC
    refine L.pu hC rfl rfl (fun _ => All.nil) rfl rfl ?_; clear hC a; intro a hC
    refine L.st hC rfl rfl rfl rfl Try.sizeOf36 rfl rfl rfl rfl rfl ?_; clear hC a; intro a w hF hC
    refine L.pu hC rfl rfl (fun _ => All.nil) rfl rfl ?_; clear hC a; intro a hC
    refine L.nil ?_
    refine hk5 _ _ ?_; clear hk5; try clear k5
    refine W.ret ?_
    refine retl hC rfl (.agg rfl m0 Try.isAgg36 Try.sizeOf36 rfl (.tmp rfl .nil)) rfl ?_
    exact ⟨by unfold endRR; rw [if_pos h1]; rfl, hC.frm⟩
  ·
    refine W.skip ?_
    refine hk3 _ _ ?_; clear hk3; try clear k3
    refine W.seqk fun k6 hk6 => ?_
    refine W.seqk fun k7 hk7 => ?_
    refine W.region ?_
    refine L.pu hC rfl rfl (fun _ => All.nil) rfl rfl ?_; clear hC a; intro a hC
    refine L.nil ?_
    refine hk7 _ _ ?_; clear hk7; try clear k7
    refine W.cond hC rfl (fun h2 => ?_) (fun h2 => ?_)
    ·
      refine W.region ?_
      refine L.fa hC rfl rfl rfl (fun _ => All.nil) Try.underlying36 rfl Try.sizeOf3 rfl rfl rfl ?_; clear hC a; intro a hC
      refine L.ld hC rfl rfl rfl (fun _ => All.nil) m2 Try.isAgg3 rfl rfl rfl ?_; clear hC a; intro a hC
      refine L.pu hC rfl rfl (fun _ => All.nil) rfl rfl ?_; clear hC a; intro a hC
      refine L.max2 hC rfl rfl rfl rfl (fun _ => All.nil) (fun _ => All.nil) rfl rfl ?_; clear hC a; intro a hC
      refine L.fa hC rfl rfl rfl (fun _ => All.nil) Try.underlying36 rfl Try.sizeOf3 rfl rfl rfl ?_; clear hC a; intro a hC
      replace hC := hC.fr2
      refine L.st hC rfl rfl rfl rfl Try.sizeOf3 rfl rfl rfl rfl rfl ?_; clear hC a; intro a w hF hC
      refine L.nil ?_
      refine hk6 _ _ ?_; clear hk6; try clear k6
      refine W.seqk fun k8 hk8 => ?_
      refine W.block ?_
      refine W.seqk fun k9 hk9 => ?_
      refine W.region ?_
      refine L.fa hC rfl rfl rfl (fun _ => All.nil) Try.underlying36 rfl Try.sizeOf3 rfl rfl rfl ?_; clear hC a; intro a hC
      refine L.ld hC rfl rfl rfl (fun _ => All.nil) m0 Try.isAgg3 rfl rfl rfl ?_; clear hC a; intro a hC
      refine L.pu hC rfl rfl (fun _ => All.nil) rfl rfl ?_; clear hC a; intro a hC
      refine L.pu hC rfl rfl (fun _ => All.nil) rfl rfl ?_; clear hC a; intro a hC
      refine L.pu hC rfl rfl (fun _ => All.nil) rfl rfl ?_; clear hC a; intro a hC
      refine L.and hC rfl rfl rfl rfl (fun _ => All.nil) (fun _ hp => by simp only [All, List.cons_append, List.nil_append, List.append_nil, List.mem_cons, List.not_mem_nil, or_false, forall_eq_or_imp, forall_eq, Bool.and_eq_true, hp, Bool.not_false, Bool.not_true, and_self]) rfl rfl ?_; clear hC a; intro a hC
      refine L.pu hC rfl rfl (fun _ => All.nil) rfl rfl ?_; clear hC a; intro a hC
      refine L.nil ?_
      refine hk9 _ _ ?_; clear hk9; try clear k9
      refine W.cond hC rfl (fun h3 => ?_) (fun h3 => ?_)
      ·
        refine W.region ?_
        refine L.fa hC rfl rfl rfl (fun _ => All.nil) Try.underlying36 rfl Try.sizeOf3 rfl rfl rfl ?_; clear hC a; intro a hC
        refine L.st hC rfl rfl rfl rfl Try.sizeOf3 rfl rfl rfl rfl rfl ?_; clear hC a; intro a w hF hC
        refine L.nil ?_
        refine hk8 _ _ ?_; clear hk8; try clear k8
        refine W.seqk fun k10 hk10 => ?_
        refine W.region ?_
        refine L.lda hC rfl rfl rfl (fun _ => All.nil) m0 Try.isAgg36 Try.sizeOf36 rfl rfl rfl rfl ?_; clear hC a; intro a hC
        replace hC := hC.fr1
        refine L.st hC rfl rfl rfl rfl Try.sizeOf36 rfl rfl rfl rfl rfl ?_; clear hC a; intro a w hF hC
        refine L.pu hC rfl rfl (fun _ => All.nil) rfl rfl ?_; clear hC a; intro a hC
        refine L.nil ?_
        refine hk10 _ _ ?_; clear hk10; try clear k10
        refine W.ret ?_
        refine retl hC rfl (.agg rfl m0 Try.isAgg36 Try.sizeOf36 rfl (.tmp rfl .nil)) rfl ?_
        exact ⟨by unfold endRR; rw [if_neg (nt h1), if_pos h2]; unfold endRA; rw [if_pos h3]; rfl, hC.frm⟩
      ·
        refine W.seqk fun k11 hk11 => ?_
        refine W.region ?_
        refine L.fa hC rfl rfl rfl (fun _ => All.nil) Try.underlying36 rfl Try.sizeOf3 rfl rfl rfl ?_; clear hC a; intro a hC
        refine L.ld hC rfl rfl rfl (fun _ => All.nil) m0 Try.isAgg3 rfl rfl rfl ?_; clear hC a; intro a hC
        refine L.pu hC rfl rfl (fun _ => All.nil) rfl rfl ?_; clear hC a; intro a hC
        refine L.pu hC rfl rfl (fun _ => All.nil) rfl rfl ?_; clear hC a; intro a hC
        refine L.nil ?_
        refine hk11 _ _ ?_; clear hk11; try clear k11
        refine W.cond hC rfl (fun h4 => ?_) (fun h4 => ?_)
        ·
          refine W.seqk fun k12 hk12 => ?_
          refine W.region ?_
          refine L.fa hC rfl rfl rfl (fun _ => All.nil) Try.underlying36 rfl Try.sizeOf3 rfl rfl rfl ?_; clear hC a; intro a hC
          refine L.ld hC rfl rfl rfl (fun _ => All.nil) m0 Try.isAgg3 rfl rfl rfl ?_; clear hC a; intro a hC
          refine L.pu hC rfl rfl (fun _ => All.nil) rfl rfl ?_; clear hC a; intro a hC
          refine L.fa hC rfl rfl rfl (fun _ => All.nil) Try.underlying36 rfl Try.sizeOf3 rfl rfl rfl ?_; clear hC a; intro a hC
          refine L.st hC rfl rfl rfl rfl Try.sizeOf3 rfl rfl rfl rfl rfl ?_; clear hC a; intro a w hF hC
          refine L.nil ?_
          refine hk12 _ _ ?_; clear hk12; try clear k12
          refine W.seqk fun k13 hk13 => ?_
          refine W.region ?_
          refine L.fa hC rfl rfl rfl (fun _ => All.nil) Try.underlying36 rfl Try.sizeOf3 rfl rfl rfl ?_; clear hC a; intro a hC
          refine L.ld hC rfl rfl rfl (fun _ => All.nil) m0 Try.isAgg3 rfl rfl rfl ?_; clear hC a; intro a hC
          refine L.fa hC rfl rfl rfl (fun _ => All.nil) Try.underlying33 rfl Try.sizeOf3 rfl rfl rfl ?_; clear hC a; intro a hC
          refine L.ld hC rfl rfl rfl (fun _ => All.nil) m2 Try.isAgg3 rfl rfl rfl ?_; clear hC a; intro a hC
          refine L.pu hC rfl rfl (fun _ => All.nil) rfl rfl ?_; clear hC a; intro a hC
          refine L.nil ?_
          refine hk13 _ _ ?_; clear hk13; try clear k13
          refine W.cond hC rfl (fun h5 => ?_) (fun h5 => ?_)
          ·
            replace hC := hC.fr1
            replace hC := hC.fr2
            replace hC := hC.fr2
            refine W.drawN (fun c _ => match c with | 0 => [blkR bb (bE { k with probes := imax 0 (IntKind.i64.wrap (k.probes - 1)), fails := IntKind.i64.wrap (k.fails + 1) }) 36, blkR sb (sE s) 33, blkR rb (bE ⟨0, 0, 0, 0, 0⟩) 36] | 1 => [blkR bb (bE { k with probes := imax 0 (IntKind.i64.wrap (k.probes - 1)), mode := 1, fails := IntKind.i64.wrap (k.fails + 1) }) 36, blkR sb (sE s) 33, blkR rb (bE ⟨0, 0, 0, 0, 0⟩) 36] | 2 => [blkR bb (bE { k with probes := imax 0 (IntKind.i64.wrap (k.probes - 1)), mode := 1, til := IntKind.i64.wrap (t + s.opn), fails := IntKind.i64.wrap (k.fails + 1) }) 36, blkR sb (sE s) 33, blkR rb (bE ⟨0, 0, 0, 0, 0⟩) 36] | _ => [blkR bb (bE { k with probes := imax 0 (IntKind.i64.wrap (k.probes - 1)), mode := 1, til := IntKind.i64.wrap (t + s.opn), fails := 0 }) 36, blkR sb (sE s) 33, blkR rb (bE ⟨0, 0, 0, 0, 0⟩) 36]) undef hC Try.mixed rfl rfl ?_
            apply ERN.q (.det _ _) 1 rfl rfl
            · intro c' γ hle
              obtain rfl | rfl := (by omega : c' = 0 ∨ c' = 1)
              · intro a w hC
                refine L.pu hC rfl rfl (fun _ => All.nil) rfl rfl ?_; clear hC a; intro a hC
                exact L.nil ⟨⟨_, [], hC⟩, Frm.refl _ _⟩
              · intro a w hC
                refine L.pu hC rfl rfl (fun _ => All.nil) rfl rfl ?_; clear hC a; intro a hC
                exact L.nil ⟨⟨_, [], hC⟩, Frm.refl _ _⟩
            apply ERN.q (.det _ _) 1 rfl rfl
            · intro c' γ hle
              obtain rfl | rfl := (by omega : c' = 0 ∨ c' = 1)
              · intro a w hC
                refine L.fa hC rfl rfl rfl (fun _ => All.nil) Try.underlying33 rfl Try.sizeOf3 rfl rfl rfl ?_; clear hC a; intro a hC
                exact L.nil ⟨⟨_, [], hC⟩, Frm.refl _ _⟩
              · intro a w hC
                refine L.fa hC rfl rfl rfl (fun _ => All.nil) Try.underlying33 rfl Try.sizeOf3 rfl rfl rfl ?_; clear hC a; intro a hC
                exact L.nil ⟨⟨_, [], hC⟩, Frm.refl _ _⟩
            apply ERN.q (.det _ _) 1 rfl rfl
            · intro c' γ hle
              obtain rfl | rfl := (by omega : c' = 0 ∨ c' = 1)
              · intro a w hC
                refine L.ld hC rfl rfl rfl (fun _ => All.nil) m1 Try.isAgg3 rfl rfl rfl ?_; clear hC a; intro a hC
                exact L.nil ⟨⟨_, [], hC⟩, Frm.refl _ _⟩
              · intro a w hC
                refine L.ld hC rfl rfl rfl (fun _ => All.nil) m1 Try.isAgg3 rfl rfl rfl ?_; clear hC a; intro a hC
                exact L.nil ⟨⟨_, [], hC⟩, Frm.refl _ _⟩
            apply ERN.q (.det _ _) 1 rfl rfl
            · intro c' γ hle
              obtain rfl | rfl := (by omega : c' = 0 ∨ c' = 1)
              · intro a w hC
                refine L.pu hC rfl rfl (fun _ => All.nil) rfl rfl ?_; clear hC a; intro a hC
                exact L.nil ⟨⟨_, [], hC⟩, Frm.refl _ _⟩
              · intro a w hC
                refine L.pu hC rfl rfl (fun _ => All.nil) rfl rfl ?_; clear hC a; intro a hC
                exact L.nil ⟨⟨_, [], hC⟩, Frm.refl _ _⟩
            apply ERN.q (.det _ _) 0 rfl rfl
            · intro c' γ hle
              obtain rfl := (by omega : c' = 0)
              · intro a w hC
                refine L.fa hC rfl rfl rfl (fun _ => All.nil) Try.underlying36 rfl Try.sizeOf3 rfl rfl rfl ?_; clear hC a; intro a hC
                exact L.nil ⟨⟨_, [], hC⟩, Frm.refl _ _⟩
            apply ERN.f false (fun h => by cases h) rfl rfl
            · intro γ a w hC
              refine L.st hC rfl rfl rfl rfl Try.sizeOf3 rfl rfl rfl rfl rfl ?_; clear hC a; intro a w hF hC
              exact L.nil ⟨γ, _, fun _ => rfl, trivial, hC, hF⟩
            apply ERN.q (.det _ _) 1 rfl rfl
            · intro c' γ hle
              obtain rfl | rfl := (by omega : c' = 0 ∨ c' = 1)
              · intro a w hC
                refine L.fa hC rfl rfl rfl (fun _ => All.nil) Try.underlying36 rfl Try.sizeOf3 rfl rfl rfl ?_; clear hC a; intro a hC
                exact L.nil ⟨⟨_, [], hC⟩, Frm.refl _ _⟩
              · intro a w hC
                refine L.fa hC rfl rfl rfl (fun _ => All.nil) Try.underlying36 rfl Try.sizeOf3 rfl rfl rfl ?_; clear hC a; intro a hC
                exact L.nil ⟨⟨_, [], hC⟩, Frm.refl _ _⟩
            apply ERN.f false (fun h => by cases h) rfl rfl
            · intro γ a w hC
              refine L.st hC rfl rfl rfl rfl Try.sizeOf3 rfl rfl rfl rfl rfl ?_; clear hC a; intro a w hF hC
              exact L.nil ⟨γ, _, fun _ => rfl, trivial, hC, hF⟩
            apply ERN.q (.det _ _) 2 rfl rfl
            · intro c' γ hle
              obtain rfl | rfl | rfl := (by omega : c' = 0 ∨ c' = 1 ∨ c' = 2)
              · intro a w hC
                refine L.fa hC rfl rfl rfl (fun _ => All.nil) Try.underlying36 rfl Try.sizeOf3 rfl rfl rfl ?_; clear hC a; intro a hC
                exact L.nil ⟨⟨_, [], hC⟩, Frm.refl _ _⟩
              · intro a w hC
                refine L.fa hC rfl rfl rfl (fun _ => All.nil) Try.underlying36 rfl Try.sizeOf3 rfl rfl rfl ?_; clear hC a; intro a hC
                exact L.nil ⟨⟨_, [], hC⟩, Frm.refl _ _⟩
              · intro a w hC
                refine L.fa hC rfl rfl rfl (fun _ => All.nil) Try.underlying36 rfl Try.sizeOf3 rfl rfl rfl ?_; clear hC a; intro a hC
                exact L.nil ⟨⟨_, [], hC⟩, Frm.refl _ _⟩
            apply ERN.f false (fun h => by cases h) rfl rfl
            · intro γ a w hC
              refine L.st hC rfl rfl rfl rfl Try.sizeOf3 rfl rfl rfl rfl rfl ?_; clear hC a; intro a w hF hC
              exact L.nil ⟨γ, _, fun _ => rfl, trivial, hC, hF⟩
            refine ERN.nil ?_
            intro γ w' a w hC hw
            subst hw
            refine hk8 _ _ ?_; clear hk8; try clear k8
            refine W.seqk fun k14 hk14 => ?_
            refine W.region ?_
            refine L.lda hC rfl rfl rfl (fun _ => All.nil) m0 Try.isAgg36 Try.sizeOf36 rfl rfl rfl rfl ?_; clear hC a; intro a hC
            replace hC := hC.fr2
            refine L.st hC rfl rfl rfl rfl Try.sizeOf36 rfl rfl rfl rfl rfl ?_; clear hC a; intro a w hF hC
            refine L.pu hC rfl rfl (fun _ => All.nil) rfl rfl ?_; clear hC a; intro a hC
            refine L.nil ?_
            refine hk14 _ _ ?_; clear hk14; try clear k14
            refine W.ret ?_
            refine retl hC rfl (.agg rfl m0 Try.isAgg36 Try.sizeOf36 rfl (.tmp rfl .nil)) rfl ?_
            exact ⟨by unfold endRR; rw [if_neg (nt h1), if_pos h2]; unfold endRA; rw [if_neg (nt h3), if_pos h4, if_pos h5]; rfl, hC.frm⟩
          ·
            refine W.skip ?_
            refine hk8 _ _ ?_; clear hk8; try clear k8
            refine W.seqk fun k15 hk15 => ?_
            refine W.region ?_
            refine L.lda hC rfl rfl rfl (fun _ => All.nil) m0 Try.isAgg36 Try.sizeOf36 rfl rfl rfl rfl ?_; clear hC a; intro a hC
            replace hC := hC.fr1
            refine L.st hC rfl rfl rfl rfl Try.sizeOf36 rfl rfl rfl rfl rfl ?_; clear hC a; intro a w hF hC
            refine L.pu hC rfl rfl (fun _ => All.nil) rfl rfl ?_; clear hC a; intro a hC
            refine L.nil ?_
            refine hk15 _ _ ?_; clear hk15; try clear k15
            refine W.ret ?_
            refine retl hC rfl (.agg rfl m0 Try.isAgg36 Try.sizeOf36 rfl (.tmp rfl .nil)) rfl ?_
            exact ⟨by unfold endRR; rw [if_neg (nt h1), if_pos h2]; unfold endRA; rw [if_neg (nt h3), if_pos h4, if_neg (nt h5)]; rfl, hC.frm⟩
        ·
          refine W.seqk fun k16 hk16 => ?_
          refine W.region ?_
          refine L.fa hC rfl rfl rfl (fun _ => All.nil) Try.underlying36 rfl Try.sizeOf3 rfl rfl rfl ?_; clear hC a; intro a hC
          refine L.ld hC rfl rfl rfl (fun _ => All.nil) m0 Try.isAgg3 rfl rfl rfl ?_; clear hC a; intro a hC
          refine L.pu hC rfl rfl (fun _ => All.nil) rfl rfl ?_; clear hC a; intro a hC
          refine L.pu hC rfl rfl (fun _ => All.nil) rfl rfl ?_; clear hC a; intro a hC
          refine L.pu hC rfl rfl (fun _ => All.nil) rfl rfl ?_; clear hC a; intro a hC
          refine L.and hC rfl rfl rfl rfl (fun _ => All.nil) (fun _ hp => by simp only [All, List.cons_append, List.nil_append, List.append_nil, List.mem_cons, List.not_mem_nil, or_false, forall_eq_or_imp, forall_eq, Bool.and_eq_true, hp, Bool.not_false, Bool.not_true, and_self]) rfl rfl ?_; clear hC a; intro a hC
          refine L.pu hC rfl rfl (fun _ => All.nil) rfl rfl ?_; clear hC a; intro a hC
          refine L.pu hC rfl rfl (fun _ => All.nil) rfl rfl ?_; clear hC a; intro a hC
          refine L.and hC rfl rfl rfl rfl (fun _ => All.nil) (fun _ hp => by simp only [All, List.cons_append, List.nil_append, List.append_nil, List.mem_cons, List.not_mem_nil, or_false, forall_eq_or_imp, forall_eq, Bool.and_eq_true, hp, Bool.not_false, Bool.not_true, and_self]) rfl rfl ?_; clear hC a; intro a hC
          refine L.pu hC rfl rfl (fun _ => All.nil) rfl rfl ?_; clear hC a; intro a hC
          refine L.nil ?_
          refine hk16 _ _ ?_; clear hk16; try clear k16
          refine W.cond hC rfl (fun h6 => ?_) (fun h6 => ?_)
          ·
            refine W.seqk fun k17 hk17 => ?_
            refine W.region ?_
            refine L.fa hC rfl rfl rfl (fun _ => All.nil) Try.underlying36 rfl Try.sizeOf3 rfl rfl rfl ?_; clear hC a; intro a hC
            refine L.ld hC rfl rfl rfl (fun _ => All.nil) m0 Try.isAgg3 rfl rfl rfl ?_; clear hC a; intro a hC
            refine L.pu hC rfl rfl (fun _ => All.nil) rfl rfl ?_; clear hC a; intro a hC
            refine L.fa hC rfl rfl rfl (fun _ => All.nil) Try.underlying36 rfl Try.sizeOf3 rfl rfl rfl ?_; clear hC a; intro a hC
            refine L.st hC rfl rfl rfl rfl Try.sizeOf3 rfl rfl rfl rfl rfl ?_; clear hC a; intro a w hF hC
            refine L.nil ?_
            refine hk17 _ _ ?_; clear hk17; try clear k17
            refine W.seqk fun k18 hk18 => ?_
            refine W.region ?_
            refine L.fa hC rfl rfl rfl (fun _ => All.nil) Try.underlying36 rfl Try.sizeOf3 rfl rfl rfl ?_; clear hC a; intro a hC
            refine L.ld hC rfl rfl rfl (fun _ => All.nil) m0 Try.isAgg3 rfl rfl rfl ?_; clear hC a; intro a hC
            refine L.fa hC rfl rfl rfl (fun _ => All.nil) Try.underlying33 rfl Try.sizeOf3 rfl rfl rfl ?_; clear hC a; intro a hC
            refine L.ld hC rfl rfl rfl (fun _ => All.nil) m2 Try.isAgg3 rfl rfl rfl ?_; clear hC a; intro a hC
            refine L.pu hC rfl rfl (fun _ => All.nil) rfl rfl ?_; clear hC a; intro a hC
            refine L.nil ?_
            refine hk18 _ _ ?_; clear hk18; try clear k18
            refine W.cond hC rfl (fun h7 => ?_) (fun h7 => ?_)
            ·
              refine W.region ?_
              refine L.fa hC rfl rfl rfl (fun _ => All.nil) Try.underlying36 rfl Try.sizeOf3 rfl rfl rfl ?_; clear hC a; intro a hC
              refine L.st hC rfl rfl rfl rfl Try.sizeOf3 rfl rfl rfl rfl rfl ?_; clear hC a; intro a w hF hC
              refine L.fa hC rfl rfl rfl (fun _ => All.nil) Try.underlying36 rfl Try.sizeOf3 rfl rfl rfl ?_; clear hC a; intro a hC
              refine L.st hC rfl rfl rfl rfl Try.sizeOf3 rfl rfl rfl rfl rfl ?_; clear hC a; intro a w hF hC
              refine L.fa hC rfl rfl rfl (fun _ => All.nil) Try.underlying36 rfl Try.sizeOf3 rfl rfl rfl ?_; clear hC a; intro a hC
              refine L.st hC rfl rfl rfl rfl Try.sizeOf3 rfl rfl rfl rfl rfl ?_; clear hC a; intro a w hF hC
              refine L.nil ?_
              refine hk8 _ _ ?_; clear hk8; try clear k8
              refine W.seqk fun k19 hk19 => ?_
              refine W.region ?_
              refine L.lda hC rfl rfl rfl (fun _ => All.nil) m0 Try.isAgg36 Try.sizeOf36 rfl rfl rfl rfl ?_; clear hC a; intro a hC
              replace hC := hC.fr1
              refine L.st hC rfl rfl rfl rfl Try.sizeOf36 rfl rfl rfl rfl rfl ?_; clear hC a; intro a w hF hC
              refine L.pu hC rfl rfl (fun _ => All.nil) rfl rfl ?_; clear hC a; intro a hC
              refine L.nil ?_
              refine hk19 _ _ ?_; clear hk19; try clear k19
              refine W.ret ?_
              refine retl hC rfl (.agg rfl m0 Try.isAgg36 Try.sizeOf36 rfl (.tmp rfl .nil)) rfl ?_
              exact ⟨by unfold endRR; rw [if_neg (nt h1), if_pos h2]; unfold endRA; rw [if_neg (nt h3), if_neg (nt h4), if_pos h6, if_pos h7]; rfl, hC.frm⟩
            ·
              refine W.skip ?_
              refine hk8 _ _ ?_; clear hk8; try clear k8
              refine W.seqk fun k20 hk20 => ?_
              refine W.region ?_
              refine L.lda hC rfl rfl rfl (fun _ => All.nil) m0 Try.isAgg36 Try.sizeOf36 rfl rfl rfl rfl ?_; clear hC a; intro a hC
              replace hC := hC.fr1
              refine L.st hC rfl rfl rfl rfl Try.sizeOf36 rfl rfl rfl rfl rfl ?_; clear hC a; intro a w hF hC
              refine L.pu hC rfl rfl (fun _ => All.nil) rfl rfl ?_; clear hC a; intro a hC
              refine L.nil ?_
              refine hk20 _ _ ?_; clear hk20; try clear k20
              refine W.ret ?_
              refine retl hC rfl (.agg rfl m0 Try.isAgg36 Try.sizeOf36 rfl (.tmp rfl .nil)) rfl ?_
              exact ⟨by unfold endRR; rw [if_neg (nt h1), if_pos h2]; unfold endRA; rw [if_neg (nt h3), if_neg (nt h4), if_pos h6, if_neg (nt h7)]; rfl, hC.frm⟩
          ·
            refine W.seqk fun k21 hk21 => ?_
            refine W.region ?_
            refine L.fa hC rfl rfl rfl (fun _ => All.nil) Try.underlying36 rfl Try.sizeOf3 rfl rfl rfl ?_; clear hC a; intro a hC
            refine L.ld hC rfl rfl rfl (fun _ => All.nil) m0 Try.isAgg3 rfl rfl rfl ?_; clear hC a; intro a hC
            refine L.pu hC rfl rfl (fun _ => All.nil) rfl rfl ?_; clear hC a; intro a hC
            refine L.pu hC rfl rfl (fun _ => All.nil) rfl rfl ?_; clear hC a; intro a hC
            refine L.pu hC rfl rfl (fun _ => All.nil) rfl rfl ?_; clear hC a; intro a hC
            refine L.and hC rfl rfl rfl rfl (fun _ => All.nil) (fun _ hp => by simp only [All, List.cons_append, List.nil_append, List.append_nil, List.mem_cons, List.not_mem_nil, or_false, forall_eq_or_imp, forall_eq, Bool.and_eq_true, hp, Bool.not_false, Bool.not_true, and_self]) rfl rfl ?_; clear hC a; intro a hC
            refine L.pu hC rfl rfl (fun _ => All.nil) rfl rfl ?_; clear hC a; intro a hC
            refine L.nil ?_
            refine hk21 _ _ ?_; clear hk21; try clear k21
            refine W.cond hC rfl (fun h8 => ?_) (fun h8 => ?_)
            ·
              replace hC := hC.fr1
              replace hC := hC.fr2
              replace hC := hC.fr2
              refine W.drawN (fun c _ => match c with | 0 => [blkR bb (bE { k with probes := imax 0 (IntKind.i64.wrap (k.probes - 1)), mode := k.mode }) 36, blkR sb (sE s) 33, blkR rb (bE ⟨0, 0, 0, 0, 0⟩) 36] | 1 => [blkR bb (bE { k with probes := imax 0 (IntKind.i64.wrap (k.probes - 1)), mode := 1 }) 36, blkR sb (sE s) 33, blkR rb (bE ⟨0, 0, 0, 0, 0⟩) 36] | 2 => [blkR bb (bE { k with probes := imax 0 (IntKind.i64.wrap (k.probes - 1)), mode := 1, til := IntKind.i64.wrap (t + s.opn) }) 36, blkR sb (sE s) 33, blkR rb (bE ⟨0, 0, 0, 0, 0⟩) 36] | _ => [blkR bb (bE { k with probes := imax 0 (IntKind.i64.wrap (k.probes - 1)), mode := 1, til := IntKind.i64.wrap (t + s.opn), wins := 0 }) 36, blkR sb (sE s) 33, blkR rb (bE ⟨0, 0, 0, 0, 0⟩) 36]) undef hC Try.mixed rfl rfl ?_
              apply ERN.q (.det _ _) 1 rfl rfl
              · intro c' γ hle
                obtain rfl | rfl := (by omega : c' = 0 ∨ c' = 1)
                · intro a w hC
                  refine L.pu hC rfl rfl (fun _ => All.nil) rfl rfl ?_; clear hC a; intro a hC
                  exact L.nil ⟨⟨_, [], hC⟩, Frm.refl _ _⟩
                · intro a w hC
                  refine L.pu hC rfl rfl (fun _ => All.nil) rfl rfl ?_; clear hC a; intro a hC
                  exact L.nil ⟨⟨_, [], hC⟩, Frm.refl _ _⟩
              apply ERN.q (.det _ _) 1 rfl rfl
              · intro c' γ hle
                obtain rfl | rfl := (by omega : c' = 0 ∨ c' = 1)
                · intro a w hC
                  refine L.fa hC rfl rfl rfl (fun _ => All.nil) Try.underlying33 rfl Try.sizeOf3 rfl rfl rfl ?_; clear hC a; intro a hC
                  exact L.nil ⟨⟨_, [], hC⟩, Frm.refl _ _⟩
                · intro a w hC
                  refine L.fa hC rfl rfl rfl (fun _ => All.nil) Try.underlying33 rfl Try.sizeOf3 rfl rfl rfl ?_; clear hC a; intro a hC
                  exact L.nil ⟨⟨_, [], hC⟩, Frm.refl _ _⟩
              apply ERN.q (.det _ _) 1 rfl rfl
              · intro c' γ hle
                obtain rfl | rfl := (by omega : c' = 0 ∨ c' = 1)
                · intro a w hC
                  refine L.ld hC rfl rfl rfl (fun _ => All.nil) m1 Try.isAgg3 rfl rfl rfl ?_; clear hC a; intro a hC
                  exact L.nil ⟨⟨_, [], hC⟩, Frm.refl _ _⟩
                · intro a w hC
                  refine L.ld hC rfl rfl rfl (fun _ => All.nil) m1 Try.isAgg3 rfl rfl rfl ?_; clear hC a; intro a hC
                  exact L.nil ⟨⟨_, [], hC⟩, Frm.refl _ _⟩
              apply ERN.q (.det _ _) 1 rfl rfl
              · intro c' γ hle
                obtain rfl | rfl := (by omega : c' = 0 ∨ c' = 1)
                · intro a w hC
                  refine L.pu hC rfl rfl (fun _ => All.nil) rfl rfl ?_; clear hC a; intro a hC
                  exact L.nil ⟨⟨_, [], hC⟩, Frm.refl _ _⟩
                · intro a w hC
                  refine L.pu hC rfl rfl (fun _ => All.nil) rfl rfl ?_; clear hC a; intro a hC
                  exact L.nil ⟨⟨_, [], hC⟩, Frm.refl _ _⟩
              apply ERN.q (.det _ _) 0 rfl rfl
              · intro c' γ hle
                obtain rfl := (by omega : c' = 0)
                · intro a w hC
                  refine L.fa hC rfl rfl rfl (fun _ => All.nil) Try.underlying36 rfl Try.sizeOf3 rfl rfl rfl ?_; clear hC a; intro a hC
                  exact L.nil ⟨⟨_, [], hC⟩, Frm.refl _ _⟩
              apply ERN.f false (fun h => by cases h) rfl rfl
              · intro γ a w hC
                refine L.st hC rfl rfl rfl rfl Try.sizeOf3 rfl rfl rfl rfl rfl ?_; clear hC a; intro a w hF hC
                exact L.nil ⟨γ, _, fun _ => rfl, trivial, hC, hF⟩
              apply ERN.q (.det _ _) 1 rfl rfl
              · intro c' γ hle
                obtain rfl | rfl := (by omega : c' = 0 ∨ c' = 1)
                · intro a w hC
                  refine L.fa hC rfl rfl rfl (fun _ => All.nil) Try.underlying36 rfl Try.sizeOf3 rfl rfl rfl ?_; clear hC a; intro a hC
                  exact L.nil ⟨⟨_, [], hC⟩, Frm.refl _ _⟩
                · intro a w hC
                  refine L.fa hC rfl rfl rfl (fun _ => All.nil) Try.underlying36 rfl Try.sizeOf3 rfl rfl rfl ?_; clear hC a; intro a hC
                  exact L.nil ⟨⟨_, [], hC⟩, Frm.refl _ _⟩
              apply ERN.f false (fun h => by cases h) rfl rfl
              · intro γ a w hC
                refine L.st hC rfl rfl rfl rfl Try.sizeOf3 rfl rfl rfl rfl rfl ?_; clear hC a; intro a w hF hC
                exact L.nil ⟨γ, _, fun _ => rfl, trivial, hC, hF⟩
              apply ERN.q (.det _ _) 2 rfl rfl
              · intro c' γ hle
                obtain rfl | rfl | rfl := (by omega : c' = 0 ∨ c' = 1 ∨ c' = 2)
                · intro a w hC
                  refine L.fa hC rfl rfl rfl (fun _ => All.nil) Try.underlying36 rfl Try.sizeOf3 rfl rfl rfl ?_; clear hC a; intro a hC
                  exact L.nil ⟨⟨_, [], hC⟩, Frm.refl _ _⟩
                · intro a w hC
                  refine L.fa hC rfl rfl rfl (fun _ => All.nil) Try.underlying36 rfl Try.sizeOf3 rfl rfl rfl ?_; clear hC a; intro a hC
                  exact L.nil ⟨⟨_, [], hC⟩, Frm.refl _ _⟩
                · intro a w hC
                  refine L.fa hC rfl rfl rfl (fun _ => All.nil) Try.underlying36 rfl Try.sizeOf3 rfl rfl rfl ?_; clear hC a; intro a hC
                  exact L.nil ⟨⟨_, [], hC⟩, Frm.refl _ _⟩
              apply ERN.f false (fun h => by cases h) rfl rfl
              · intro γ a w hC
                refine L.st hC rfl rfl rfl rfl Try.sizeOf3 rfl rfl rfl rfl rfl ?_; clear hC a; intro a w hF hC
                exact L.nil ⟨γ, _, fun _ => rfl, trivial, hC, hF⟩
              refine ERN.nil ?_
              intro γ w' a w hC hw
              subst hw
              refine hk8 _ _ ?_; clear hk8; try clear k8
              refine W.seqk fun k22 hk22 => ?_
              refine W.region ?_
              refine L.lda hC rfl rfl rfl (fun _ => All.nil) m0 Try.isAgg36 Try.sizeOf36 rfl rfl rfl rfl ?_; clear hC a; intro a hC
              replace hC := hC.fr2
              refine L.st hC rfl rfl rfl rfl Try.sizeOf36 rfl rfl rfl rfl rfl ?_; clear hC a; intro a w hF hC
              refine L.pu hC rfl rfl (fun _ => All.nil) rfl rfl ?_; clear hC a; intro a hC
              refine L.nil ?_
              refine hk22 _ _ ?_; clear hk22; try clear k22
              refine W.ret ?_
              refine retl hC rfl (.agg rfl m0 Try.isAgg36 Try.sizeOf36 rfl (.tmp rfl .nil)) rfl ?_
              exact ⟨by unfold endRR; rw [if_neg (nt h1), if_pos h2]; unfold endRA; rw [if_neg (nt h3), if_neg (nt h4), if_neg (nt h6), if_pos h8]; rfl, hC.frm⟩
            ·
              refine W.skip ?_
              refine hk8 _ _ ?_; clear hk8; try clear k8
              refine W.seqk fun k23 hk23 => ?_
              refine W.region ?_
              refine L.lda hC rfl rfl rfl (fun _ => All.nil) m0 Try.isAgg36 Try.sizeOf36 rfl rfl rfl rfl ?_; clear hC a; intro a hC
              replace hC := hC.fr1
              refine L.st hC rfl rfl rfl rfl Try.sizeOf36 rfl rfl rfl rfl rfl ?_; clear hC a; intro a w hF hC
              refine L.pu hC rfl rfl (fun _ => All.nil) rfl rfl ?_; clear hC a; intro a hC
              refine L.nil ?_
              refine hk23 _ _ ?_; clear hk23; try clear k23
              refine W.ret ?_
              refine retl hC rfl (.agg rfl m0 Try.isAgg36 Try.sizeOf36 rfl (.tmp rfl .nil)) rfl ?_
              exact ⟨by unfold endRR; rw [if_neg (nt h1), if_pos h2]; unfold endRA; rw [if_neg (nt h3), if_neg (nt h4), if_neg (nt h6), if_neg (nt h8)]; rfl, hC.frm⟩
    ·
      refine W.skip ?_
      refine hk6 _ _ ?_; clear hk6; try clear k6
      refine W.seqk fun k24 hk24 => ?_
      refine W.block ?_
      refine W.seqk fun k25 hk25 => ?_
      refine W.region ?_
      refine L.fa hC rfl rfl rfl (fun _ => All.nil) Try.underlying36 rfl Try.sizeOf3 rfl rfl rfl ?_; clear hC a; intro a hC
      refine L.ld hC rfl rfl rfl (fun _ => All.nil) m2 Try.isAgg3 rfl rfl rfl ?_; clear hC a; intro a hC
      refine L.pu hC rfl rfl (fun _ => All.nil) rfl rfl ?_; clear hC a; intro a hC
      refine L.pu hC rfl rfl (fun _ => All.nil) rfl rfl ?_; clear hC a; intro a hC
      refine L.pu hC rfl rfl (fun _ => All.nil) rfl rfl ?_; clear hC a; intro a hC
      refine L.and hC rfl rfl rfl rfl (fun _ => All.nil) (fun _ hp => by simp only [All, List.cons_append, List.nil_append, List.append_nil, List.mem_cons, List.not_mem_nil, or_false, forall_eq_or_imp, forall_eq, Bool.and_eq_true, hp, Bool.not_false, Bool.not_true, and_self]) rfl rfl ?_; clear hC a; intro a hC
      refine L.pu hC rfl rfl (fun _ => All.nil) rfl rfl ?_; clear hC a; intro a hC
      refine L.nil ?_
      refine hk25 _ _ ?_; clear hk25; try clear k25
      refine W.cond hC rfl (fun h9 => ?_) (fun h9 => ?_)
      ·
        refine W.region ?_
        refine L.fa hC rfl rfl rfl (fun _ => All.nil) Try.underlying36 rfl Try.sizeOf3 rfl rfl rfl ?_; clear hC a; intro a hC
        replace hC := hC.fr2
        refine L.st hC rfl rfl rfl rfl Try.sizeOf3 rfl rfl rfl rfl rfl ?_; clear hC a; intro a w hF hC
        refine L.nil ?_
        refine hk24 _ _ ?_; clear hk24; try clear k24
        refine W.seqk fun k26 hk26 => ?_
        refine W.region ?_
        refine L.lda hC rfl rfl rfl (fun _ => All.nil) m0 Try.isAgg36 Try.sizeOf36 rfl rfl rfl rfl ?_; clear hC a; intro a hC
        replace hC := hC.fr1
        refine L.st hC rfl rfl rfl rfl Try.sizeOf36 rfl rfl rfl rfl rfl ?_; clear hC a; intro a w hF hC
        refine L.pu hC rfl rfl (fun _ => All.nil) rfl rfl ?_; clear hC a; intro a hC
        refine L.nil ?_
        refine hk26 _ _ ?_; clear hk26; try clear k26
        refine W.ret ?_
        refine retl hC rfl (.agg rfl m0 Try.isAgg36 Try.sizeOf36 rfl (.tmp rfl .nil)) rfl ?_
        exact ⟨by unfold endRR; rw [if_neg (nt h1), if_neg (nt h2)]; unfold endRA; rw [if_pos h9]; rfl, hC.frm⟩
      ·
        refine W.seqk fun k27 hk27 => ?_
        refine W.region ?_
        refine L.fa hC rfl rfl rfl (fun _ => All.nil) Try.underlying36 rfl Try.sizeOf3 rfl rfl rfl ?_; clear hC a; intro a hC
        refine L.ld hC rfl rfl rfl (fun _ => All.nil) m2 Try.isAgg3 rfl rfl rfl ?_; clear hC a; intro a hC
        refine L.pu hC rfl rfl (fun _ => All.nil) rfl rfl ?_; clear hC a; intro a hC
        refine L.pu hC rfl rfl (fun _ => All.nil) rfl rfl ?_; clear hC a; intro a hC
        refine L.nil ?_
        refine hk27 _ _ ?_; clear hk27; try clear k27
        refine W.cond hC rfl (fun h10 => ?_) (fun h10 => ?_)
        ·
          refine W.seqk fun k28 hk28 => ?_
          refine W.region ?_
          refine L.fa hC rfl rfl rfl (fun _ => All.nil) Try.underlying36 rfl Try.sizeOf3 rfl rfl rfl ?_; clear hC a; intro a hC
          refine L.ld hC rfl rfl rfl (fun _ => All.nil) m2 Try.isAgg3 rfl rfl rfl ?_; clear hC a; intro a hC
          refine L.pu hC rfl rfl (fun _ => All.nil) rfl rfl ?_; clear hC a; intro a hC
          refine L.fa hC rfl rfl rfl (fun _ => All.nil) Try.underlying36 rfl Try.sizeOf3 rfl rfl rfl ?_; clear hC a; intro a hC
          replace hC := hC.fr2
          refine L.st hC rfl rfl rfl rfl Try.sizeOf3 rfl rfl rfl rfl rfl ?_; clear hC a; intro a w hF hC
          refine L.nil ?_
          refine hk28 _ _ ?_; clear hk28; try clear k28
          refine W.seqk fun k29 hk29 => ?_
          refine W.region ?_
          refine L.fa hC rfl rfl rfl (fun _ => All.nil) Try.underlying36 rfl Try.sizeOf3 rfl rfl rfl ?_; clear hC a; intro a hC
          refine L.ld hC rfl rfl rfl (fun _ => All.nil) m0 Try.isAgg3 rfl rfl rfl ?_; clear hC a; intro a hC
          refine L.fa hC rfl rfl rfl (fun _ => All.nil) Try.underlying33 rfl Try.sizeOf3 rfl rfl rfl ?_; clear hC a; intro a hC
          refine L.ld hC rfl rfl rfl (fun _ => All.nil) m2 Try.isAgg3 rfl rfl rfl ?_; clear hC a; intro a hC
          refine L.pu hC rfl rfl (fun _ => All.nil) rfl rfl ?_; clear hC a; intro a hC
          refine L.nil ?_
          refine hk29 _ _ ?_; clear hk29; try clear k29
          refine W.cond hC rfl (fun h11 => ?_) (fun h11 => ?_)
          ·
            replace hC := hC.fr1
            replace hC := hC.fr2
            replace hC := hC.fr2
            refine W.drawN (fun c _ => match c with | 0 => [blkR bb (bE { k with fails := IntKind.i64.wrap (k.fails + 1) }) 36, blkR sb (sE s) 33, blkR rb (bE ⟨0, 0, 0, 0, 0⟩) 36] | 1 => [blkR bb (bE { k with mode := 1, fails := IntKind.i64.wrap (k.fails + 1) }) 36, blkR sb (sE s) 33, blkR rb (bE ⟨0, 0, 0, 0, 0⟩) 36] | 2 => [blkR bb (bE { k with mode := 1, til := IntKind.i64.wrap (t + s.opn), fails := IntKind.i64.wrap (k.fails + 1) }) 36, blkR sb (sE s) 33, blkR rb (bE ⟨0, 0, 0, 0, 0⟩) 36] | _ => [blkR bb (bE { k with mode := 1, til := IntKind.i64.wrap (t + s.opn), fails := 0 }) 36, blkR sb (sE s) 33, blkR rb (bE ⟨0, 0, 0, 0, 0⟩) 36]) undef hC Try.mixed rfl rfl ?_
            apply ERN.q (.det _ _) 1 rfl rfl
            · intro c' γ hle
              obtain rfl | rfl := (by omega : c' = 0 ∨ c' = 1)
              · intro a w hC
                refine L.pu hC rfl rfl (fun _ => All.nil) rfl rfl ?_; clear hC a; intro a hC
                exact L.nil ⟨⟨_, [], hC⟩, Frm.refl _ _⟩
              · intro a w hC
                refine L.pu hC rfl rfl (fun _ => All.nil) rfl rfl ?_; clear hC a; intro a hC
                exact L.nil ⟨⟨_, [], hC⟩, Frm.refl _ _⟩
            apply ERN.q (.det _ _) 1 rfl rfl
            · intro c' γ hle
              obtain rfl | rfl := (by omega : c' = 0 ∨ c' = 1)
              · intro a w hC
                refine L.fa hC rfl rfl rfl (fun _ => All.nil) Try.underlying33 rfl Try.sizeOf3 rfl rfl rfl ?_; clear hC a; intro a hC
                exact L.nil ⟨⟨_, [], hC⟩, Frm.refl _ _⟩
              · intro a w hC
                refine L.fa hC rfl rfl rfl (fun _ => All.nil) Try.underlying33 rfl Try.sizeOf3 rfl rfl rfl ?_; clear hC a; intro a hC
                exact L.nil ⟨⟨_, [], hC⟩, Frm.refl _ _⟩
            apply ERN.q (.det _ _) 1 rfl rfl
            · intro c' γ hle
              obtain rfl | rfl := (by omega : c' = 0 ∨ c' = 1)
              · intro a w hC
                refine L.ld hC rfl rfl rfl (fun _ => All.nil) m1 Try.isAgg3 rfl rfl rfl ?_; clear hC a; intro a hC
                exact L.nil ⟨⟨_, [], hC⟩, Frm.refl _ _⟩
              · intro a w hC
                refine L.ld hC rfl rfl rfl (fun _ => All.nil) m1 Try.isAgg3 rfl rfl rfl ?_; clear hC a; intro a hC
                exact L.nil ⟨⟨_, [], hC⟩, Frm.refl _ _⟩
            apply ERN.q (.det _ _) 1 rfl rfl
            · intro c' γ hle
              obtain rfl | rfl := (by omega : c' = 0 ∨ c' = 1)
              · intro a w hC
                refine L.pu hC rfl rfl (fun _ => All.nil) rfl rfl ?_; clear hC a; intro a hC
                exact L.nil ⟨⟨_, [], hC⟩, Frm.refl _ _⟩
              · intro a w hC
                refine L.pu hC rfl rfl (fun _ => All.nil) rfl rfl ?_; clear hC a; intro a hC
                exact L.nil ⟨⟨_, [], hC⟩, Frm.refl _ _⟩
            apply ERN.q (.det _ _) 0 rfl rfl
            · intro c' γ hle
              obtain rfl := (by omega : c' = 0)
              · intro a w hC
                refine L.fa hC rfl rfl rfl (fun _ => All.nil) Try.underlying36 rfl Try.sizeOf3 rfl rfl rfl ?_; clear hC a; intro a hC
                exact L.nil ⟨⟨_, [], hC⟩, Frm.refl _ _⟩
            apply ERN.f false (fun h => by cases h) rfl rfl
            · intro γ a w hC
              refine L.st hC rfl rfl rfl rfl Try.sizeOf3 rfl rfl rfl rfl rfl ?_; clear hC a; intro a w hF hC
              exact L.nil ⟨γ, _, fun _ => rfl, trivial, hC, hF⟩
            apply ERN.q (.det _ _) 1 rfl rfl
            · intro c' γ hle
              obtain rfl | rfl := (by omega : c' = 0 ∨ c' = 1)
              · intro a w hC
                refine L.fa hC rfl rfl rfl (fun _ => All.nil) Try.underlying36 rfl Try.sizeOf3 rfl rfl rfl ?_; clear hC a; intro a hC
                exact L.nil ⟨⟨_, [], hC⟩, Frm.refl _ _⟩
              · intro a w hC
                refine L.fa hC rfl rfl rfl (fun _ => All.nil) Try.underlying36 rfl Try.sizeOf3 rfl rfl rfl ?_; clear hC a; intro a hC
                exact L.nil ⟨⟨_, [], hC⟩, Frm.refl _ _⟩
            apply ERN.f false (fun h => by cases h) rfl rfl
            · intro γ a w hC
              refine L.st hC rfl rfl rfl rfl Try.sizeOf3 rfl rfl rfl rfl rfl ?_; clear hC a; intro a w hF hC
              exact L.nil ⟨γ, _, fun _ => rfl, trivial, hC, hF⟩
            apply ERN.q (.det _ _) 2 rfl rfl
            · intro c' γ hle
              obtain rfl | rfl | rfl := (by omega : c' = 0 ∨ c' = 1 ∨ c' = 2)
              · intro a w hC
                refine L.fa hC rfl rfl rfl (fun _ => All.nil) Try.underlying36 rfl Try.sizeOf3 rfl rfl rfl ?_; clear hC a; intro a hC
                exact L.nil ⟨⟨_, [], hC⟩, Frm.refl _ _⟩
              · intro a w hC
                refine L.fa hC rfl rfl rfl (fun _ => All.nil) Try.underlying36 rfl Try.sizeOf3 rfl rfl rfl ?_; clear hC a; intro a hC
                exact L.nil ⟨⟨_, [], hC⟩, Frm.refl _ _⟩
              · intro a w hC
                refine L.fa hC rfl rfl rfl (fun _ => All.nil) Try.underlying36 rfl Try.sizeOf3 rfl rfl rfl ?_; clear hC a; intro a hC
                exact L.nil ⟨⟨_, [], hC⟩, Frm.refl _ _⟩
            apply ERN.f false (fun h => by cases h) rfl rfl
            · intro γ a w hC
              refine L.st hC rfl rfl rfl rfl Try.sizeOf3 rfl rfl rfl rfl rfl ?_; clear hC a; intro a w hF hC
              exact L.nil ⟨γ, _, fun _ => rfl, trivial, hC, hF⟩
            refine ERN.nil ?_
            intro γ w' a w hC hw
            subst hw
            refine hk24 _ _ ?_; clear hk24; try clear k24
            refine W.seqk fun k30 hk30 => ?_
            refine W.region ?_
            refine L.lda hC rfl rfl rfl (fun _ => All.nil) m0 Try.isAgg36 Try.sizeOf36 rfl rfl rfl rfl ?_; clear hC a; intro a hC
            replace hC := hC.fr2
            refine L.st hC rfl rfl rfl rfl Try.sizeOf36 rfl rfl rfl rfl rfl ?_; clear hC a; intro a w hF hC
            refine L.pu hC rfl rfl (fun _ => All.nil) rfl rfl ?_; clear hC a; intro a hC
            refine L.nil ?_
            refine hk30 _ _ ?_; clear hk30; try clear k30
            refine W.ret ?_
            refine retl hC rfl (.agg rfl m0 Try.isAgg36 Try.sizeOf36 rfl (.tmp rfl .nil)) rfl ?_
            exact ⟨by unfold endRR; rw [if_neg (nt h1), if_neg (nt h2)]; unfold endRA; rw [if_neg (nt h9), if_pos h10, if_pos h11]; rfl, hC.frm⟩
          ·
            refine W.skip ?_
            refine hk24 _ _ ?_; clear hk24; try clear k24
            refine W.seqk fun k31 hk31 => ?_
            refine W.region ?_
            refine L.lda hC rfl rfl rfl (fun _ => All.nil) m0 Try.isAgg36 Try.sizeOf36 rfl rfl rfl rfl ?_; clear hC a; intro a hC
            replace hC := hC.fr1
            refine L.st hC rfl rfl rfl rfl Try.sizeOf36 rfl rfl rfl rfl rfl ?_; clear hC a; intro a w hF hC
            refine L.pu hC rfl rfl (fun _ => All.nil) rfl rfl ?_; clear hC a; intro a hC
            refine L.nil ?_
            refine hk31 _ _ ?_; clear hk31; try clear k31
            refine W.ret ?_
            refine retl hC rfl (.agg rfl m0 Try.isAgg36 Try.sizeOf36 rfl (.tmp rfl .nil)) rfl ?_
            exact ⟨by unfold endRR; rw [if_neg (nt h1), if_neg (nt h2)]; unfold endRA; rw [if_neg (nt h9), if_pos h10, if_neg (nt h11)]; rfl, hC.frm⟩
        ·
          refine W.seqk fun k32 hk32 => ?_
          refine W.region ?_
          refine L.fa hC rfl rfl rfl (fun _ => All.nil) Try.underlying36 rfl Try.sizeOf3 rfl rfl rfl ?_; clear hC a; intro a hC
          refine L.ld hC rfl rfl rfl (fun _ => All.nil) m2 Try.isAgg3 rfl rfl rfl ?_; clear hC a; intro a hC
          refine L.pu hC rfl rfl (fun _ => All.nil) rfl rfl ?_; clear hC a; intro a hC
          refine L.pu hC rfl rfl (fun _ => All.nil) rfl rfl ?_; clear hC a; intro a hC
          refine L.pu hC rfl rfl (fun _ => All.nil) rfl rfl ?_; clear hC a; intro a hC
          refine L.and hC rfl rfl rfl rfl (fun _ => All.nil) (fun _ hp => by simp only [All, List.cons_append, List.nil_append, List.append_nil, List.mem_cons, List.not_mem_nil, or_false, forall_eq_or_imp, forall_eq, Bool.and_eq_true, hp, Bool.not_false, Bool.not_true, and_self]) rfl rfl ?_; clear hC a; intro a hC
          refine L.pu hC rfl rfl (fun _ => All.nil) rfl rfl ?_; clear hC a; intro a hC
          refine L.pu hC rfl rfl (fun _ => All.nil) rfl rfl ?_; clear hC a; intro a hC
          refine L.and hC rfl rfl rfl rfl (fun _ => All.nil) (fun _ hp => by simp only [All, List.cons_append, List.nil_append, List.append_nil, List.mem_cons, List.not_mem_nil, or_false, forall_eq_or_imp, forall_eq, Bool.and_eq_true, hp, Bool.not_false, Bool.not_true, and_self]) rfl rfl ?_; clear hC a; intro a hC
          refine L.pu hC rfl rfl (fun _ => All.nil) rfl rfl ?_; clear hC a; intro a hC
          refine L.nil ?_
          refine hk32 _ _ ?_; clear hk32; try clear k32
          refine W.cond hC rfl (fun h12 => ?_) (fun h12 => ?_)
          ·
            refine W.seqk fun k33 hk33 => ?_
            refine W.region ?_
            refine L.fa hC rfl rfl rfl (fun _ => All.nil) Try.underlying36 rfl Try.sizeOf3 rfl rfl rfl ?_; clear hC a; intro a hC
            refine L.ld hC rfl rfl rfl (fun _ => All.nil) m2 Try.isAgg3 rfl rfl rfl ?_; clear hC a; intro a hC
            refine L.pu hC rfl rfl (fun _ => All.nil) rfl rfl ?_; clear hC a; intro a hC
            refine L.fa hC rfl rfl rfl (fun _ => All.nil) Try.underlying36 rfl Try.sizeOf3 rfl rfl rfl ?_; clear hC a; intro a hC
            replace hC := hC.fr2
            refine L.st hC rfl rfl rfl rfl Try.sizeOf3 rfl rfl rfl rfl rfl ?_; clear hC a; intro a w hF hC
            refine L.nil ?_
            refine hk33 _ _ ?_; clear hk33; try clear k33
            refine W.seqk fun k34 hk34 => ?_
            refine W.region ?_
            refine L.fa hC rfl rfl rfl (fun _ => All.nil) Try.underlying36 rfl Try.sizeOf3 rfl rfl rfl ?_; clear hC a; intro a hC
            refine L.ld hC rfl rfl rfl (fun _ => All.nil) m0 Try.isAgg3 rfl rfl rfl ?_; clear hC a; intro a hC
            refine L.fa hC rfl rfl rfl (fun _ => All.nil) Try.underlying33 rfl Try.sizeOf3 rfl rfl rfl ?_; clear hC a; intro a hC
            refine L.ld hC rfl rfl rfl (fun _ => All.nil) m2 Try.isAgg3 rfl rfl rfl ?_; clear hC a; intro a hC
            refine L.pu hC rfl rfl (fun _ => All.nil) rfl rfl ?_; clear hC a; intro a hC
            refine L.nil ?_
            refine hk34 _ _ ?_; clear hk34; try clear k34
            refine W.cond hC rfl (fun h13 => ?_) (fun h13 => ?_)
            ·
              refine W.region ?_
              refine L.fa hC rfl rfl rfl (fun _ => All.nil) Try.underlying36 rfl Try.sizeOf3 rfl rfl rfl ?_; clear hC a; intro a hC
              refine L.st hC rfl rfl rfl rfl Try.sizeOf3 rfl rfl rfl rfl rfl ?_; clear hC a; intro a w hF hC
              refine L.fa hC rfl rfl rfl (fun _ => All.nil) Try.underlying36 rfl Try.sizeOf3 rfl rfl rfl ?_; clear hC a; intro a hC
              refine L.st hC rfl rfl rfl rfl Try.sizeOf3 rfl rfl rfl rfl rfl ?_; clear hC a; intro a w hF hC
              refine L.fa hC rfl rfl rfl (fun _ => All.nil) Try.underlying36 rfl Try.sizeOf3 rfl rfl rfl ?_; clear hC a; intro a hC
              refine L.st hC rfl rfl rfl rfl Try.sizeOf3 rfl rfl rfl rfl rfl ?_; clear hC a; intro a w hF hC
              refine L.nil ?_
              refine hk24 _ _ ?_; clear hk24; try clear k24
              refine W.seqk fun k35 hk35 => ?_
              refine W.region ?_
              refine L.lda hC rfl rfl rfl (fun _ => All.nil) m0 Try.isAgg36 Try.sizeOf36 rfl rfl rfl rfl ?_; clear hC a; intro a hC
              replace hC := hC.fr1
              refine L.st hC rfl rfl rfl rfl Try.sizeOf36 rfl rfl rfl rfl rfl ?_; clear hC a; intro a w hF hC
              refine L.pu hC rfl rfl (fun _ => All.nil) rfl rfl ?_; clear hC a; intro a hC
              refine L.nil ?_
              refine hk35 _ _ ?_; clear hk35; try clear k35
              refine W.ret ?_
              refine retl hC rfl (.agg rfl m0 Try.isAgg36 Try.sizeOf36 rfl (.tmp rfl .nil)) rfl ?_
              exact ⟨by unfold endRR; rw [if_neg (nt h1), if_neg (nt h2)]; unfold endRA; rw [if_neg (nt h9), if_neg (nt h10), if_pos h12, if_pos h13]; rfl, hC.frm⟩
            ·
              refine W.skip ?_
              refine hk24 _ _ ?_; clear hk24; try clear k24
              refine W.seqk fun k36 hk36 => ?_
              refine W.region ?_
              refine L.lda hC rfl rfl rfl (fun _ => All.nil) m0 Try.isAgg36 Try.sizeOf36 rfl rfl rfl rfl ?_; clear hC a; intro a hC
              replace hC := hC.fr1
              refine L.st hC rfl rfl rfl rfl Try.sizeOf36 rfl rfl rfl rfl rfl ?_; clear hC a; intro a w hF hC
              refine L.pu hC rfl rfl (fun _ => All.nil) rfl rfl ?_; clear hC a; intro a hC
              refine L.nil ?_
              refine hk36 _ _ ?_; clear hk36; try clear k36
              refine W.ret ?_
              refine retl hC rfl (.agg rfl m0 Try.isAgg36 Try.sizeOf36 rfl (.tmp rfl .nil)) rfl ?_
              exact ⟨by unfold endRR; rw [if_neg (nt h1), if_neg (nt h2)]; unfold endRA; rw [if_neg (nt h9), if_neg (nt h10), if_pos h12, if_neg (nt h13)]; rfl, hC.frm⟩
          ·
            refine W.seqk fun k37 hk37 => ?_
            refine W.region ?_
            refine L.fa hC rfl rfl rfl (fun _ => All.nil) Try.underlying36 rfl Try.sizeOf3 rfl rfl rfl ?_; clear hC a; intro a hC
            refine L.ld hC rfl rfl rfl (fun _ => All.nil) m2 Try.isAgg3 rfl rfl rfl ?_; clear hC a; intro a hC
            refine L.pu hC rfl rfl (fun _ => All.nil) rfl rfl ?_; clear hC a; intro a hC
            refine L.pu hC rfl rfl (fun _ => All.nil) rfl rfl ?_; clear hC a; intro a hC
            refine L.pu hC rfl rfl (fun _ => All.nil) rfl rfl ?_; clear hC a; intro a hC
            refine L.and hC rfl rfl rfl rfl (fun _ => All.nil) (fun _ hp => by simp only [All, List.cons_append, List.nil_append, List.append_nil, List.mem_cons, List.not_mem_nil, or_false, forall_eq_or_imp, forall_eq, Bool.and_eq_true, hp, Bool.not_false, Bool.not_true, and_self]) rfl rfl ?_; clear hC a; intro a hC
            refine L.pu hC rfl rfl (fun _ => All.nil) rfl rfl ?_; clear hC a; intro a hC
            refine L.nil ?_
            refine hk37 _ _ ?_; clear hk37; try clear k37
            refine W.cond hC rfl (fun h14 => ?_) (fun h14 => ?_)
            ·
              replace hC := hC.fr1
              replace hC := hC.fr2
              refine W.drawN (fun c _ => match c with | 0 => [blkR bb (bE { k with mode := k.mode }) 36, blkR sb (sE s) 33, blkR rb (bE ⟨0, 0, 0, 0, 0⟩) 36] | 1 => [blkR bb (bE { k with mode := 1 }) 36, blkR sb (sE s) 33, blkR rb (bE ⟨0, 0, 0, 0, 0⟩) 36] | 2 => [blkR bb (bE { k with mode := 1, til := IntKind.i64.wrap (t + s.opn) }) 36, blkR sb (sE s) 33, blkR rb (bE ⟨0, 0, 0, 0, 0⟩) 36] | _ => [blkR bb (bE { k with mode := 1, til := IntKind.i64.wrap (t + s.opn), wins := 0 }) 36, blkR sb (sE s) 33, blkR rb (bE ⟨0, 0, 0, 0, 0⟩) 36]) undef hC Try.mixed rfl rfl ?_
              apply ERN.q (.det _ _) 1 rfl rfl
              · intro c' γ hle
                obtain rfl | rfl := (by omega : c' = 0 ∨ c' = 1)
                · intro a w hC
                  refine L.pu hC rfl rfl (fun _ => All.nil) rfl rfl ?_; clear hC a; intro a hC
                  exact L.nil ⟨⟨_, [], hC⟩, Frm.refl _ _⟩
                · intro a w hC
                  refine L.pu hC rfl rfl (fun _ => All.nil) rfl rfl ?_; clear hC a; intro a hC
                  exact L.nil ⟨⟨_, [], hC⟩, Frm.refl _ _⟩
              apply ERN.q (.det _ _) 1 rfl rfl
              · intro c' γ hle
                obtain rfl | rfl := (by omega : c' = 0 ∨ c' = 1)
                · intro a w hC
                  refine L.fa hC rfl rfl rfl (fun _ => All.nil) Try.underlying33 rfl Try.sizeOf3 rfl rfl rfl ?_; clear hC a; intro a hC
                  exact L.nil ⟨⟨_, [], hC⟩, Frm.refl _ _⟩
                · intro a w hC
                  refine L.fa hC rfl rfl rfl (fun _ => All.nil) Try.underlying33 rfl Try.sizeOf3 rfl rfl rfl ?_; clear hC a; intro a hC
                  exact L.nil ⟨⟨_, [], hC⟩, Frm.refl _ _⟩
              apply ERN.q (.det _ _) 1 rfl rfl
              · intro c' γ hle
                obtain rfl | rfl := (by omega : c' = 0 ∨ c' = 1)
                · intro a w hC
                  refine L.ld hC rfl rfl rfl (fun _ => All.nil) m1 Try.isAgg3 rfl rfl rfl ?_; clear hC a; intro a hC
                  exact L.nil ⟨⟨_, [], hC⟩, Frm.refl _ _⟩
                · intro a w hC
                  refine L.ld hC rfl rfl rfl (fun _ => All.nil) m1 Try.isAgg3 rfl rfl rfl ?_; clear hC a; intro a hC
                  exact L.nil ⟨⟨_, [], hC⟩, Frm.refl _ _⟩
              apply ERN.q (.det _ _) 1 rfl rfl
              · intro c' γ hle
                obtain rfl | rfl := (by omega : c' = 0 ∨ c' = 1)
                · intro a w hC
                  refine L.pu hC rfl rfl (fun _ => All.nil) rfl rfl ?_; clear hC a; intro a hC
                  exact L.nil ⟨⟨_, [], hC⟩, Frm.refl _ _⟩
                · intro a w hC
                  refine L.pu hC rfl rfl (fun _ => All.nil) rfl rfl ?_; clear hC a; intro a hC
                  exact L.nil ⟨⟨_, [], hC⟩, Frm.refl _ _⟩
              apply ERN.q (.det _ _) 0 rfl rfl
              · intro c' γ hle
                obtain rfl := (by omega : c' = 0)
                · intro a w hC
                  refine L.fa hC rfl rfl rfl (fun _ => All.nil) Try.underlying36 rfl Try.sizeOf3 rfl rfl rfl ?_; clear hC a; intro a hC
                  exact L.nil ⟨⟨_, [], hC⟩, Frm.refl _ _⟩
              apply ERN.f false (fun h => by cases h) rfl rfl
              · intro γ a w hC
                refine L.st hC rfl rfl rfl rfl Try.sizeOf3 rfl rfl rfl rfl rfl ?_; clear hC a; intro a w hF hC
                exact L.nil ⟨γ, _, fun _ => rfl, trivial, hC, hF⟩
              apply ERN.q (.det _ _) 1 rfl rfl
              · intro c' γ hle
                obtain rfl | rfl := (by omega : c' = 0 ∨ c' = 1)
                · intro a w hC
                  refine L.fa hC rfl rfl rfl (fun _ => All.nil) Try.underlying36 rfl Try.sizeOf3 rfl rfl rfl ?_; clear hC a; intro a hC
                  exact L.nil ⟨⟨_, [], hC⟩, Frm.refl _ _⟩
                · intro a w hC
                  refine L.fa hC rfl rfl rfl (fun _ => All.nil) Try.underlying36 rfl Try.sizeOf3 rfl rfl rfl ?_; clear hC a; intro a hC
                  exact L.nil ⟨⟨_, [], hC⟩, Frm.refl _ _⟩
              apply ERN.f false (fun h => by cases h) rfl rfl
              · intro γ a w hC
                refine L.st hC rfl rfl rfl rfl Try.sizeOf3 rfl rfl rfl rfl rfl ?_; clear hC a; intro a w hF hC
                exact L.nil ⟨γ, _, fun _ => rfl, trivial, hC, hF⟩
              apply ERN.q (.det _ _) 2 rfl rfl
              · intro c' γ hle
                obtain rfl | rfl | rfl := (by omega : c' = 0 ∨ c' = 1 ∨ c' = 2)
                · intro a w hC
                  refine L.fa hC rfl rfl rfl (fun _ => All.nil) Try.underlying36 rfl Try.sizeOf3 rfl rfl rfl ?_; clear hC a; intro a hC
                  exact L.nil ⟨⟨_, [], hC⟩, Frm.refl _ _⟩
                · intro a w hC
                  refine L.fa hC rfl rfl rfl (fun _ => All.nil) Try.underlying36 rfl Try.sizeOf3 rfl rfl rfl ?_; clear hC a; intro a hC
                  exact L.nil ⟨⟨_, [], hC⟩, Frm.refl _ _⟩
                · intro a w hC
                  refine L.fa hC rfl rfl rfl (fun _ => All.nil) Try.underlying36 rfl Try.sizeOf3 rfl rfl rfl ?_; clear hC a; intro a hC
                  exact L.nil ⟨⟨_, [], hC⟩, Frm.refl _ _⟩
              apply ERN.f false (fun h => by cases h) rfl rfl
              · intro γ a w hC
                refine L.st hC rfl rfl rfl rfl Try.sizeOf3 rfl rfl rfl rfl rfl ?_; clear hC a; intro a w hF hC
                exact L.nil ⟨γ, _, fun _ => rfl, trivial, hC, hF⟩
              refine ERN.nil ?_
              intro γ w' a w hC hw
              subst hw
              refine hk24 _ _ ?_; clear hk24; try clear k24
              refine W.seqk fun k38 hk38 => ?_
              refine W.region ?_
              refine L.lda hC rfl rfl rfl (fun _ => All.nil) m0 Try.isAgg36 Try.sizeOf36 rfl rfl rfl rfl ?_; clear hC a; intro a hC
              replace hC := hC.fr2
              refine L.st hC rfl rfl rfl rfl Try.sizeOf36 rfl rfl rfl rfl rfl ?_; clear hC a; intro a w hF hC
              refine L.pu hC rfl rfl (fun _ => All.nil) rfl rfl ?_; clear hC a; intro a hC
              refine L.nil ?_
              refine hk38 _ _ ?_; clear hk38; try clear k38
              refine W.ret ?_
              refine retl hC rfl (.agg rfl m0 Try.isAgg36 Try.sizeOf36 rfl (.tmp rfl .nil)) rfl ?_
              exact ⟨by unfold endRR; rw [if_neg (nt h1), if_neg (nt h2)]; unfold endRA; rw [if_neg (nt h9), if_neg (nt h10), if_neg (nt h12), if_pos h14]; rfl, hC.frm⟩
            ·
              refine W.skip ?_
              refine hk24 _ _ ?_; clear hk24; try clear k24
              refine W.seqk fun k39 hk39 => ?_
              refine W.region ?_
              refine L.lda hC rfl rfl rfl (fun _ => All.nil) m2 Try.isAgg36 Try.sizeOf36 rfl rfl rfl rfl ?_; clear hC a; intro a hC
              refine L.st hC rfl rfl rfl rfl Try.sizeOf36 rfl rfl rfl rfl rfl ?_; clear hC a; intro a w hF hC
              refine L.pu hC rfl rfl (fun _ => All.nil) rfl rfl ?_; clear hC a; intro a hC
              refine L.nil ?_
              refine hk39 _ _ ?_; clear hk39; try clear k39
              refine W.ret ?_
              refine retl hC rfl (.agg rfl m0 Try.isAgg36 Try.sizeOf36 rfl (.tmp rfl .nil)) rfl ?_
              exact ⟨by unfold endRR; rw [if_neg (nt h1), if_neg (nt h2)]; unfold endRA; rw [if_neg (nt h9), if_neg (nt h10), if_neg (nt h12), if_neg (nt h14)]; rfl, hC.frm⟩

theorem runR_ok (v : Value) (s : BSet) (l : List Act) (w0 : World) (hr : (rdR v actE l).ok w0) : Calls Try.prog 18 #[.agg (sE s).toArray, v] w0 fun e w' => ∃ r : Value, e = .returned (.tuple #[.agg (bE (runR s l).1).toArray, r, .int .i64 (runR s l).2.2]) ∧ True ∧ Post Nob [ownR r 3 intE (runR s l).2.1] w0 w' := by
  have hlen := rd_lt hr
  refine enter (μ := [rdR v actE l]) (S := Nob) (vs := [.agg (sE s).toArray, v]) Try.func18 rfl Try.ntmps18 rfl ⟨by simpa using hr, by simp⟩ (by simp [rdR]) (fun a hC => ?_)
  refine W.seqk fun k1 hk1 => ?_
  refine W.region ?_
  refine L.box hC rfl rfl rfl rfl rfl rfl ?_; clear hC a; intro sb a w hF hC
  refine L.alloc hC rfl rfl Try.zeroValue36 rfl rfl rfl ?_; clear hC a; intro rb a w hF hC
  refine L.pu hC rfl rfl (fun _ => All.nil) rfl rfl ?_; clear hC a; intro a hC
  refine L.pu hC rfl rfl (fun _ => All.nil) rfl rfl ?_; clear hC a; intro a hC
  refine L.nil ?_
  refine hk1 _ _ ?_; clear hk1; try clear k1
  refine W.seqk fun k2 hk2 => ?_
  refine W.seqk fun k3 hk3 => ?_
  refine W.region ?_
  refine L.pu hC rfl rfl (fun _ => All.nil) rfl rfl ?_; clear hC a; intro a hC
  refine L.nil ?_
  refine hk3 _ _ ?_; clear hk3; try clear k3
  refine W.block ?_
  replace hC := hC.fr1
  replace hC := hC.fr2
  refine W.loop (fun (j : Nat) a w' => (j ≤ l.length) ∧ (∀ x ∈ l.take j, badK x = false) ∧ Conf 133 Nob w0 [(7, (none, .int .i64 (j : Int))), (1, (none, v)), (2, (none, .pointer (some ⟨sb, 0, none⟩))), (4, (none, .pointer (some ⟨rb, 0, none⟩)))] [rdR v actE l, blkR sb (sE s) 33, blkR rb (bE ⟨0, 0, 0, 0, 0⟩) 36] a w') (fun (j : Nat) => l.length - j) 0 ?_ ?_
  · exact ⟨Nat.zero_le _, by simp, hC.keep ⟨rfl, rfl, rfl, rfl, trivial⟩⟩
  · rintro j a w ⟨hj, hb, hC⟩
    refine W.seqk fun k4 hk4 => ?_
    refine W.seqk fun k5 hk5 => ?_
    refine W.region ?_
    refine L.pu hC rfl rfl (fun _ => All.nil) rfl rfl ?_; clear hC a; intro a hC
    refine L.pu hC rfl rfl (fun _ => All.nil) rfl rfl ?_; clear hC a; intro a hC
    refine L.len hC rfl rfl rfl (fun _ => All.nil) (rd_form (hC.at m0)) Try.underlying34 rfl rfl ?_; clear hC a; intro a hC
    refine L.pu hC rfl rfl (fun _ => All.nil) rfl rfl ?_; clear hC a; intro a hC
    refine L.nil ?_
    refine hk5 _ _ ?_; clear hk5; try clear k5
    refine W.cond hC rfl (fun h1 => ?_) (fun h1 => ?_)
    ·
      have h1 := of_decide_eq_true h1
      refine W.skip ?_
      refine hk4 _ _ ?_; clear hk4; try clear k4
      refine W.seqk fun k6 hk6 => ?_
      refine W.block ?_
      refine W.seqk fun k7 hk7 => ?_
      refine W.region ?_
      refine L.pu hC rfl rfl (fun _ => All.nil) rfl rfl ?_; clear hC a; intro a hC
      refine L.pu hC rfl rfl (fun _ => All.nil) rfl rfl ?_; clear hC a; intro a hC
      refine L.ixr hC rfl rfl rfl rfl m0 (fun _ => All.nil) (fun _ => All.nil) Try.underlying34 Try.sizeOf106 (fun _ => by omega) rfl rfl ?_; clear hC a; intro a hC
      refine L.fae hC rfl rfl rfl (fun _ => All.nil) Try.underlying106 rfl Try.sizeOf3 rfl (fun hg => rd_some (hC.at m0) (by omega)) rfl rfl ?_; clear hC a; intro a hC
      refine L.ldx hC rfl rfl rfl rfl (fun _ => All.nil) (fun hg => rd_bang hC m0 (by omega) _) Try.isAgg3 rfl rfl rfl ?_; clear hC a; intro a hC
      refine L.pu hC rfl rfl (fun _ => All.nil) rfl rfl ?_; clear hC a; intro a hC
      refine L.pu hC rfl rfl (fun _ => All.nil) rfl rfl ?_; clear hC a; intro a hC
      refine L.pu hC rfl rfl (fun _ => All.nil) rfl rfl ?_; clear hC a; intro a hC
      refine L.pu hC rfl rfl (fun _ => All.nil) rfl rfl ?_; clear hC a; intro a hC
      refine L.ixr hC rfl rfl rfl rfl m0 (fun hg => by simp only [Gt, Bool.and_eq_true] at hg; simp only [All, List.cons_append, List.nil_append, List.append_nil, List.mem_cons, List.not_mem_nil, or_false, forall_eq_or_imp, forall_eq, Bool.and_eq_true, hg, Bool.not_false, Bool.not_true, and_self]) (fun hg => by simp only [Gt, Bool.and_eq_true] at hg; simp only [All, List.cons_append, List.nil_append, List.append_nil, List.mem_cons, List.not_mem_nil, or_false, forall_eq_or_imp, forall_eq, Bool.and_eq_true, hg, Bool.not_false, Bool.not_true, and_self]) Try.underlying34 Try.sizeOf106 (fun _ => by omega) rfl rfl ?_; clear hC a; intro a hC
      refine L.fae hC rfl rfl rfl (fun hg => by simp only [Gt, Bool.and_eq_true] at hg; simp only [All, List.cons_append, List.nil_append, List.append_nil, List.mem_cons, List.not_mem_nil, or_false, forall_eq_or_imp, forall_eq, Bool.and_eq_true, hg, Bool.not_false, Bool.not_true, and_self]) Try.underlying106 rfl Try.sizeOf3 rfl (fun hg => rd_some (hC.at m0) (by omega)) rfl rfl ?_; clear hC a; intro a hC
      refine L.ldx hC rfl rfl rfl rfl (fun hg => by simp only [Gt, Bool.and_eq_true] at hg; simp only [All, List.cons_append, List.nil_append, List.append_nil, List.mem_cons, List.not_mem_nil, or_false, forall_eq_or_imp, forall_eq, Bool.and_eq_true, hg, Bool.not_false, Bool.not_true, and_self]) (fun hg => rd_bang hC m0 (by omega) _) Try.isAgg3 rfl rfl rfl ?_; clear hC a; intro a hC
      refine L.pu hC rfl rfl (fun hg => by simp only [Gt, Bool.and_eq_true] at hg; simp only [All, List.cons_append, List.nil_append, List.append_nil, List.mem_cons, List.not_mem_nil, or_false, forall_eq_or_imp, forall_eq, Bool.and_eq_true, hg, Bool.not_false, Bool.not_true, and_self]) rfl rfl ?_; clear hC a; intro a hC
      refine L.or hC rfl rfl rfl rfl (fun _ => All.nil) (fun _ hp => by simp only [All, List.cons_append, List.nil_append, List.append_nil, List.mem_cons, List.not_mem_nil, or_false, forall_eq_or_imp, forall_eq, Bool.and_eq_true, hp, Bool.not_false, Bool.not_true, and_self]) rfl rfl ?_; clear hC a; intro a hC
      refine L.nil ?_
      refine hk7 _ _ ?_; clear hk7; try clear k7
      refine W.cond hC rfl (fun h2 => ?_) (fun h2 => ?_)
      ·
        refine W.seqk fun k8 hk8 => ?_
        refine W.region ?_
        refine L.buildS (ps := [(0, 1), (1, 1), (2, 1), (3, 1), (4, 1)]) hC rfl rfl rfl (fun _ => All.nil) Try.zeroValue36 Try.underlying36 ⟨⟨rfl, Try.sizeOf3⟩, ⟨rfl, Try.sizeOf3⟩, ⟨rfl, Try.sizeOf3⟩, ⟨rfl, Try.sizeOf3⟩, ⟨rfl, Try.sizeOf3⟩, trivial⟩ rfl rfl rfl ?_; clear hC a; intro a hC
        replace hC := hC.fr2
        refine L.st hC rfl rfl rfl rfl Try.sizeOf36 rfl rfl rfl rfl rfl ?_; clear hC a; intro a w hF hC
        refine L.pu hC rfl rfl (fun _ => All.nil) rfl rfl ?_; clear hC a; intro a hC
        refine L.pu hC rfl rfl (fun _ => All.nil) rfl rfl ?_; clear hC a; intro a hC
        refine L.nil ?_
        refine hk8 _ _ ?_; clear hk8; try clear k8
        refine W.ret ?_
        replace hC := (hC.one (r := _) m0)
        refine retl hC rfl (.agg rfl m0 Try.isAgg36 Try.sizeOf36 rfl (.tmp rfl (.tmp rfl .nil))) rfl ?_
        replace hC := (hC.drop).nilown (ty := 3) (E := intE)
        exact ⟨_, by unfold runR; rw [if_pos (any_yes (bang_mem (by omega)) h2)]; rfl, trivial, by unfold runR; rw [if_pos (any_yes (bang_mem (by omega)) h2)]; exact hC.toPost (by simp [ownR])⟩
      ·
        refine W.skip ?_
        refine hk6 _ _ ?_; clear hk6; try clear k6
        refine W.region ?_
        refine L.pu hC rfl rfl (fun _ => All.nil) rfl rfl ?_; clear hC a; intro a hC
        refine L.pu hC rfl rfl (fun _ => All.nil) rfl rfl ?_; clear hC a; intro a hC
        refine L.pu hC rfl rfl (fun _ => All.nil) rfl rfl ?_; clear hC a; intro a hC
        refine L.nil ?_
        replace hC := hC.fr2
        replace hC := hC.fr2
        replace hC := hC.fr2
        exact ⟨j + 1, ⟨by omega, fidx_step hb (by omega) h2, hC.keep ⟨geti rfl (w64 (by omega)), rfl, rfl, rfl, trivial⟩⟩, by first | omega | (dsimp only; omega)⟩
    ·
      have h1 := of_decide_eq_false h1
      refine W.exit ?_
      refine Kb.here ?_
      refine hk2 _ _ ?_; clear hk2; try clear k2
      refine W.seqk fun k9 hk9 => ?_
      refine W.seqk fun k10 hk10 => ?_
      refine W.region ?_
      refine L.pu hC rfl rfl (fun _ => All.nil) rfl rfl ?_; clear hC a; intro a hC
      refine L.len hC rfl rfl rfl (fun _ => All.nil) (rd_form (hC.at m0)) Try.underlying34 rfl rfl ?_; clear hC a; intro a hC
      refine L.pu hC rfl rfl (fun _ => All.nil) rfl rfl ?_; clear hC a; intro a hC
      refine L.nil ?_
      refine hk10 _ _ ?_; clear hk10; try clear k10
      refine W.cond hC rfl (fun h3 => ?_) (fun h3 => ?_)
      ·
        have hK : l.any badK = false := any_no (by rwa [List.take_of_length_le (by omega)] at hb)
        refine W.seqk fun k11 hk11 => ?_
        refine W.region ?_
        refine L.buildS (ps := [(0, 1), (1, 1), (2, 1), (3, 1), (4, 1)]) hC rfl rfl rfl (fun _ => All.nil) Try.zeroValue36 Try.underlying36 ⟨⟨rfl, Try.sizeOf3⟩, ⟨rfl, Try.sizeOf3⟩, ⟨rfl, Try.sizeOf3⟩, ⟨rfl, Try.sizeOf3⟩, ⟨rfl, Try.sizeOf3⟩, trivial⟩ rfl rfl rfl ?_; clear hC a; intro a hC
        replace hC := hC.fr2
        refine L.st hC rfl rfl rfl rfl Try.sizeOf36 rfl rfl rfl rfl rfl ?_; clear hC a; intro a w hF hC
        refine L.pu hC rfl rfl (fun _ => All.nil) rfl rfl ?_; clear hC a; intro a hC
        refine L.pu hC rfl rfl (fun _ => All.nil) rfl rfl ?_; clear hC a; intro a hC
        refine L.nil ?_
        refine hk11 _ _ ?_; clear hk11; try clear k11
        refine W.ret ?_
        replace hC := (hC.one (r := _) m0)
        refine retl hC rfl (.agg rfl m0 Try.isAgg36 Try.sizeOf36 rfl (.tmp rfl (.tmp rfl .nil))) rfl ?_
        replace hC := (hC.drop).nilown (ty := 3) (E := intE)
        exact ⟨_, by unfold runR; rw [if_neg (nt hK), if_pos h3]; rfl, trivial, by unfold runR; rw [if_neg (nt hK), if_pos h3]; exact hC.toPost (by simp [ownR])⟩
      ·
        have hK : l.any badK = false := any_no (by rwa [List.take_of_length_le (by omega)] at hb)
        refine W.skip ?_
        refine hk9 _ _ ?_; clear hk9; try clear k9
        refine W.seqk fun k12 hk12 => ?_
        refine W.region ?_
        refine L.pu hC rfl rfl (fun _ => All.nil) rfl rfl ?_; clear hC a; intro a hC
        refine L.nil ?_
        refine hk12 _ _ ?_; clear hk12; try clear k12
        refine W.seqk fun k13 hk13 => ?_
        refine W.seqk fun k14 hk14 => ?_
        refine W.region ?_
        refine L.pu hC rfl rfl (fun _ => All.nil) rfl rfl ?_; clear hC a; intro a hC
        refine L.nil ?_
        refine hk14 _ _ ?_; clear hk14; try clear k14
        refine W.block ?_
        replace hC := hC.fr2
        replace hC := hC.fr2
        replace hC := hC.fr2
        refine W.loop (fun (gst : Nat × Int) a w' => match gst with | ⟨j, last⟩ => (j ≤ l.length) ∧ (badT last (l.drop j) = badT 0 l) ∧ Conf 133 Nob w0 [(9, (none, .int .i64 (j : Int))), (8, (none, .int .i64 last)), (1, (none, v)), (2, (none, .pointer (some ⟨sb, 0, none⟩))), (4, (none, .pointer (some ⟨rb, 0, none⟩)))] [rdR v actE l, blkR sb (sE s) 33, blkR rb (bE ⟨0, 0, 0, 0, 0⟩) 36] a w') (fun (gst : Nat × Int) => match gst with | ⟨j, last⟩ => l.length - j) (0, 0) ?_ ?_
        · exact ⟨Nat.zero_le _, rfl, hC.keep ⟨rfl, rfl, rfl, rfl, rfl, trivial⟩⟩
        · rintro ⟨j, last⟩ a w ⟨hj2, hb2, hC⟩
          refine W.seqk fun k15 hk15 => ?_
          refine W.seqk fun k16 hk16 => ?_
          refine W.region ?_
          refine L.pu hC rfl rfl (fun _ => All.nil) rfl rfl ?_; clear hC a; intro a hC
          refine L.pu hC rfl rfl (fun _ => All.nil) rfl rfl ?_; clear hC a; intro a hC
          refine L.len hC rfl rfl rfl (fun _ => All.nil) (rd_form (hC.at m0)) Try.underlying34 rfl rfl ?_; clear hC a; intro a hC
          refine L.pu hC rfl rfl (fun _ => All.nil) rfl rfl ?_; clear hC a; intro a hC
          refine L.nil ?_
          refine hk16 _ _ ?_; clear hk16; try clear k16
          refine W.cond hC rfl (fun h4 => ?_) (fun h4 => ?_)
          ·
            have h4 := of_decide_eq_true h4
            refine W.skip ?_
            refine hk15 _ _ ?_; clear hk15; try clear k15
            refine W.seqk fun k17 hk17 => ?_
            refine W.block ?_
            refine W.seqk fun k18 hk18 => ?_
            refine W.seqk fun k19 hk19 => ?_
            refine W.region ?_
            refine L.pu hC rfl rfl (fun _ => All.nil) rfl rfl ?_; clear hC a; intro a hC
            refine L.pu hC rfl rfl (fun _ => All.nil) rfl rfl ?_; clear hC a; intro a hC
            refine L.ixr hC rfl rfl rfl rfl m0 (fun _ => All.nil) (fun _ => All.nil) Try.underlying34 Try.sizeOf106 (fun _ => by omega) rfl rfl ?_; clear hC a; intro a hC
            refine L.fae hC rfl rfl rfl (fun _ => All.nil) Try.underlying106 rfl Try.sizeOf3 rfl (fun hg => rd_some (hC.at m0) (by omega)) rfl rfl ?_; clear hC a; intro a hC
            refine L.ldx hC rfl rfl rfl rfl (fun _ => All.nil) (fun hg => rd_bang hC m0 (by omega) _) Try.isAgg3 rfl rfl rfl ?_; clear hC a; intro a hC
            refine L.pu hC rfl rfl (fun _ => All.nil) rfl rfl ?_; clear hC a; intro a hC
            refine L.pu hC rfl rfl (fun _ => All.nil) rfl rfl ?_; clear hC a; intro a hC
            refine L.pu hC rfl rfl (fun _ => All.nil) rfl rfl ?_; clear hC a; intro a hC
            refine L.pu hC rfl rfl (fun _ => All.nil) rfl rfl ?_; clear hC a; intro a hC
            refine L.pu hC rfl rfl (fun _ => All.nil) rfl rfl ?_; clear hC a; intro a hC
            refine L.ixr hC rfl rfl rfl rfl m0 (fun hg => by simp only [Gt, Bool.and_eq_true] at hg; simp only [All, List.cons_append, List.nil_append, List.append_nil, List.mem_cons, List.not_mem_nil, or_false, forall_eq_or_imp, forall_eq, Bool.and_eq_true, hg, Bool.not_false, Bool.not_true, and_self]) (fun hg => by simp only [Gt, Bool.and_eq_true] at hg; simp only [All, List.cons_append, List.nil_append, List.append_nil, List.mem_cons, List.not_mem_nil, or_false, forall_eq_or_imp, forall_eq, Bool.and_eq_true, hg, Bool.not_false, Bool.not_true, and_self]) Try.underlying34 Try.sizeOf106 (fun _ => by omega) rfl rfl ?_; clear hC a; intro a hC
            refine L.fae hC rfl rfl rfl (fun hg => by simp only [Gt, Bool.and_eq_true] at hg; simp only [All, List.cons_append, List.nil_append, List.append_nil, List.mem_cons, List.not_mem_nil, or_false, forall_eq_or_imp, forall_eq, Bool.and_eq_true, hg, Bool.not_false, Bool.not_true, and_self]) Try.underlying106 rfl Try.sizeOf3 rfl (fun hg => rd_some (hC.at m0) (by omega)) rfl rfl ?_; clear hC a; intro a hC
            refine L.ldx hC rfl rfl rfl rfl (fun hg => by simp only [Gt, Bool.and_eq_true] at hg; simp only [All, List.cons_append, List.nil_append, List.append_nil, List.mem_cons, List.not_mem_nil, or_false, forall_eq_or_imp, forall_eq, Bool.and_eq_true, hg, Bool.not_false, Bool.not_true, and_self]) (fun hg => rd_bang hC m0 (by omega) _) Try.isAgg3 rfl rfl rfl ?_; clear hC a; intro a hC
            refine L.pu hC rfl rfl (fun hg => by simp only [Gt, Bool.and_eq_true] at hg; simp only [All, List.cons_append, List.nil_append, List.append_nil, List.mem_cons, List.not_mem_nil, or_false, forall_eq_or_imp, forall_eq, Bool.and_eq_true, hg, Bool.not_false, Bool.not_true, and_self]) rfl rfl ?_; clear hC a; intro a hC
            refine L.or hC rfl rfl rfl rfl (fun _ => All.nil) (fun _ hp => by simp only [All, List.cons_append, List.nil_append, List.append_nil, List.mem_cons, List.not_mem_nil, or_false, forall_eq_or_imp, forall_eq, Bool.and_eq_true, hp, Bool.not_false, Bool.not_true, and_self]) rfl rfl ?_; clear hC a; intro a hC
            refine L.nil ?_
            refine hk19 _ _ ?_; clear hk19; try clear k19
            refine W.cond hC rfl (fun h5 => ?_) (fun h5 => ?_)
            ·
              refine W.seqk fun k20 hk20 => ?_
              refine W.region ?_
              refine L.buildS (ps := [(0, 1), (1, 1), (2, 1), (3, 1), (4, 1)]) hC rfl rfl rfl (fun _ => All.nil) Try.zeroValue36 Try.underlying36 ⟨⟨rfl, Try.sizeOf3⟩, ⟨rfl, Try.sizeOf3⟩, ⟨rfl, Try.sizeOf3⟩, ⟨rfl, Try.sizeOf3⟩, ⟨rfl, Try.sizeOf3⟩, trivial⟩ rfl rfl rfl ?_; clear hC a; intro a hC
              replace hC := hC.fr2
              refine L.st hC rfl rfl rfl rfl Try.sizeOf36 rfl rfl rfl rfl rfl ?_; clear hC a; intro a w hF hC
              refine L.pu hC rfl rfl (fun _ => All.nil) rfl rfl ?_; clear hC a; intro a hC
              refine L.pu hC rfl rfl (fun _ => All.nil) rfl rfl ?_; clear hC a; intro a hC
              refine L.nil ?_
              refine hk20 _ _ ?_; clear hk20; try clear k20
              refine W.ret ?_
              replace hC := (hC.one (r := _) m0)
              refine retl hC rfl (.agg rfl m0 Try.isAgg36 Try.sizeOf36 rfl (.tmp rfl (.tmp rfl .nil))) rfl ?_
              replace hC := (hC.drop).nilown (ty := 3) (E := intE)
              exact ⟨_, by unfold runR; rw [if_neg (nt hK), if_neg (nt h3), if_pos (show badT 0 l = true by rw [← hb2]; exact badT_here (by omega) h5)]; rfl, trivial, by unfold runR; rw [if_neg (nt hK), if_neg (nt h3), if_pos (show badT 0 l = true by rw [← hb2]; exact badT_here (by omega) h5)]; exact hC.toPost (by simp [ownR])⟩
            ·
              refine W.skip ?_
              refine hk18 _ _ ?_; clear hk18; try clear k18
              refine W.region ?_
              refine L.pu hC rfl rfl (fun _ => All.nil) rfl rfl ?_; clear hC a; intro a hC
              refine L.pu hC rfl rfl (fun _ => All.nil) rfl rfl ?_; clear hC a; intro a hC
              refine L.ixr hC rfl rfl rfl rfl m0 (fun _ => All.nil) (fun _ => All.nil) Try.underlying34 Try.sizeOf106 (fun _ => by omega) rfl rfl ?_; clear hC a; intro a hC
              refine L.fae hC rfl rfl rfl (fun _ => All.nil) Try.underlying106 rfl Try.sizeOf3 rfl (fun hg => rd_some (hC.at m0) (by omega)) rfl rfl ?_; clear hC a; intro a hC
              refine L.ldx hC rfl rfl rfl rfl (fun _ => All.nil) (fun hg => rd_bang hC m0 (by omega) _) Try.isAgg3 rfl rfl rfl ?_; clear hC a; intro a hC
              refine L.pu hC rfl rfl (fun _ => All.nil) rfl rfl ?_; clear hC a; intro a hC
              refine L.nil ?_
              refine hk17 _ _ ?_; clear hk17; try clear k17
              refine W.region ?_
              refine L.pu hC rfl rfl (fun _ => All.nil) rfl rfl ?_; clear hC a; intro a hC
              refine L.pu hC rfl rfl (fun _ => All.nil) rfl rfl ?_; clear hC a; intro a hC
              refine L.pu hC rfl rfl (fun _ => All.nil) rfl rfl ?_; clear hC a; intro a hC
              refine L.nil ?_
              replace hC := hC.fr2
              replace hC := hC.fr2
              replace hC := hC.fr2
              exact ⟨(j + 1, l[j]!.tick), ⟨by omega, by rw [← hb2]; exact (badT_step (by omega) h5).symm, hC.keep ⟨geti rfl (w64 (by omega)), rfl, rfl, rfl, rfl, trivial⟩⟩, by first | omega | (dsimp only; omega)⟩
          ·
            have h4 := of_decide_eq_false h4
            refine W.exit ?_
            refine Kb.here ?_
            refine hk13 _ _ ?_; clear hk13; try clear k13
            refine W.seqk fun k21 hk21 => ?_
            refine W.seqk fun k22 hk22 => ?_
            refine W.region ?_
            refine L.lda hC rfl rfl rfl (fun _ => All.nil) m1 Try.isAgg33 Try.sizeOf33 rfl rfl rfl rfl ?_; clear hC a; intro a hC
            refine L.call hC rfl rfl Try.call61 rfl (fun _ => All.nil) (fun hg => setsR_ok s _) rfl rfl ?_; clear hC a; intro a w hF hC
            refine L.pu hC rfl rfl (fun _ => All.nil) rfl rfl ?_; clear hC a; intro a hC
            refine L.nil ?_
            refine hk22 _ _ ?_; clear hk22; try clear k22
            refine W.cond hC rfl (fun h6 => ?_) (fun h6 => ?_)
            ·
              refine W.seqk fun k23 hk23 => ?_
              refine W.region ?_
              refine L.buildS (ps := [(0, 1), (1, 1), (2, 1), (3, 1), (4, 1)]) hC rfl rfl rfl (fun _ => All.nil) Try.zeroValue36 Try.underlying36 ⟨⟨rfl, Try.sizeOf3⟩, ⟨rfl, Try.sizeOf3⟩, ⟨rfl, Try.sizeOf3⟩, ⟨rfl, Try.sizeOf3⟩, ⟨rfl, Try.sizeOf3⟩, trivial⟩ rfl rfl rfl ?_; clear hC a; intro a hC
              replace hC := hC.fr2
              refine L.st hC rfl rfl rfl rfl Try.sizeOf36 rfl rfl rfl rfl rfl ?_; clear hC a; intro a w hF hC
              refine L.pu hC rfl rfl (fun _ => All.nil) rfl rfl ?_; clear hC a; intro a hC
              refine L.pu hC rfl rfl (fun _ => All.nil) rfl rfl ?_; clear hC a; intro a hC
              refine L.nil ?_
              refine hk23 _ _ ?_; clear hk23; try clear k23
              refine W.ret ?_
              replace hC := (hC.one (r := _) m0)
              refine retl hC rfl (.agg rfl m0 Try.isAgg36 Try.sizeOf36 rfl (.tmp rfl (.tmp rfl .nil))) rfl ?_
              replace hC := (hC.drop).nilown (ty := 3) (E := intE)
              exact ⟨_, by unfold runR; rw [if_neg (nt hK), if_neg (nt h3), if_neg (nt (show badT 0 l = false by rw [← hb2, List.drop_of_length_le (by omega)]; rfl)), if_pos h6]; rfl, trivial, by unfold runR; rw [if_neg (nt hK), if_neg (nt h3), if_neg (nt (show badT 0 l = false by rw [← hb2, List.drop_of_length_le (by omega)]; rfl)), if_pos h6]; exact hC.toPost (by simp [ownR])⟩
            ·
              refine W.skip ?_
              refine hk21 _ _ ?_; clear hk21; try clear k21
              refine W.seqk fun k24 hk24 => ?_
              refine W.region ?_
              refine L.alloc hC rfl rfl Try.zeroValue36 rfl rfl rfl ?_; clear hC a; intro kb a w hF hC
              refine L.nil ?_
              refine hk24 _ _ ?_; clear hk24; try clear k24
              refine W.seqk fun k25 hk25 => ?_
              refine W.region ?_
              refine L.pu hC rfl rfl (fun _ => All.nil) rfl rfl ?_; clear hC a; intro a hC
              refine L.nil ?_
              refine hk25 _ _ ?_; clear hk25; try clear k25
              refine W.seqk fun k26 hk26 => ?_
              refine W.seqk fun k27 hk27 => ?_
              refine W.region ?_
              refine L.pu hC rfl rfl (fun _ => All.nil) rfl rfl ?_; clear hC a; intro a hC
              refine L.nil ?_
              refine hk27 _ _ ?_; clear hk27; try clear k27
              refine W.block ?_
              replace hC := hC.nilown (ty := 3) (E := intE)
              have hn3 : ¬ (l.length : Int) > 512 := of_decide_eq_false h3
              have hT : badT 0 l = false := by rw [← hb2, List.drop_of_length_le (by omega)]; rfl
              replace hC := hC.fr4
              replace hC := hC.fr4
              replace hC := hC.fr4
              replace hC := hC.fr3
              replace hC := hC.fr4
              refine W.loop (fun (gst : Nat × Brk × Value × List Int) a w' => match gst with | ⟨j, k, ov, outs⟩ => (j ≤ l.length) ∧ (outs.length = j) ∧ ((loopR k s (l.drop j)).1 = (loopR ⟨0, 0, 0, 0, 0⟩ s l).1) ∧ (outs ++ (loopR k s (l.drop j)).2 = (loopR ⟨0, 0, 0, 0, 0⟩ s l).2) ∧ Conf 133 Nob w0 [(12, (none, .int .i64 (j : Int))), (11, (none, ov)), (10, (none, .pointer (some ⟨kb, 0, none⟩))), (1, (none, v)), (2, (none, .pointer (some ⟨sb, 0, none⟩))), (4, (none, .pointer (some ⟨rb, 0, none⟩)))] [blkR kb (bE k) 36, ownR ov 3 intE outs, rdR v actE l, blkR sb (sE s) 33, blkR rb (bE ⟨0, 0, 0, 0, 0⟩) 36] a w') (fun (gst : Nat × Brk × Value × List Int) => match gst with | ⟨j, k, ov, outs⟩ => l.length - j) (0, ⟨0, 0, 0, 0, 0⟩, .slice none 0 0, []) ?_ ?_
              · exact ⟨Nat.zero_le _, rfl, rfl, rfl, hC.keep ⟨rfl, rfl, rfl, rfl, rfl, rfl, trivial⟩⟩
              · rintro ⟨j, k, ov, outs⟩ a w ⟨hj3, hol, hk, ho, hC⟩
                refine W.seqk fun k28 hk28 => ?_
                refine W.seqk fun k29 hk29 => ?_
                refine W.region ?_
                refine L.pu hC rfl rfl (fun _ => All.nil) rfl rfl ?_; clear hC a; intro a hC
                refine L.pu hC rfl rfl (fun _ => All.nil) rfl rfl ?_; clear hC a; intro a hC
                refine L.len hC rfl rfl rfl (fun _ => All.nil) (rd_form (hC.at m2)) Try.underlying34 rfl rfl ?_; clear hC a; intro a hC
                refine L.pu hC rfl rfl (fun _ => All.nil) rfl rfl ?_; clear hC a; intro a hC
                refine L.nil ?_
                refine hk29 _ _ ?_; clear hk29; try clear k29
                refine W.cond hC rfl (fun h7 => ?_) (fun h7 => ?_)
                ·
                  have h7 := of_decide_eq_true h7
                  refine W.skip ?_
                  refine hk28 _ _ ?_; clear hk28; try clear k28
                  refine W.seqk fun k30 hk30 => ?_
                  refine W.block ?_
                  refine W.seqk fun k31 hk31 => ?_
                  refine W.region ?_
                  refine L.pu hC rfl rfl (fun _ => All.nil) rfl rfl ?_; clear hC a; intro a hC
                  refine L.pu hC rfl rfl (fun _ => All.nil) rfl rfl ?_; clear hC a; intro a hC
                  refine L.ixr hC rfl rfl rfl rfl m2 (fun _ => All.nil) (fun _ => All.nil) Try.underlying34 Try.sizeOf106 (fun _ => by omega) rfl rfl ?_; clear hC a; intro a hC
                  refine L.ldxa hC rfl rfl rfl rfl (fun _ => All.nil) (fun hg => rd_bang hC m2 (by omega) _) Try.isAgg106 Try.sizeOf106 rfl rfl rfl rfl ?_; clear hC a; intro a hC
                  refine L.alloc hC rfl rfl Try.zeroValue106 rfl rfl rfl ?_; clear hC a; intro ab a w hF hC
                  refine L.st hC rfl rfl rfl rfl Try.sizeOf106 rfl rfl rfl rfl rfl ?_; clear hC a; intro a w hF hC
                  replace hC := hC.hd (r' := blkR ab (actE.enc l[j]!) 106) rfl
                  refine L.pu hC rfl rfl (fun _ => All.nil) rfl rfl ?_; clear hC a; intro a hC
                  refine L.nil ?_
                  refine hk31 _ _ ?_; clear hk31; try clear k31
                  refine W.seqk fun k32 hk32 => ?_
                  refine W.seqk fun k33 hk33 => ?_
                  refine W.region ?_
                  refine L.fa hC rfl rfl rfl (fun _ => All.nil) Try.underlying106 rfl Try.sizeOf3 rfl rfl rfl ?_; clear hC a; intro a hC
                  refine L.ld hC rfl rfl rfl (fun _ => All.nil) m0 Try.isAgg3 rfl rfl rfl ?_; clear hC a; intro a hC
                  refine L.nil ?_
                  refine hk33 _ _ ?_; clear hk33; try clear k33
                  refine W.block ?_
                  refine W.seqk fun k34 hk34 => ?_
                  refine W.region ?_
                  refine L.pu hC rfl rfl (fun _ => All.nil) rfl rfl ?_; clear hC a; intro a hC
                  refine L.pu hC rfl rfl (fun _ => All.nil) rfl rfl ?_; clear hC a; intro a hC
                  refine L.nil ?_
                  refine hk34 _ _ ?_; clear hk34; try clear k34
                  refine W.cond hC rfl (fun h8 => ?_) (fun h8 => ?_)
                  ·
                    refine W.region ?_
                    refine L.lda hC rfl rfl rfl (fun _ => All.nil) m1 Try.isAgg36 Try.sizeOf36 rfl rfl rfl rfl ?_; clear hC a; intro a hC
                    refine L.lda hC rfl rfl rfl (fun _ => All.nil) m4 Try.isAgg33 Try.sizeOf33 rfl rfl rfl rfl ?_; clear hC a; intro a hC
                    refine L.fa hC rfl rfl rfl (fun _ => All.nil) Try.underlying106 rfl Try.sizeOf3 rfl rfl rfl ?_; clear hC a; intro a hC
                    refine L.ld hC rfl rfl rfl (fun _ => All.nil) m0 Try.isAgg3 rfl rfl rfl ?_; clear hC a; intro a hC
                    refine L.call hC rfl rfl Try.call62 rfl (fun _ => All.nil) (fun hg => tickR_ok k s l[j]!.tick _) rfl rfl ?_; clear hC a; intro a w hF hC
                    refine L.pu hC rfl rfl (fun _ => All.nil) rfl rfl ?_; clear hC a; intro a hC
                    refine L.pu hC rfl rfl (fun _ => All.nil) rfl rfl ?_; clear hC a; intro a hC
                    refine L.pu hC rfl rfl (fun _ => All.nil) rfl rfl ?_; clear hC a; intro a hC
                    replace hC := hC.fr1
                    refine L.st hC rfl rfl rfl rfl Try.sizeOf36 rfl rfl rfl rfl rfl ?_; clear hC a; intro a w hF hC
                    refine L.nil ?_
                    refine hk32 _ _ ?_; clear hk32; try clear k32
                    refine W.region ?_
                    refine L.pu hC rfl rfl (fun _ => All.nil) rfl rfl ?_; clear hC a; intro a hC
                    refine L.pu hC rfl rfl (fun _ => All.nil) rfl rfl ?_; clear hC a; intro a hC
                    refine L.bsP hC rfl rfl rfl Try.underlying37 Try.infoI3 rfl rfl rfl rfl rfl rfl rfl ?_; clear hC a; intro b7 a w hF hC
                    replace hC := hC.fr3
                    refine L.app (xs := [0]) hC rfl rfl rfl rfl ⟨_, _, rfl, lit_cells (hC.at m1) rfl⟩ Try.underlying37 Try.infoI3 rfl (by simp; omega) (by simp; omega) rfl rfl ?_; clear hC a; intro v8 a w hF hC
                    refine L.pu hC rfl rfl (fun _ => All.nil) rfl rfl ?_; clear hC a; intro a hC
                    refine L.nil ?_
                    refine hk30 _ _ ?_; clear hk30; try clear k30
                    refine W.region ?_
                    refine L.pu hC rfl rfl (fun _ => All.nil) rfl rfl ?_; clear hC a; intro a hC
                    refine L.pu hC rfl rfl (fun _ => All.nil) rfl rfl ?_; clear hC a; intro a hC
                    refine L.pu hC rfl rfl (fun _ => All.nil) rfl rfl ?_; clear hC a; intro a hC
                    refine L.nil ?_
                    replace hC := hC.subl (.cons_cons _ (.cons _ (.cons_cons _ (.cons _ (.cons_cons _ (.cons_cons _ (.cons_cons _ .slnil)))))))
                    replace hC := hC.fr4
                    replace hC := hC.fr4
                    replace hC := hC.fr4
                    replace hC := hC.fr3
                    replace hC := hC.fr4
                    have ea : actR k s l[j]! = ((tickR k s l[j]!.tick).1, 0) := by unfold actR; rw [if_pos h8]
                    replace hC := hC.hd (r' := blkR kb (bE (actR k s l[j]!).1) 36) (by rw [ea]; try rfl)
                    replace hC := hC.fr1.hd (r' := ownR v8 3 intE (outs ++ [(actR k s l[j]!).2])) (by rw [ea])
                    replace hC := hC.fr1
                    exact ⟨(j + 1, (actR k s l[j]!).1, v8, outs ++ [(actR k s l[j]!).2]), ⟨by omega, by rw [List.length_append, hol]; rfl, by rw [← hk, loopR_drop (l := l) (j := j) (by omega)], by rw [← ho, loopR_drop (l := l) (j := j) (by omega)]; simp, hC.keep ⟨geti rfl (w64 (by omega)), rfl, rfl, rfl, rfl, rfl, trivial⟩⟩, by first | omega | (dsimp only; omega)⟩
                  ·
                    refine W.seqk fun k35 hk35 => ?_
                    refine W.region ?_
                    refine L.pu hC rfl rfl (fun _ => All.nil) rfl rfl ?_; clear hC a; intro a hC
                    refine L.pu hC rfl rfl (fun _ => All.nil) rfl rfl ?_; clear hC a; intro a hC
                    refine L.nil ?_
                    refine hk35 _ _ ?_; clear hk35; try clear k35
                    refine W.cond hC rfl (fun h9 => ?_) (fun h9 => ?_)
                    ·
                      refine W.seqk fun k36 hk36 => ?_
                      refine W.region ?_
                      refine L.lda hC rfl rfl rfl (fun _ => All.nil) m1 Try.isAgg36 Try.sizeOf36 rfl rfl rfl rfl ?_; clear hC a; intro a hC
                      refine L.lda hC rfl rfl rfl (fun _ => All.nil) m4 Try.isAgg33 Try.sizeOf33 rfl rfl rfl rfl ?_; clear hC a; intro a hC
                      refine L.fa hC rfl rfl rfl (fun _ => All.nil) Try.underlying106 rfl Try.sizeOf3 rfl rfl rfl ?_; clear hC a; intro a hC
                      refine L.ld hC rfl rfl rfl (fun _ => All.nil) m0 Try.isAgg3 rfl rfl rfl ?_; clear hC a; intro a hC
                      refine L.call hC rfl rfl Try.call63 rfl (fun _ => All.nil) (fun hg => beginR_ok k s l[j]!.tick _) rfl rfl ?_; clear hC a; intro a w hF hC
                      refine L.pu hC rfl rfl (fun _ => All.nil) rfl rfl ?_; clear hC a; intro a hC
                      refine L.pu hC rfl rfl (fun _ => All.nil) rfl rfl ?_; clear hC a; intro a hC
                      refine L.pu hC rfl rfl (fun _ => All.nil) rfl rfl ?_; clear hC a; intro a hC
                      refine L.pu hC rfl rfl (fun _ => All.nil) rfl rfl ?_; clear hC a; intro a hC
                      refine L.alloc hC rfl rfl Try.zeroValue36 rfl rfl rfl ?_; clear hC a; intro cb a w hF hC
                      refine L.st hC rfl rfl rfl rfl Try.sizeOf36 rfl rfl rfl rfl rfl ?_; clear hC a; intro a w hF hC
                      refine L.pu hC rfl rfl (fun _ => All.nil) rfl rfl ?_; clear hC a; intro a hC
                      refine L.pu hC rfl rfl (fun _ => All.nil) rfl rfl ?_; clear hC a; intro a hC
                      refine L.nil ?_
                      refine hk36 _ _ ?_; clear hk36; try clear k36
                      refine W.block ?_
                      refine W.seqk fun k37 hk37 => ?_
                      refine W.region ?_
                      refine L.pu hC rfl rfl (fun _ => All.nil) rfl rfl ?_; clear hC a; intro a hC
                      refine L.pu hC rfl rfl (fun _ => All.nil) rfl rfl ?_; clear hC a; intro a hC
                      refine L.pu hC rfl rfl (fun _ => All.nil) rfl rfl ?_; clear hC a; intro a hC
                      refine L.nil ?_
                      refine hk37 _ _ ?_; clear hk37; try clear k37
                      refine W.cond hC rfl (fun h10 => ?_) (fun h10 => ?_)
                      ·
                        refine W.region ?_
                        refine L.pu hC rfl rfl (fun _ => All.nil) rfl rfl ?_; clear hC a; intro a hC
                        refine L.nil ?_
                        refine hk32 _ _ ?_; clear hk32; try clear k32
                        refine W.region ?_
                        refine L.pu hC rfl rfl (fun _ => All.nil) rfl rfl ?_; clear hC a; intro a hC
                        refine L.pu hC rfl rfl (fun _ => All.nil) rfl rfl ?_; clear hC a; intro a hC
                        refine L.bsP hC rfl rfl rfl Try.underlying37 Try.infoI3 rfl rfl rfl rfl rfl rfl rfl ?_; clear hC a; intro b9 a w hF hC
                        replace hC := hC.fr4
                        refine L.app (xs := [2]) hC rfl rfl rfl rfl ⟨_, _, rfl, lit_cells (hC.at m1) rfl⟩ Try.underlying37 Try.infoI3 rfl (by simp; omega) (by simp; omega) rfl rfl ?_; clear hC a; intro v10 a w hF hC
                        refine L.pu hC rfl rfl (fun _ => All.nil) rfl rfl ?_; clear hC a; intro a hC
                        refine L.nil ?_
                        refine hk30 _ _ ?_; clear hk30; try clear k30
                        refine W.region ?_
                        refine L.pu hC rfl rfl (fun _ => All.nil) rfl rfl ?_; clear hC a; intro a hC
                        refine L.pu hC rfl rfl (fun _ => All.nil) rfl rfl ?_; clear hC a; intro a hC
                        refine L.pu hC rfl rfl (fun _ => All.nil) rfl rfl ?_; clear hC a; intro a hC
                        refine L.nil ?_
                        replace hC := hC.subl (.cons_cons _ (.cons _ (.cons _ (.cons _ (.cons_cons _ (.cons_cons _ (.cons_cons _ (.cons_cons _ .slnil))))))))
                        replace hC := hC.fr4
                        replace hC := hC.fr4
                        replace hC := hC.fr4
                        replace hC := hC.fr3
                        replace hC := hC.fr4
                        have ea : actR k s l[j]! = (k, 2) := by unfold actR; rw [if_neg (nt h8), if_pos h9, if_pos h10]
                        replace hC := hC.hd (r' := blkR kb (bE (actR k s l[j]!).1) 36) (by rw [ea]; try rfl)
                        replace hC := hC.fr1.hd (r' := ownR v10 3 intE (outs ++ [(actR k s l[j]!).2])) (by rw [ea])
                        replace hC := hC.fr1
                        exact ⟨(j + 1, (actR k s l[j]!).1, v10, outs ++ [(actR k s l[j]!).2]), ⟨by omega, by rw [List.length_append, hol]; rfl, by rw [← hk, loopR_drop (l := l) (j := j) (by omega)], by rw [← ho, loopR_drop (l := l) (j := j) (by omega)]; simp, hC.keep ⟨geti rfl (w64 (by omega)), rfl, rfl, rfl, rfl, rfl, trivial⟩⟩, by first | omega | (dsimp only; omega)⟩
                      ·
                        refine W.seqk fun k38 hk38 => ?_
                        refine W.region ?_
                        refine L.pu hC rfl rfl (fun _ => All.nil) rfl rfl ?_; clear hC a; intro a hC
                        refine L.pu hC rfl rfl (fun _ => All.nil) rfl rfl ?_; clear hC a; intro a hC
                        refine L.nil ?_
                        refine hk38 _ _ ?_; clear hk38; try clear k38
                        refine W.cond hC rfl (fun h11 => ?_) (fun h11 => ?_)
                        ·
                          refine W.region ?_
                          refine L.lda hC rfl rfl rfl (fun _ => All.nil) m0 Try.isAgg36 Try.sizeOf36 rfl rfl rfl rfl ?_; clear hC a; intro a hC
                          replace hC := hC.fr2
                          refine L.st hC rfl rfl rfl rfl Try.sizeOf36 rfl rfl rfl rfl rfl ?_; clear hC a; intro a w hF hC
                          refine L.pu hC rfl rfl (fun _ => All.nil) rfl rfl ?_; clear hC a; intro a hC
                          refine L.nil ?_
                          refine hk32 _ _ ?_; clear hk32; try clear k32
                          refine W.region ?_
                          refine L.pu hC rfl rfl (fun _ => All.nil) rfl rfl ?_; clear hC a; intro a hC
                          refine L.pu hC rfl rfl (fun _ => All.nil) rfl rfl ?_; clear hC a; intro a hC
                          refine L.bsP hC rfl rfl rfl Try.underlying37 Try.infoI3 rfl rfl rfl rfl rfl rfl rfl ?_; clear hC a; intro b11 a w hF hC
                          replace hC := hC.fr4
                          refine L.app (xs := [1]) hC rfl rfl rfl rfl ⟨_, _, rfl, lit_cells (hC.at m1) rfl⟩ Try.underlying37 Try.infoI3 rfl (by simp; omega) (by simp; omega) rfl rfl ?_; clear hC a; intro v12 a w hF hC
                          refine L.pu hC rfl rfl (fun _ => All.nil) rfl rfl ?_; clear hC a; intro a hC
                          refine L.nil ?_
                          refine hk30 _ _ ?_; clear hk30; try clear k30
                          refine W.region ?_
                          refine L.pu hC rfl rfl (fun _ => All.nil) rfl rfl ?_; clear hC a; intro a hC
                          refine L.pu hC rfl rfl (fun _ => All.nil) rfl rfl ?_; clear hC a; intro a hC
                          refine L.pu hC rfl rfl (fun _ => All.nil) rfl rfl ?_; clear hC a; intro a hC
                          refine L.nil ?_
                          replace hC := hC.subl (.cons_cons _ (.cons _ (.cons_cons _ (.cons _ (.cons _ (.cons_cons _ (.cons_cons _ (.cons_cons _ .slnil))))))))
                          replace hC := hC.fr4
                          replace hC := hC.fr4
                          replace hC := hC.fr4
                          replace hC := hC.fr3
                          replace hC := hC.fr4
                          have ea : actR k s l[j]! = ((beginR k s l[j]!.tick).1, 1) := by unfold actR; rw [if_neg (nt h8), if_pos h9, if_neg (nt h10), if_pos h11]
                          replace hC := hC.hd (r' := blkR kb (bE (actR k s l[j]!).1) 36) (by rw [ea]; try rfl)
                          replace hC := hC.fr1.hd (r' := ownR v12 3 intE (outs ++ [(actR k s l[j]!).2])) (by rw [ea])
                          replace hC := hC.fr1
                          exact ⟨(j + 1, (actR k s l[j]!).1, v12, outs ++ [(actR k s l[j]!).2]), ⟨by omega, by rw [List.length_append, hol]; rfl, by rw [← hk, loopR_drop (l := l) (j := j) (by omega)], by rw [← ho, loopR_drop (l := l) (j := j) (by omega)]; simp, hC.keep ⟨geti rfl (w64 (by omega)), rfl, rfl, rfl, rfl, rfl, trivial⟩⟩, by first | omega | (dsimp only; omega)⟩
                        ·
                          refine W.skip ?_
                          refine hk32 _ _ ?_; clear hk32; try clear k32
                          refine W.region ?_
                          refine L.pu hC rfl rfl (fun _ => All.nil) rfl rfl ?_; clear hC a; intro a hC
                          refine L.pu hC rfl rfl (fun _ => All.nil) rfl rfl ?_; clear hC a; intro a hC
                          refine L.bsP hC rfl rfl rfl Try.underlying37 Try.infoI3 rfl rfl rfl rfl rfl rfl rfl ?_; clear hC a; intro b13 a w hF hC
                          replace hC := hC.fr4
                          refine L.app (xs := [0]) hC rfl rfl rfl rfl ⟨_, _, rfl, lit_cells (hC.at m1) rfl⟩ Try.underlying37 Try.infoI3 rfl (by simp; omega) (by simp; omega) rfl rfl ?_; clear hC a; intro v14 a w hF hC
                          refine L.pu hC rfl rfl (fun _ => All.nil) rfl rfl ?_; clear hC a; intro a hC
                          refine L.nil ?_
                          refine hk30 _ _ ?_; clear hk30; try clear k30
                          refine W.region ?_
                          refine L.pu hC rfl rfl (fun _ => All.nil) rfl rfl ?_; clear hC a; intro a hC
                          refine L.pu hC rfl rfl (fun _ => All.nil) rfl rfl ?_; clear hC a; intro a hC
                          refine L.pu hC rfl rfl (fun _ => All.nil) rfl rfl ?_; clear hC a; intro a hC
                          refine L.nil ?_
                          replace hC := hC.subl (.cons_cons _ (.cons _ (.cons _ (.cons _ (.cons_cons _ (.cons_cons _ (.cons_cons _ (.cons_cons _ .slnil))))))))
                          replace hC := hC.fr4
                          replace hC := hC.fr4
                          replace hC := hC.fr4
                          replace hC := hC.fr3
                          replace hC := hC.fr4
                          have ea : actR k s l[j]! = (k, 0) := by unfold actR; rw [if_neg (nt h8), if_pos h9, if_neg (nt h10), if_neg (nt h11)]
                          replace hC := hC.hd (r' := blkR kb (bE (actR k s l[j]!).1) 36) (by rw [ea]; try rfl)
                          replace hC := hC.fr1.hd (r' := ownR v14 3 intE (outs ++ [(actR k s l[j]!).2])) (by rw [ea])
                          replace hC := hC.fr1
                          exact ⟨(j + 1, (actR k s l[j]!).1, v14, outs ++ [(actR k s l[j]!).2]), ⟨by omega, by rw [List.length_append, hol]; rfl, by rw [← hk, loopR_drop (l := l) (j := j) (by omega)], by rw [← ho, loopR_drop (l := l) (j := j) (by omega)]; simp, hC.keep ⟨geti rfl (w64 (by omega)), rfl, rfl, rfl, rfl, rfl, trivial⟩⟩, by first | omega | (dsimp only; omega)⟩
                    ·
                      refine W.seqk fun k39 hk39 => ?_
                      refine W.region ?_
                      refine L.pu hC rfl rfl (fun _ => All.nil) rfl rfl ?_; clear hC a; intro a hC
                      refine L.pu hC rfl rfl (fun _ => All.nil) rfl rfl ?_; clear hC a; intro a hC
                      refine L.nil ?_
                      refine hk39 _ _ ?_; clear hk39; try clear k39
                      refine W.cond hC rfl (fun h12 => ?_) (fun h12 => ?_)
                      ·
                        refine W.region ?_
                        refine L.lda hC rfl rfl rfl (fun _ => All.nil) m1 Try.isAgg36 Try.sizeOf36 rfl rfl rfl rfl ?_; clear hC a; intro a hC
                        refine L.lda hC rfl rfl rfl (fun _ => All.nil) m4 Try.isAgg33 Try.sizeOf33 rfl rfl rfl rfl ?_; clear hC a; intro a hC
                        refine L.fa hC rfl rfl rfl (fun _ => All.nil) Try.underlying106 rfl Try.sizeOf3 rfl rfl rfl ?_; clear hC a; intro a hC
                        refine L.ld hC rfl rfl rfl (fun _ => All.nil) m0 Try.isAgg3 rfl rfl rfl ?_; clear hC a; intro a hC
                        refine L.fa hC rfl rfl rfl (fun _ => All.nil) Try.underlying106 rfl Try.sizeOf4 rfl rfl rfl ?_; clear hC a; intro a hC
                        refine L.ld hC rfl rfl rfl (fun _ => All.nil) m0 Try.isAgg4 rfl rfl rfl ?_; clear hC a; intro a hC
                        refine L.fa hC rfl rfl rfl (fun _ => All.nil) Try.underlying106 rfl Try.sizeOf4 rfl rfl rfl ?_; clear hC a; intro a hC
                        refine L.ld hC rfl rfl rfl (fun _ => All.nil) m0 Try.isAgg4 rfl rfl rfl ?_; clear hC a; intro a hC
                        refine L.call hC rfl rfl Try.call64 rfl (fun _ => All.nil) (fun hg => endRR_ok k s l[j]!.tick l[j]!.probe l[j]!.good _) rfl rfl ?_; clear hC a; intro a w hF hC
                        refine L.pu hC rfl rfl (fun _ => All.nil) rfl rfl ?_; clear hC a; intro a hC
                        refine L.pu hC rfl rfl (fun _ => All.nil) rfl rfl ?_; clear hC a; intro a hC
                        refine L.pu hC rfl rfl (fun _ => All.nil) rfl rfl ?_; clear hC a; intro a hC
                        replace hC := hC.fr1
                        refine L.st hC rfl rfl rfl rfl Try.sizeOf36 rfl rfl rfl rfl rfl ?_; clear hC a; intro a w hF hC
                        refine L.nil ?_
                        refine hk32 _ _ ?_; clear hk32; try clear k32
                        refine W.region ?_
                        refine L.pu hC rfl rfl (fun _ => All.nil) rfl rfl ?_; clear hC a; intro a hC
                        refine L.pu hC rfl rfl (fun _ => All.nil) rfl rfl ?_; clear hC a; intro a hC
                        refine L.bsP hC rfl rfl rfl Try.underlying37 Try.infoI3 rfl rfl rfl rfl rfl rfl rfl ?_; clear hC a; intro b15 a w hF hC
                        replace hC := hC.fr3
                        refine L.app (xs := [0]) hC rfl rfl rfl rfl ⟨_, _, rfl, lit_cells (hC.at m1) rfl⟩ Try.underlying37 Try.infoI3 rfl (by simp; omega) (by simp; omega) rfl rfl ?_; clear hC a; intro v16 a w hF hC
                        refine L.pu hC rfl rfl (fun _ => All.nil) rfl rfl ?_; clear hC a; intro a hC
                        refine L.nil ?_
                        refine hk30 _ _ ?_; clear hk30; try clear k30
                        refine W.region ?_
                        refine L.pu hC rfl rfl (fun _ => All.nil) rfl rfl ?_; clear hC a; intro a hC
                        refine L.pu hC rfl rfl (fun _ => All.nil) rfl rfl ?_; clear hC a; intro a hC
                        refine L.pu hC rfl rfl (fun _ => All.nil) rfl rfl ?_; clear hC a; intro a hC
                        refine L.nil ?_
                        replace hC := hC.subl (.cons_cons _ (.cons _ (.cons_cons _ (.cons _ (.cons_cons _ (.cons_cons _ (.cons_cons _ .slnil)))))))
                        replace hC := hC.fr4
                        replace hC := hC.fr4
                        replace hC := hC.fr4
                        replace hC := hC.fr3
                        replace hC := hC.fr4
                        have ea : actR k s l[j]! = ((endRR k s l[j]!.tick l[j]!.probe l[j]!.good).1, 0) := by unfold actR; rw [if_neg (nt h8), if_neg (nt h9), if_pos h12]
                        replace hC := hC.hd (r' := blkR kb (bE (actR k s l[j]!).1) 36) (by rw [ea]; try rfl)
                        replace hC := hC.fr1.hd (r' := ownR v16 3 intE (outs ++ [(actR k s l[j]!).2])) (by rw [ea])
                        replace hC := hC.fr1
                        exact ⟨(j + 1, (actR k s l[j]!).1, v16, outs ++ [(actR k s l[j]!).2]), ⟨by omega, by rw [List.length_append, hol]; rfl, by rw [← hk, loopR_drop (l := l) (j := j) (by omega)], by rw [← ho, loopR_drop (l := l) (j := j) (by omega)]; simp, hC.keep ⟨geti rfl (w64 (by omega)), rfl, rfl, rfl, rfl, rfl, trivial⟩⟩, by first | omega | (dsimp only; omega)⟩
                      ·
                        refine W.skip ?_
                        refine hk32 _ _ ?_; clear hk32; try clear k32
                        refine W.region ?_
                        refine L.pu hC rfl rfl (fun _ => All.nil) rfl rfl ?_; clear hC a; intro a hC
                        refine L.pu hC rfl rfl (fun _ => All.nil) rfl rfl ?_; clear hC a; intro a hC
                        refine L.bsP hC rfl rfl rfl Try.underlying37 Try.infoI3 rfl rfl rfl rfl rfl rfl rfl ?_; clear hC a; intro b17 a w hF hC
                        replace hC := hC.fr3
                        refine L.app (xs := [0]) hC rfl rfl rfl rfl ⟨_, _, rfl, lit_cells (hC.at m1) rfl⟩ Try.underlying37 Try.infoI3 rfl (by simp; omega) (by simp; omega) rfl rfl ?_; clear hC a; intro v18 a w hF hC
                        refine L.pu hC rfl rfl (fun _ => All.nil) rfl rfl ?_; clear hC a; intro a hC
                        refine L.nil ?_
                        refine hk30 _ _ ?_; clear hk30; try clear k30
                        refine W.region ?_
                        refine L.pu hC rfl rfl (fun _ => All.nil) rfl rfl ?_; clear hC a; intro a hC
                        refine L.pu hC rfl rfl (fun _ => All.nil) rfl rfl ?_; clear hC a; intro a hC
                        refine L.pu hC rfl rfl (fun _ => All.nil) rfl rfl ?_; clear hC a; intro a hC
                        refine L.nil ?_
                        replace hC := hC.subl (.cons_cons _ (.cons _ (.cons _ (.cons_cons _ (.cons_cons _ (.cons_cons _ (.cons_cons _ .slnil)))))))
                        replace hC := hC.fr4
                        replace hC := hC.fr4
                        replace hC := hC.fr4
                        replace hC := hC.fr3
                        replace hC := hC.fr4
                        have ea : actR k s l[j]! = (k, 0) := by unfold actR; rw [if_neg (nt h8), if_neg (nt h9), if_neg (nt h12)]
                        replace hC := hC.hd (r' := blkR kb (bE (actR k s l[j]!).1) 36) (by rw [ea]; try rfl)
                        replace hC := hC.fr1.hd (r' := ownR v18 3 intE (outs ++ [(actR k s l[j]!).2])) (by rw [ea])
                        replace hC := hC.fr1
                        exact ⟨(j + 1, (actR k s l[j]!).1, v18, outs ++ [(actR k s l[j]!).2]), ⟨by omega, by rw [List.length_append, hol]; rfl, by rw [← hk, loopR_drop (l := l) (j := j) (by omega)], by rw [← ho, loopR_drop (l := l) (j := j) (by omega)]; simp, hC.keep ⟨geti rfl (w64 (by omega)), rfl, rfl, rfl, rfl, rfl, trivial⟩⟩, by first | omega | (dsimp only; omega)⟩
                ·
                  have h7 := of_decide_eq_false h7
                  refine W.exit ?_
                  refine Kb.here ?_
                  refine hk26 _ _ ?_; clear hk26; try clear k26
                  refine W.seqk fun k40 hk40 => ?_
                  refine W.region ?_
                  refine L.lda hC rfl rfl rfl (fun _ => All.nil) m0 Try.isAgg36 Try.sizeOf36 rfl rfl rfl rfl ?_; clear hC a; intro a hC
                  refine L.pu hC rfl rfl (fun _ => All.nil) rfl rfl ?_; clear hC a; intro a hC
                  replace hC := hC.fr4
                  refine L.st hC rfl rfl rfl rfl Try.sizeOf36 rfl rfl rfl rfl rfl ?_; clear hC a; intro a w hF hC
                  refine L.pu hC rfl rfl (fun _ => All.nil) rfl rfl ?_; clear hC a; intro a hC
                  refine L.pu hC rfl rfl (fun _ => All.nil) rfl rfl ?_; clear hC a; intro a hC
                  refine L.nil ?_
                  refine hk40 _ _ ?_; clear hk40; try clear k40
                  refine W.ret ?_
                  refine retl hC rfl (.agg rfl m0 Try.isAgg36 Try.sizeOf36 rfl (.tmp rfl (.tmp rfl .nil))) rfl ?_
                  replace hC := hC.subl (.cons _ (.cons _ (.cons_cons _ (.cons _ (.cons _ .slnil)))))
                  have e : runR s l = (k, outs, 0) := by
                    unfold runR; rw [if_neg (nt hK), if_neg (nt h3), if_neg (nt hT), if_neg (nt h6)]
                    rw [List.drop_of_length_le (by omega)] at hk ho
                    simp only [loopR, List.append_nil] at hk ho
                    rw [← hk, ← ho]
                  exact ⟨_, by rw [e]; rfl, trivial, by rw [e]; exact hC.toPost (by simp [ownR])⟩

theorem sameI_ok (v u : Value) (l m : List Int) (w0 : World) (hr : (rdR v intE l).ok w0) (hm : (rdR u intE m).ok w0) : Calls Try.prog 19 #[v, u] w0 fun e w' => e = .returned (.bool (decide (l = m))) ∧ Frm Nob w0 w' := by
  have hlen := rd_lt hr
  refine enter (μ := [rdR v intE l, rdR u intE m]) (S := Nob) (vs := [v, u]) Try.func19 rfl Try.ntmps19 rfl (Mem.rd2' hr hm) (by simp [rdR]) (fun a hC => ?_)
  refine W.seqk fun k1 hk1 => ?_
  refine W.region ?_
  refine L.pu hC rfl rfl (fun _ => All.nil) rfl rfl ?_; clear hC a; intro a hC
  refine L.nil ?_
  refine hk1 _ _ ?_; clear hk1; try clear k1
  refine W.seqk fun k2 hk2 => ?_
  refine W.seqk fun k3 hk3 => ?_
  refine W.region ?_
  refine L.pu hC rfl rfl (fun _ => All.nil) rfl rfl ?_; clear hC a; intro a hC
  refine L.len hC rfl rfl rfl (fun _ => All.nil) (rd_form (hC.at m0)) Try.underlying37 rfl rfl ?_; clear hC a; intro a hC
  refine L.pu hC rfl rfl (fun _ => All.nil) rfl rfl ?_; clear hC a; intro a hC
  refine L.len hC rfl rfl rfl (fun _ => All.nil) (rd_form (hC.at m1)) Try.underlying37 rfl rfl ?_; clear hC a; intro a hC
  refine L.pu hC rfl rfl (fun _ => All.nil) rfl rfl ?_; clear hC a; intro a hC
  refine L.nil ?_
  refine hk3 _ _ ?_; clear hk3; try clear k3
  refine W.cond hC rfl (fun h1 => ?_) (fun h1 => ?_)
  ·
    refine W.seqk fun k4 hk4 => ?_
    refine W.region ?_
    refine L.pu hC rfl rfl (fun _ => All.nil) rfl rfl ?_; clear hC a; intro a hC
    refine L.nil ?_
    refine hk4 _ _ ?_; clear hk4; try clear k4
    refine W.ret ?_
    refine rets hC rfl (.tmp rfl .nil) ?_
    refine ⟨?_, hC.frm⟩
    refine rb ?_
    exact (same_no h1).symm
  ·
    refine W.skip ?_
    refine hk2 _ _ ?_; clear hk2; try clear k2
    refine W.seqk fun k5 hk5 => ?_
    refine W.seqk fun k6 hk6 => ?_
    refine W.region ?_
    refine L.pu hC rfl rfl (fun _ => All.nil) rfl rfl ?_; clear hC a; intro a hC
    refine L.nil ?_
    refine hk6 _ _ ?_; clear hk6; try clear k6
    refine W.block ?_
    have hlm := same_len h1
    refine W.loop (fun (j : Nat) a w' => (j ≤ l.length) ∧ (l.take j = m.take j) ∧ Conf 26 Nob w0 [(5, (none, .int .i64 (j : Int))), (0, (none, v)), (1, (none, u))] [rdR v intE l, rdR u intE m] a w') (fun (j : Nat) => l.length - j) 0 ?_ ?_
    · exact ⟨Nat.zero_le _, rfl, hC.keep ⟨rfl, rfl, rfl, trivial⟩⟩
    · rintro j a w ⟨hj, he, hC⟩
      refine W.seqk fun k7 hk7 => ?_
      refine W.seqk fun k8 hk8 => ?_
      refine W.region ?_
      refine L.pu hC rfl rfl (fun _ => All.nil) rfl rfl ?_; clear hC a; intro a hC
      refine L.pu hC rfl rfl (fun _ => All.nil) rfl rfl ?_; clear hC a; intro a hC
      refine L.len hC rfl rfl rfl (fun _ => All.nil) (rd_form (hC.at m0)) Try.underlying37 rfl rfl ?_; clear hC a; intro a hC
      refine L.pu hC rfl rfl (fun _ => All.nil) rfl rfl ?_; clear hC a; intro a hC
      refine L.nil ?_
      refine hk8 _ _ ?_; clear hk8; try clear k8
      refine W.cond hC rfl (fun h2 => ?_) (fun h2 => ?_)
      ·
        have h2 := of_decide_eq_true h2
        refine W.skip ?_
        refine hk7 _ _ ?_; clear hk7; try clear k7
        refine W.seqk fun k9 hk9 => ?_
        refine W.block ?_
        refine W.seqk fun k10 hk10 => ?_
        refine W.drawD hC Try.mixed rfl rfl ?_
        apply DRN.cons (.det _ _) rfl
        · intro a w hC
          refine L.pu hC rfl rfl (fun _ => All.nil) rfl rfl ?_; clear hC a; intro a hC
          exact L.nil ⟨⟨_, [], hC⟩, Frm.refl _ _⟩
        apply DRN.cons (.det _ _) rfl
        · intro a w hC
          refine L.pu hC rfl rfl (fun _ => All.nil) rfl rfl ?_; clear hC a; intro a hC
          exact L.nil ⟨⟨_, [], hC⟩, Frm.refl _ _⟩
        apply DRN.cons (.det _ _) rfl
        · intro a w hC
          refine L.ixr hC rfl rfl rfl rfl m0 (fun _ => All.nil) (fun _ => All.nil) Try.underlying37 Try.sizeOf3 (fun _ => by omega) rfl rfl ?_; clear hC a; intro a hC
          exact L.nil ⟨⟨_, [], hC⟩, Frm.refl _ _⟩
        apply DRN.cons (.det _ _) rfl
        · intro a w hC
          refine L.ldx hC rfl rfl rfl rfl (fun _ => All.nil) (fun hg => rd_bang hC m0 (by omega) _) Try.isAgg3 rfl rfl rfl ?_; clear hC a; intro a hC
          exact L.nil ⟨⟨_, [], hC⟩, Frm.refl _ _⟩
        apply DRN.cons (.det _ _) rfl
        · intro a w hC
          refine L.pu hC rfl rfl (fun _ => All.nil) rfl rfl ?_; clear hC a; intro a hC
          exact L.nil ⟨⟨_, [], hC⟩, Frm.refl _ _⟩
        apply DRN.cons (.det _ _) rfl
        · intro a w hC
          refine L.pu hC rfl rfl (fun _ => All.nil) rfl rfl ?_; clear hC a; intro a hC
          exact L.nil ⟨⟨_, [], hC⟩, Frm.refl _ _⟩
        apply DRN.cons (.det _ _) rfl
        · intro a w hC
          refine L.ixr hC rfl rfl rfl rfl m1 (fun _ => All.nil) (fun _ => All.nil) Try.underlying37 Try.sizeOf3 (fun _ => by omega) rfl rfl ?_; clear hC a; intro a hC
          exact L.nil ⟨⟨_, [], hC⟩, Frm.refl _ _⟩
        apply DRN.cons (.det _ _) rfl
        · intro a w hC
          refine L.ldx hC rfl rfl rfl rfl (fun _ => All.nil) (fun hg => rd_bang hC m1 (by omega) _) Try.isAgg3 rfl rfl rfl ?_; clear hC a; intro a hC
          exact L.nil ⟨⟨_, [], hC⟩, Frm.refl _ _⟩
        apply DRN.cons (.det _ _) rfl
        · intro a w hC
          refine L.pu hC rfl rfl (fun _ => All.nil) rfl rfl ?_; clear hC a; intro a hC
          exact L.nil ⟨⟨_, [], hC⟩, Frm.refl _ _⟩
        refine DRN.nil (fun w' hF => ?_)
        intro a w hC hw
        subst hw
        refine hk10 _ _ ?_; clear hk10; try clear k10
        refine W.cond hC rfl (fun h3 => ?_) (fun h3 => ?_)
        ·
          refine W.seqk fun k11 hk11 => ?_
          refine W.region ?_
          refine L.pu hC rfl rfl (fun _ => All.nil) rfl rfl ?_; clear hC a; intro a hC
          refine L.nil ?_
          refine hk11 _ _ ?_; clear hk11; try clear k11
          refine W.ret ?_
          refine rets hC rfl (.tmp rfl .nil) ?_
          refine ⟨?_, hC.frm⟩
          refine rb ?_
          exact (same_no2 h3 (by omega) (by omega)).symm
        ·
          refine W.skip ?_
          refine hk9 _ _ ?_; clear hk9; try clear k9
          refine W.region ?_
          refine L.pu hC rfl rfl (fun _ => All.nil) rfl rfl ?_; clear hC a; intro a hC
          refine L.pu hC rfl rfl (fun _ => All.nil) rfl rfl ?_; clear hC a; intro a hC
          refine L.pu hC rfl rfl (fun _ => All.nil) rfl rfl ?_; clear hC a; intro a hC
          refine L.nil ?_
          exact ⟨j + 1, ⟨by omega, same_step he (by omega) (by omega) h3, hC.keep ⟨geti rfl (w64 (by omega)), rfl, rfl, trivial⟩⟩, by first | omega | (dsimp only; omega)⟩
      ·
        have h2 := of_decide_eq_false h2
        refine W.exit ?_
        refine Kb.here ?_
        refine hk5 _ _ ?_; clear hk5; try clear k5
        refine W.seqk fun k12 hk12 => ?_
        refine W.region ?_
        refine L.pu hC rfl rfl (fun _ => All.nil) rfl rfl ?_; clear hC a; intro a hC
        refine L.nil ?_
        refine hk12 _ _ ?_; clear hk12; try clear k12
        refine W.ret ?_
        refine rets hC rfl (.tmp rfl .nil) ?_
        refine ⟨?_, hC.frm⟩
        refine rb ?_
        exact (same_yes he (by omega) hlm).symm

end Go.Proofs.E
