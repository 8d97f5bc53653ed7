/- RingOrder: the plain law, and the walk. -/
import Derived.Test.YtgekiiildobfkabbQ4
set_option linter.unusedVariables false
set_option linter.unusedSimpArgs false
namespace Go.Proofs.E
open Go.RowKit
theorem mid_ok {i j : Nat} (h : i + j ≤ 4096) : IntKind.i64.wrap ((IntKind.u64.wrap (IntKind.i64.wrap ((i : Int) + j))).fdiv (2 ^ (min (1 : Int).toNat 64))) = (((i + j) / 2 : Nat) : Int) := by
  rw [w64 (x := (i : Int) + j) (by omega), uwrap, Int.fdiv_eq_ediv_of_nonneg _ (by decide)]
  have e : (2 : Int) ^ (min (1 : Int).toNat 64) = 2 := by decide
  rw [e, w64 (by omega)]
  omega
theorem mod_in {n : Nat} {l : List (Int × Int)} (hl : 0 < l.length) : 0 ≤ ((n : Int).tmod (l.length : Int)) ∧ ((n : Int).tmod (l.length : Int)) < l.length := by
  rw [Int.tmod_eq_emod_of_nonneg (by omega)]
  exact ⟨Int.emod_nonneg _ (by omega), Int.emod_lt_of_pos _ (by omega)⟩
theorem mod_lt {n : Nat} {l : List (Int × Int)} (hl : 0 < l.length) : ((n : Int).tmod (l.length : Int)).toNat < l.length := by
  have := mod_in (n := n) hl
  omega
def ask12 (l : List (Int × Int)) : Int := if (wholeW l != 0) = true then wholeW l else if ((l.length : Int) == 0) = true then 71 else 0
theorem ask12_len {l : List (Int × Int)} (h : ask12 l = 0) : 0 < l.length ∧ l.length ≤ 1024 := by
  unfold ask12 at h
  split at h
  · rename_i h1; rw [h] at h1; cases h1
  · rename_i h1
    split at h
    · cases h
    · rename_i h2
      have h1 : wholeW l = 0 := by simpa using h1
      have h2 : ¬ (l.length : Int) = 0 := by simpa using h2
      unfold wholeW at h1
      split at h1
      · cases h1
      · rename_i h3
        rw [decide_eq_true_eq] at h3
        omega
section
variable {p : Int} {l R : List (Int × Int)} {i k : Nat}
theorem ring_facts (h : (buildR p l).2 = 0) (hR : (buildR p l).1 = R) : Fine l ∧ (1 ≤ p ∧ p ≤ 64) ∧ R = sortP (allP p l) ∧ R.length ≤ 1024 := by
  unfold buildR at h hR
  split at h
  · rename_i h1
    have h : chkW l = 0 := h
    rw [h] at h1; cases h1
  · rename_i h1
    split at h
    · cases h
    · rename_i h2
      split at h
      · cases h
      · rename_i h3
        rw [if_neg h1, if_neg h2, if_neg h3] at hR
        subst hR
        rw [Bool.not_eq_true] at h2
        simp only [Bool.or_eq_false_iff, decide_eq_false_iff_not] at h2
        rw [decide_eq_true_eq] at h3
        exact ⟨chkw_facts (by simpa using h1), by omega, rfl, by rw [sortP_len]; omega⟩
theorem build_err (h : ((buildR p l).2 != 0) = true) : (buildR p l).1 = [] := by
  unfold buildR at h ⊢
  split
  · rfl
  · rename_i h1
    rw [if_neg h1] at h
    split
    · rfl
    · rename_i h2
      rw [if_neg h2] at h
      split
      · rfl
      · rename_i h3
        rw [if_neg h3] at h
        cases h
theorem sortP_sorted (m : List (Int × Int)) : sortedF ordI (sortP m) = true := by
  have hp := List.pairwise_mergeSort (le := fun x y : Int × Int => !(ltOf ordI) y x)
    (fun a b c h1 h2 => by
      rw [lt_ord] at *
      simp only [Bool.not_eq_true', decide_eq_false_iff_not] at *
      omega)
    (fun a b => by
      rw [lt_ord, lt_ord]
      simp only [Bool.or_eq_true, Bool.not_eq_true', decide_eq_false_iff_not]
      omega) m
  refine sorted_yes (fun q hq h0 hlt => ?_)
  have h1 := List.pairwise_iff_getElem.1 hp (q - 1) q (by show q - 1 < (sortP m).length; omega) hq (by omega)
  rw [bang hq, bang (show q - 1 < (sortP m).length by omega)] at hlt
  have h2 : ltOf ordI (sortP m)[q] ((sortP m)[q - 1]'(by omega)) = true := decide_eq_true hlt
  have h1' : (!(ltOf ordI) (sortP m)[q] ((sortP m)[q - 1]'(by omega))) = true := h1
  rw [h2] at h1'
  cases h1'
theorem allP_snd (hk : Fine l) : ∀ x ∈ allP p l, 0 ≤ x.2 := by
  intro x hx
  unfold allP at hx
  obtain ⟨b, hb, hx⟩ := List.mem_flatMap.1 hx
  unfold ptsN at hx
  obtain ⟨j, _, rfl⟩ := List.mem_map.1 hx
  exact (hk.id b hb).1
theorem ring_whole (hk : Fine l) (hp : 1 ≤ p ∧ p ≤ 64) (hR : R = sortP (allP p l)) (hn : R.length ≤ 1024) : wholeW R = 0 := by
  subst hR
  unfold wholeW
  rw [if_neg (by rw [decide_eq_true_eq]; omega), sortP_sorted, if_neg]
  rw [Bool.not_true, Bool.false_or, List.any_eq_true]
  rintro ⟨x, hx, h⟩
  have := allP_snd (p := p) hk x ((sortP_perm _).mem_iff.1 hx)
  simp at h; omega
theorem ring_len (hR : R = sortP (allP p l)) : R.length = (allP p l).length := by subst hR; exact sortP_len _
def cntK (b : Int) (m : List (Int × Int)) : Int := ((m.filter fun x => x.2 == b).length : Nat)
theorem cntK_yes {b : Int} (hk : k < R.length) (hn : R.length ≤ 1024) (h : (R[k]!.2 == b) = true) : IntKind.i64.wrap (cntK b (R.take k) + 1) = cntK b (R.take (k + 1)) := by
  have h1 := List.length_filter_le (fun x : Int × Int => x.2 == b) (R.take k)
  have h2 : (R.take k).length ≤ R.length := by simp; omega
  unfold cntK
  rw [List.take_add_one, List.getElem?_eq_getElem hk, Option.toList_some, List.filter_append, List.filter_cons_of_pos (by rw [← bang hk]; exact h), List.filter_nil, List.length_append, w64 (by omega)]
  simp
theorem cntK_no {b : Int} (hk : k < R.length) (h : (R[k]!.2 == b) = false) : cntK b (R.take k) = cntK b (R.take (k + 1)) := by
  unfold cntK
  rw [List.take_add_one, List.getElem?_eq_getElem hk, Option.toList_some, List.filter_append, List.filter_cons_of_neg (by rw [← bang hk, h]; simp), List.filter_nil, List.append_nil]
theorem rise_step (hk : Fine l) (hi : i + 1 < l.length) : l[i]!.1 < l[i + 1]!.1 := by
  have h := hk.rise (i + 1) hi
  unfold fallK at h
  rw [Bool.and_eq_false_iff, decide_eq_false_iff_not, decide_eq_false_iff_not] at h
  have hf := hk.few
  rcases h with h | h
  · omega
  · rw [w64 (by omega)] at h
    have e : (((i + 1 : Nat) : Int) - 1).toNat = i := by omega
    rw [e] at h
    omega
theorem rise_lt (hk : Fine l) : ∀ (d i : Nat), i + d + 1 < l.length → l[i]!.1 < l[i + d + 1]!.1
  | 0, i, h => rise_step hk h
  | d + 1, i, h => by
    have h1 := rise_lt hk d i (by omega)
    have h2 := rise_step hk (i := i + d + 1) (by omega)
    rw [show i + (d + 1) + 1 = i + d + 1 + 1 by omega]
    omega
theorem rise_ne (hk : Fine l) {i j : Nat} (hi : i < l.length) (hj : j < l.length) (h : i ≠ j) : l[i]!.1 ≠ l[j]!.1 := by
  rcases Nat.lt_or_gt_of_ne h with h | h
  · have := rise_lt hk (j - i - 1) i (by omega)
    rw [show i + (j - i - 1) + 1 = j by omega] at this
    omega
  · have := rise_lt hk (i - j - 1) j (by omega)
    rw [show j + (i - j - 1) + 1 = i by omega] at this
    omega
theorem filt_pts {b : Int × Int} {c : Int} (n : Nat) : ((ptsN b n).filter fun x => x.2 == c) = if b.1 = c then ptsN b n else [] := by
  split
  · rename_i h
    rw [List.filter_eq_self]
    intro x hx
    unfold ptsN at hx
    obtain ⟨j, _, rfl⟩ := List.mem_map.1 hx
    simpa [ptB] using h
  · rename_i h
    rw [List.filter_eq_nil_iff]
    intro x hx
    unfold ptsN at hx
    obtain ⟨j, _, rfl⟩ := List.mem_map.1 hx
    simpa [ptB] using h
theorem filt_none {c : Int} : ∀ (m : List (Int × Int)), (∀ b ∈ m, b.1 ≠ c) → ((allP p m).filter fun x => x.2 == c) = []
  | [], _ => by simp [allP]
  | b :: m, h => by
    have h1 := filt_none (c := c) m (fun x hx => h x (List.mem_cons_of_mem _ hx))
    unfold allP at h1 ⊢
    rw [List.flatMap_cons, List.filter_append, h1, filt_pts, if_neg (h b (List.mem_cons_self ..))]
    rfl
theorem count_ok (hk : Fine l) (hp : 1 ≤ p ∧ p ≤ 64) (hi : i < l.length) (hR : R = sortP (allP p l)) : cntK l[i]!.1 R = IntKind.i64.wrap (p * l[i]!.2) := by
  obtain ⟨N, hN, _⟩ := wide_N hk hp hi
  have h1 : cntK l[i]!.1 R = cntK l[i]!.1 (allP p l) := by
    subst hR
    unfold cntK
    rw [((sortP_perm (allP p l)).filter _).length_eq]
  have e : allP p l = allP p (l.take i) ++ ptsN l[i]! N ++ allP p (l.drop (i + 1)) := by
    rw [allP_step hi hN]
    conv => lhs; rw [← List.take_append_drop (i + 1) l]
    unfold allP
    rw [List.flatMap_append]
  have f1 : ∀ b ∈ l.take i, b.1 ≠ l[i]!.1 := fun b hb => by
    obtain ⟨j, hj, rfl⟩ := List.getElem_of_mem hb
    have hj' : j < i ∧ j < l.length := by simp at hj; omega
    rw [List.getElem_take, ← bang hj'.2]
    exact rise_ne hk hj'.2 hi (by omega)
  have f2 : ∀ b ∈ l.drop (i + 1), b.1 ≠ l[i]!.1 := fun b hb => by
    obtain ⟨j, hj, rfl⟩ := List.getElem_of_mem hb
    have hj' : i + 1 + j < l.length := by simp at hj; omega
    rw [List.getElem_drop, ← bang hj']
    exact rise_ne hk hj' hi (by omega)
  rw [h1, hN, e]
  unfold cntK
  rw [List.filter_append, List.filter_append, filt_none _ f1, filt_none _ f2, filt_pts, if_pos rfl, List.nil_append, List.append_nil, ptsN_len]
theorem total_ok (hk : Fine l) (hp : 1 ≤ p ∧ p ≤ 64) (hi : i < l.length) (hR : R = sortP (allP p l)) : IntKind.i64.wrap (((allP p (l.take i)).length : Int) + cntK l[i]!.1 R) = ((allP p (l.take (i + 1))).length : Int) := by
  obtain ⟨N, hN, hN2⟩ := wide_N hk hp hi
  have h1 := allP_len hk hp (l := l) (i := i)
  rw [count_ok hk hp hi hR, hN, ← allP_step hi hN, List.length_append, ptsN_len, w64 (by omega)]
  omega
end
theorem alive_ring : (buildR 3 [(4, 2)]).2 = 0 ∧ ask12 (buildR 3 [(4, 2)]).1 = 0 ∧ (buildR 3 [(4, 2)]).1.length = 6 ∧ ∀ k, k < (buildR 3 [(4, 2)]).1.length → ((buildR 3 [(4, 2)]).1[k]!).2 = 4 := by
  have hc : chkW [(4, 2)] = 0 := by decide
  have hl : (allP 3 [(4, 2)]).length = 6 := by
    have : (IntKind.i64.wrap 6).toNat = 6 := by decide
    simp [allP, ptsN_len, this]
  have hb : buildR 3 [(4, 2)] = (sortP (allP 3 [(4, 2)]), 0) := by
    unfold buildR
    rw [hc, if_neg (by decide), if_neg (by decide), hl, if_neg (by decide)]
  have hk := chkw_facts hc
  have hw : wholeW (sortP (allP 3 [(4, 2)])) = 0 := ring_whole hk (by omega) rfl (by rw [sortP_len, hl]; decide)
  rw [hb]
  refine ⟨rfl, ?_, by rw [sortP_len]; exact hl, fun k hkk => ?_⟩
  · unfold ask12
    simp only
    rw [hw, if_neg (by decide), sortP_len, hl]
    rfl
  · have hm : (sortP (allP 3 [(4, 2)]))[k]! ∈ allP 3 [(4, 2)] := (sortP_perm _).mem_iff.1 (bang_mem hkk)
    show ((sortP (allP 3 [(4, 2)]))[k]!).2 = 4
    generalize (sortP (allP 3 [(4, 2)]))[k]! = x at hm
    unfold allP at hm
    obtain ⟨b, hb2, hx⟩ := List.mem_flatMap.1 hm
    unfold ptsN at hx
    obtain ⟨j, _, hx⟩ := List.mem_map.1 hx
    simp only [List.mem_singleton] at hb2
    rw [← hx, hb2]
    rfl
theorem begc_ok (x : Int × Int) (h : Int) (w : World) : Calls Try.prog 62 #[.agg (pntE.enc x).toArray, .int .u64 h] w fun e w' => e = .returned (.int .i64 (cmpI x.1 h)) ∧ Frm Nob w w' := by
  refine enter (μ := []) (S := Nob) (vs := [.agg (pntE.enc x).toArray, .int .u64 h]) Try.func62 rfl Try.ntmps62 rfl (Mem.nil _) (by simp) (fun a hC => ?_)
  refine W.seqk fun k1 hk1 => ?_
  refine W.region ?_
  refine L.box hC rfl rfl rfl rfl rfl rfl ?_; clear hC a; intro b1 a w hF hC
  refine L.pu hC rfl rfl (fun _ => All.nil) rfl rfl ?_; clear hC a; intro a hC
  refine L.nil ?_
  refine hk1 _ _ ?_; clear hk1; try clear k1
  refine W.seqk fun k2 hk2 => ?_
  refine W.region ?_
  refine L.fa hC rfl rfl rfl (fun _ => All.nil) Try.underlying30 rfl Try.sizeOf28 rfl rfl rfl ?_; clear hC a; intro a hC
  refine L.ld hC rfl rfl rfl (fun _ => All.nil) m0 Try.isAgg28 rfl rfl rfl ?_; clear hC a; intro a hC
  refine L.pu hC rfl rfl (fun _ => All.nil) rfl rfl ?_; clear hC a; intro a hC
  refine L.call hC rfl rfl Try.call47 rfl (fun _ => All.nil) (fun hg => compareu_ok _ _ _) rfl rfl ?_; clear hC a; intro a w hF hC
  refine L.pu hC rfl rfl (fun _ => All.nil) rfl rfl ?_; clear hC a; intro a hC
  refine L.nil ?_
  refine hk2 _ _ ?_; clear hk2; try clear k2
  refine W.ret ?_
  refine rets hC rfl (.tmp rfl .nil) ?_
  refine ⟨?_, hC.frm⟩
  rfl

theorem bsp_ok (v : Value) (l : List (Int × Int)) (h : Int) (w0 : World) (hr : (rdR v pntE l).ok w0) (hl : l.length ≤ 1024) : Calls Try.prog 61 #[v, .int .u64 h, .func (.func 62) #[] #[]] w0 fun e w' => ∃ x : Nat × Bool, e = .returned (.tuple #[.int .i64 (x.1 : Int), .bool x.2]) ∧ x.1 ≤ l.length ∧ Post Nob [] w0 w' := by
  refine enter (μ := [rdR v pntE l]) (S := Nob) (vs := [v, .int .u64 h, .func (.func 62) #[] #[]]) Try.func61 rfl Try.ntmps61 rfl ⟨by simpa using hr, by simp⟩ (by simp [rdR]) (fun a hC => ?_)
  refine W.seqk fun k1 hk1 => ?_
  refine W.region ?_
  refine L.pu hC rfl rfl (fun _ => All.nil) rfl rfl ?_; clear hC a; intro a hC
  refine L.pu hC rfl rfl (fun _ => All.nil) rfl rfl ?_; clear hC a; intro a hC
  refine L.nil ?_
  refine hk1 _ _ ?_; clear hk1; try clear k1
  refine W.seqk fun k2 hk2 => ?_
  refine W.region ?_
  refine L.pu hC rfl rfl (fun _ => All.nil) rfl rfl ?_; clear hC a; intro a hC
  refine L.len hC rfl rfl rfl (fun _ => All.nil) (rd_form (hC.at m0)) Try.underlying24 rfl rfl ?_; clear hC a; intro a hC
  refine L.pu hC rfl rfl (fun _ => All.nil) rfl rfl ?_; clear hC a; intro a hC
  refine L.nil ?_
  refine hk2 _ _ ?_; clear hk2; try clear k2
  refine W.seqk fun k3 hk3 => ?_
  refine W.region ?_
  refine L.pu hC rfl rfl (fun _ => All.nil) rfl rfl ?_; clear hC a; intro a hC
  refine L.pu hC rfl rfl (fun _ => All.nil) rfl rfl ?_; clear hC a; intro a hC
  refine L.pu hC rfl rfl (fun _ => All.nil) rfl rfl ?_; clear hC a; intro a hC
  refine L.nil ?_
  refine hk3 _ _ ?_; clear hk3; try clear k3
  refine W.seqk fun k4 hk4 => ?_
  refine W.block ?_
  refine W.loop (fun (gst : Nat × Nat) a w' => match gst with | ⟨i, j⟩ => (i ≤ j) ∧ (j ≤ l.length) ∧ Conf 49 Nob w0 [(9, (none, .int .i64 (i : Int))), (10, (none, .int .i64 (j : Int))), (8, (none, .int .i64 (l.length : Int))), (0, (none, v)), (1, (none, .int .u64 h)), (2, (none, .func (.func 62) #[] #[]))] [rdR v pntE l] a w') (fun (gst : Nat × Nat) => match gst with | ⟨i, j⟩ => j - i) (0, l.length) ?_ ?_
  · exact ⟨Nat.zero_le _, Nat.le_refl _, hC.keep ⟨rfl, rfl, rfl, rfl, rfl, rfl, trivial⟩⟩
  · rintro ⟨i, j⟩ a w ⟨hij, hj, hC⟩
    refine W.seqk fun k5 hk5 => ?_
    refine W.seqk fun k6 hk6 => ?_
    refine W.region ?_
    refine L.pu hC rfl rfl (fun _ => All.nil) rfl rfl ?_; clear hC a; intro a hC
    refine L.pu hC rfl rfl (fun _ => All.nil) rfl rfl ?_; clear hC a; intro a hC
    refine L.pu hC rfl rfl (fun _ => All.nil) rfl rfl ?_; clear hC a; intro a hC
    refine L.nil ?_
    refine hk6 _ _ ?_; clear hk6; try clear k6
    refine W.cond hC rfl (fun h1 => ?_) (fun h1 => ?_)
    ·
      have h1 := of_decide_eq_true h1
      refine W.skip ?_
      refine hk5 _ _ ?_; clear hk5; try clear k5
      refine W.block ?_
      refine W.seqk fun k7 hk7 => ?_
      refine W.region ?_
      refine L.pu hC rfl rfl (fun _ => All.nil) rfl rfl ?_; clear hC a; intro a hC
      refine L.pu hC rfl rfl (fun _ => All.nil) rfl rfl ?_; clear hC a; intro a hC
      refine L.pu hC rfl rfl (fun _ => All.nil) rfl rfl ?_; clear hC a; intro a hC
      refine L.conv hC rfl rfl rfl (fun _ => All.nil) Try.underlying3 Try.underlying112 rfl rfl ?_; clear hC a; intro a hC
      refine L.bin hC rfl rfl rfl rfl (fun _ => All.nil) (fun _ => All.nil) (fun hg => run_shr (by decide) _) rfl rfl ?_; clear hC a; intro a hC
      refine L.conv hC rfl rfl rfl (fun _ => All.nil) Try.underlying112 Try.underlying3 rfl rfl ?_; clear hC a; intro a hC
      refine L.pu hC rfl rfl (fun _ => All.nil) rfl rfl ?_; clear hC a; intro a hC
      replace hC := hC.slot (d := 11) (geti (b := (((i + j) / 2 : Nat) : Int)) rfl (mid_ok (by omega)))
      have hm1 : i ≤ (i + j) / 2 ∧ (i + j) / 2 < j := by omega
      refine L.nil ?_
      refine hk7 _ _ ?_; clear hk7; try clear k7
      refine W.seqk fun k8 hk8 => ?_
      refine W.region ?_
      refine L.pu hC rfl rfl (fun _ => All.nil) rfl rfl ?_; clear hC a; intro a hC
      refine L.pu hC rfl rfl (fun _ => All.nil) rfl rfl ?_; clear hC a; intro a hC
      refine L.pu hC rfl rfl (fun _ => All.nil) rfl rfl ?_; clear hC a; intro a hC
      refine L.ixr hC rfl rfl rfl rfl m0 (fun _ => All.nil) (fun _ => All.nil) Try.underlying24 Try.sizeOf30 (fun _ => by omega) rfl rfl ?_; clear hC a; intro a hC
      refine L.ldxa hC rfl rfl rfl rfl (fun _ => All.nil) (fun hg => rd_bang hC m0 (by omega) _) Try.isAgg30 Try.sizeOf30 rfl rfl rfl rfl ?_; clear hC a; intro a hC
      refine L.pu hC rfl rfl (fun _ => All.nil) rfl rfl ?_; clear hC a; intro a hC
      refine L.callf hC rfl rfl rfl (fun _ => All.nil) Try.call62 rfl (fun _ => All.nil) (fun hg => begc_ok _ h _) rfl rfl ?_; clear hC a; intro a w hF hC
      refine L.pu hC rfl rfl (fun _ => All.nil) rfl rfl ?_; clear hC a; intro a hC
      refine L.nil ?_
      refine hk8 _ _ ?_; clear hk8; try clear k8
      refine W.cond hC rfl (fun h2 => ?_) (fun h2 => ?_)
      ·
        refine W.region ?_
        refine L.pu hC rfl rfl (fun _ => All.nil) rfl rfl ?_; clear hC a; intro a hC
        refine L.pu hC rfl rfl (fun _ => All.nil) rfl rfl ?_; clear hC a; intro a hC
        refine L.pu hC rfl rfl (fun _ => All.nil) rfl rfl ?_; clear hC a; intro a hC
        refine L.nil ?_
        exact ⟨((i + j) / 2 + 1, j), ⟨by omega, by omega, hC.keep ⟨(by first | rfl | exact geti rfl (w64 (by omega))), rfl, rfl, rfl, rfl, rfl, trivial⟩⟩, by first | omega | (dsimp only; omega)⟩
      ·
        refine W.region ?_
        refine L.pu hC rfl rfl (fun _ => All.nil) rfl rfl ?_; clear hC a; intro a hC
        refine L.pu hC rfl rfl (fun _ => All.nil) rfl rfl ?_; clear hC a; intro a hC
        refine L.nil ?_
        exact ⟨(i, (i + j) / 2), ⟨by omega, by omega, hC.keep ⟨(by first | rfl | exact geti rfl (w64 (by omega))), rfl, rfl, rfl, rfl, rfl, trivial⟩⟩, by first | omega | (dsimp only; omega)⟩
    ·
      have h1 := of_decide_eq_false h1
      refine W.exit ?_
      refine Kb.here ?_
      refine hk4 _ _ ?_; clear hk4; try clear k4
      refine W.seqk fun k9 hk9 => ?_
      refine W.region ?_
      refine L.pu hC rfl rfl (fun _ => All.nil) rfl rfl ?_; clear hC a; intro a hC
      refine L.pu hC rfl rfl (fun _ => All.nil) rfl rfl ?_; clear hC a; intro a hC
      refine L.pu hC rfl rfl (fun _ => All.nil) rfl rfl ?_; clear hC a; intro a hC
      refine L.pu hC rfl rfl (fun _ => All.nil) rfl rfl ?_; clear hC a; intro a hC
      refine L.pu hC rfl rfl (fun _ => All.nil) rfl rfl ?_; clear hC a; intro a hC
      refine L.pu hC rfl rfl (fun _ => All.nil) rfl rfl ?_; clear hC a; intro a hC
      refine L.pu hC rfl rfl (fun _ => All.nil) rfl rfl ?_; clear hC a; intro a hC
      refine L.pu hC rfl rfl (fun _ => All.nil) rfl rfl ?_; clear hC a; intro a hC
      refine L.ixr hC rfl rfl rfl rfl m0 (fun hg => by first | (simp only [Gt, Bool.and_eq_true] at hg; simp only [All, List.cons_append, List.nil_append, List.append_nil, List.mem_cons, List.not_mem_nil, or_false, forall_eq_or_imp, forall_eq, Bool.and_eq_true, hg, Bool.not_false, Bool.not_true, and_self]; done) | (simp only [Gt] at hg; simp only [All, List.cons_append, List.nil_append, List.append_nil, List.mem_cons, List.not_mem_nil, or_false, forall_eq_or_imp, forall_eq, hg, and_self])) (fun hg => by first | (simp only [Gt, Bool.and_eq_true] at hg; simp only [All, List.cons_append, List.nil_append, List.append_nil, List.mem_cons, List.not_mem_nil, or_false, forall_eq_or_imp, forall_eq, Bool.and_eq_true, hg, Bool.not_false, Bool.not_true, and_self]; done) | (simp only [Gt] at hg; simp only [All, List.cons_append, List.nil_append, List.append_nil, List.mem_cons, List.not_mem_nil, or_false, forall_eq_or_imp, forall_eq, hg, and_self])) Try.underlying24 Try.sizeOf30 (fun hg => by have := of_decide_eq_true hg; omega) rfl rfl ?_; clear hC a; intro a hC
      refine L.ldxa hC rfl rfl rfl rfl (fun hg => by first | (simp only [Gt, Bool.and_eq_true] at hg; simp only [All, List.cons_append, List.nil_append, List.append_nil, List.mem_cons, List.not_mem_nil, or_false, forall_eq_or_imp, forall_eq, Bool.and_eq_true, hg, Bool.not_false, Bool.not_true, and_self]; done) | (simp only [Gt] at hg; simp only [All, List.cons_append, List.nil_append, List.append_nil, List.mem_cons, List.not_mem_nil, or_false, forall_eq_or_imp, forall_eq, hg, and_self])) (fun hg => rd_bang hC m0 (by have := of_decide_eq_true hg; omega) _) Try.isAgg30 Try.sizeOf30 rfl rfl rfl rfl ?_; clear hC a; intro a hC
      refine L.pu hC rfl rfl (fun _ => All.nil) rfl rfl ?_; clear hC a; intro a hC
      refine L.callf hC rfl rfl rfl (fun hg => by first | (simp only [Gt, Bool.and_eq_true] at hg; simp only [All, List.cons_append, List.nil_append, List.append_nil, List.mem_cons, List.not_mem_nil, or_false, forall_eq_or_imp, forall_eq, Bool.and_eq_true, hg, Bool.not_false, Bool.not_true, and_self]; done) | (simp only [Gt] at hg; simp only [All, List.cons_append, List.nil_append, List.append_nil, List.mem_cons, List.not_mem_nil, or_false, forall_eq_or_imp, forall_eq, hg, and_self])) Try.call62 rfl (fun hg => by first | (simp only [Gt, Bool.and_eq_true] at hg; simp only [All, List.cons_append, List.nil_append, List.append_nil, List.mem_cons, List.not_mem_nil, or_false, forall_eq_or_imp, forall_eq, Bool.and_eq_true, hg, Bool.not_false, Bool.not_true, and_self]; done) | (simp only [Gt] at hg; simp only [All, List.cons_append, List.nil_append, List.append_nil, List.mem_cons, List.not_mem_nil, or_false, forall_eq_or_imp, forall_eq, hg, and_self])) (fun hg => begc_ok _ h _) rfl rfl ?_; clear hC a; intro a w hF hC
      refine L.pu hC rfl rfl (fun hg => by first | (simp only [Gt, Bool.and_eq_true] at hg; simp only [All, List.cons_append, List.nil_append, List.append_nil, List.mem_cons, List.not_mem_nil, or_false, forall_eq_or_imp, forall_eq, Bool.and_eq_true, hg, Bool.not_false, Bool.not_true, and_self]; done) | (simp only [Gt] at hg; simp only [All, List.cons_append, List.nil_append, List.append_nil, List.mem_cons, List.not_mem_nil, or_false, forall_eq_or_imp, forall_eq, hg, and_self])) rfl rfl ?_; clear hC a; intro a hC
      refine L.and hC rfl rfl rfl rfl (fun _ => All.nil) (fun _ hp => by first | (simp only [All, List.cons_append, List.nil_append, List.append_nil, List.mem_cons, List.not_mem_nil, or_false, forall_eq_or_imp, forall_eq, Bool.and_eq_true, hp, Bool.not_false, Bool.not_true, and_self]; done) | simp [All, hp]) rfl rfl ?_; clear hC a; intro a hC
      refine L.pu hC rfl rfl (fun _ => All.nil) rfl rfl ?_; clear hC a; intro a hC
      refine L.pu hC rfl rfl (fun _ => All.nil) rfl rfl ?_; clear hC a; intro a hC
      refine L.nil ?_
      refine hk9 _ _ ?_; clear hk9; try clear k9
      refine W.ret ?_
      refine retl hC rfl (.tmp rfl (.tmp rfl .nil)) rfl ?_
      replace hC := hC.subl (.cons _ .slnil)
      exact ⟨(i, _), rfl, by omega, hC.toPost (by simp)⟩

theorem begins_ok (v : Value) (l : List (Int × Int)) (h : Int) (w0 : World) (hr : (rdR v pntE l).ok w0) (hl : l.length ≤ 1024) : Calls Try.prog 39 #[v, .int .u64 h] w0 fun e w' => ∃ n : Nat, e = .returned (.agg #[v, .int .i64 (n : Int)]) ∧ n ≤ l.length ∧ Post Nob [] w0 w' := by
  obtain ⟨vA, vc, hv, _, _⟩ := id hr
  subst hv
  refine enter (μ := [rdR (.slice vA l.length vc) pntE l]) (S := Nob) (vs := [.slice vA l.length vc, .int .u64 h]) Try.func39 rfl Try.ntmps39 rfl ⟨by simpa using hr, by simp⟩ (by simp [rdR]) (fun a hC => ?_)
  refine W.seqk fun k1 hk1 => ?_
  refine W.region ?_
  refine L.alloc hC rfl rfl Try.zeroValue104 rfl rfl rfl ?_; clear hC a; intro rb a w hF hC
  refine L.nil ?_
  refine hk1 _ _ ?_; clear hk1; try clear k1
  refine W.seqk fun k2 hk2 => ?_
  refine W.region ?_
  refine L.pu hC rfl rfl (fun _ => All.nil) rfl rfl ?_; clear hC a; intro a hC
  refine L.pu hC rfl rfl (fun _ => All.nil) rfl rfl ?_; clear hC a; intro a hC
  refine L.callg [] hC rfl rfl Try.call61 rfl (bsp_ok _ l h _ (hC.at m1) hl) (fun b h => h.elim) rfl rfl ?_; clear hC a; intro x a w hQ hC
  obtain ⟨n, f⟩ := x
  dsimp only at hC hQ
  refine L.pu hC rfl rfl (fun _ => All.nil) rfl rfl ?_; clear hC a; intro a hC
  refine L.pu hC rfl rfl (fun _ => All.nil) rfl rfl ?_; clear hC a; intro a hC
  refine L.pu hC rfl rfl (fun _ => All.nil) rfl rfl ?_; clear hC a; intro a hC
  refine L.pu hC rfl rfl (fun _ => All.nil) rfl rfl ?_; clear hC a; intro a hC
  refine L.pu hC rfl rfl (fun _ => All.nil) rfl rfl ?_; clear hC a; intro a hC
  refine L.nil ?_
  refine hk2 _ _ ?_; clear hk2; try clear k2
  refine W.seqk fun k3 hk3 => ?_
  refine W.region ?_
  refine L.pu hC rfl rfl (fun _ => All.nil) rfl rfl ?_; clear hC a; intro a hC
  refine L.pu hC rfl rfl (fun _ => All.nil) rfl rfl ?_; clear hC a; intro a hC
  refine L.buildS (ps := [(0, 1), (1, 1)]) hC rfl rfl rfl (fun _ => All.nil) Try.zeroValue104 Try.underlying104 ⟨⟨rfl, Try.sizeOf24⟩, ⟨rfl, Try.sizeOf3⟩, trivial⟩ rfl rfl rfl ?_; clear hC a; intro a hC
  refine L.st hC rfl rfl rfl rfl Try.sizeOf104 rfl rfl rfl rfl rfl ?_; clear hC a; intro a w hF hC
  refine L.nil ?_
  refine hk3 _ _ ?_; clear hk3; try clear k3
  refine W.ret ?_
  refine rets hC rfl (.agg rfl m0 Try.isAgg104 Try.sizeOf104 rfl .nil) ?_
  replace hC := hC.subl (.cons _ (.cons _ .slnil))
  exact ⟨n, rfl, hQ, hC.toPost (by simp)⟩

theorem first_ok (v : Value) (l : List (Int × Int)) (n : Nat) (w0 : World) (hr : (rdR v pntE l).ok w0) (hl : 0 < l.length) : Calls Try.prog 40 #[.agg #[v, .int .i64 (n : Int)]] w0 fun e w' => ∃ k : Nat, e = .returned (.int .i64 l[k]!.2) ∧ k < l.length ∧ Post Nob [] w0 w' := by
  obtain ⟨vA, vc, hv, _, _⟩ := id hr
  subst hv
  have hlt := hr
  refine enter (μ := [rdR (.slice vA l.length vc) pntE l]) (S := Nob) (vs := [.agg #[.slice vA l.length vc, .int .i64 (n : Int)]]) Try.func40 rfl Try.ntmps40 rfl ⟨by simpa using hr, by simp⟩ (by simp [rdR]) (fun a hC => ?_)
  refine W.seqk fun k1 hk1 => ?_
  refine W.region ?_
  refine L.box hC rfl rfl rfl rfl rfl rfl ?_; clear hC a; intro rb a w hF hC
  refine L.pu hC rfl rfl (fun _ => All.nil) rfl rfl ?_; clear hC a; intro a hC
  refine L.nil ?_
  refine hk1 _ _ ?_; clear hk1; try clear k1
  refine W.seqk fun k2 hk2 => ?_
  replace hC := hC.del 2
  refine W.drawD hC Try.mixed rfl rfl ?_
  apply DRN.cons (.det _ _) rfl
  · intro a w hC
    refine L.fa hC rfl rfl rfl (fun _ => All.nil) Try.underlying104 rfl Try.sizeOf24 rfl rfl rfl ?_; clear hC a; intro a hC
    exact L.nil ⟨⟨_, [], hC⟩, Frm.refl _ _⟩
  apply DRN.cons (.det _ _) rfl
  · intro a w hC
    refine L.ld hC rfl rfl rfl (fun _ => All.nil) m0 Try.isAgg24 rfl rfl rfl ?_; clear hC a; intro a hC
    exact L.nil ⟨⟨_, [], hC⟩, Frm.refl _ _⟩
  apply DRN.cons (.det _ _) rfl
  · intro a w hC
    refine L.fa hC rfl rfl rfl (fun _ => All.nil) Try.underlying104 rfl Try.sizeOf3 rfl rfl rfl ?_; clear hC a; intro a hC
    exact L.nil ⟨⟨_, [], hC⟩, Frm.refl _ _⟩
  apply DRN.cons (.det _ _) rfl
  · intro a w hC
    refine L.ld hC rfl rfl rfl (fun _ => All.nil) m0 Try.isAgg3 rfl rfl rfl ?_; clear hC a; intro a hC
    exact L.nil ⟨⟨_, [], hC⟩, Frm.refl _ _⟩
  apply DRN.cons (.det _ _) rfl
  · intro a w hC
    refine L.fa hC rfl rfl rfl (fun _ => All.nil) Try.underlying104 rfl Try.sizeOf24 rfl rfl rfl ?_; clear hC a; intro a hC
    exact L.nil ⟨⟨_, [], hC⟩, Frm.refl _ _⟩
  apply DRN.cons (.det _ _) rfl
  · intro a w hC
    refine L.ld hC rfl rfl rfl (fun _ => All.nil) m0 Try.isAgg24 rfl rfl rfl ?_; clear hC a; intro a hC
    exact L.nil ⟨⟨_, [], hC⟩, Frm.refl _ _⟩
  apply DRN.cons (.det _ _) rfl
  · intro a w hC
    refine L.len hC rfl rfl rfl (fun _ => All.nil) (rd_form (hC.at m1)) Try.underlying24 rfl rfl ?_; clear hC a; intro a hC
    exact L.nil ⟨⟨_, [], hC⟩, Frm.refl _ _⟩
  apply DRN.cons (.det _ _) rfl
  · intro a w hC
    refine L.bin hC rfl rfl rfl rfl (fun _ => All.nil) (fun _ => All.nil) (fun hg => run_rem (by omega) _) rfl rfl ?_; clear hC a; intro a hC
    exact L.nil ⟨⟨_, [], hC⟩, Frm.refl _ _⟩
  apply DRN.cons (.det _ _) rfl
  · intro a w hC
    refine L.ixr hC rfl rfl rfl rfl m1 (fun _ => All.nil) (fun _ => All.nil) Try.underlying24 Try.sizeOf30 (fun _ => mod_in hl) rfl rfl ?_; clear hC a; intro a hC
    exact L.nil ⟨⟨_, [], hC⟩, Frm.refl _ _⟩
  apply DRN.cons (.det _ _) rfl
  · intro a w hC
    refine L.fae hC rfl rfl rfl (fun _ => All.nil) Try.underlying30 rfl Try.sizeOf3 rfl (fun hg => rd_some (hC.at m1) (by first | exact (mod_lt hl) | exact hl)) rfl rfl ?_; clear hC a; intro a hC
    exact L.nil ⟨⟨_, [], hC⟩, Frm.refl _ _⟩
  apply DRN.cons (.det _ _) rfl
  · intro a w hC
    refine L.ldx hC rfl rfl rfl rfl (fun _ => All.nil) (fun hg => rd_bang hC m1 (by first | exact (mod_lt hl) | exact hl) _) Try.isAgg3 rfl rfl rfl ?_; clear hC a; intro a hC
    exact L.nil ⟨⟨_, [], hC⟩, Frm.refl _ _⟩
  apply DRN.cons (.det _ _) rfl
  · intro a w hC
    refine L.pu hC rfl rfl (fun _ => All.nil) rfl rfl ?_; clear hC a; intro a hC
    exact L.nil ⟨⟨_, [], hC⟩, Frm.refl _ _⟩
  refine DRN.nil (fun w' hF => ?_)
  intro a w hC hw
  subst hw
  refine hk2 _ _ ?_; clear hk2; try clear k2
  refine W.ret ?_
  refine rets hC rfl (.tmp rfl .nil) ?_
  replace hC := hC.subl (.cons _ (.cons _ .slnil))
  exact ⟨_, rfl, mod_lt hl, hC.toPost (by simp)⟩

theorem ask12_ok (v : Value) (l : List (Int × Int)) (w0 : World) (hr : (rdR v pntE l).ok w0) : Calls Try.prog 38 #[v] w0 fun e w' => e = .returned (.int .i64 (ask12 l)) ∧ Frm Nob w0 w' := by
  refine enter (μ := [rdR v pntE l]) (S := Nob) (vs := [v]) Try.func38 rfl Try.ntmps38 rfl ⟨by simpa using hr, by simp⟩ (by simp [rdR]) (fun a hC => ?_)
  refine W.seqk fun k1 hk1 => ?_
  refine W.region ?_
  refine L.pu hC rfl rfl (fun _ => All.nil) rfl rfl ?_; clear hC a; intro a hC
  refine L.nil ?_
  refine hk1 _ _ ?_; clear hk1; try clear k1
  refine W.seqk fun k2 hk2 => ?_
  refine W.seqk fun k3 hk3 => ?_
  refine W.region ?_
  refine L.pu hC rfl rfl (fun _ => All.nil) rfl rfl ?_; clear hC a; intro a hC
  refine L.call hC rfl rfl Try.call60 rfl (fun _ => All.nil) (fun hg => whole_ok v l _ (hC.at m0)) rfl rfl ?_; clear hC a; intro a w hF hC
  refine L.pu hC rfl rfl (fun _ => All.nil) rfl rfl ?_; clear hC a; intro a hC
  refine L.nil ?_
  refine hk3 _ _ ?_; clear hk3; try clear k3
  refine W.seqk fun k4 hk4 => ?_
  refine W.region ?_
  refine L.pu hC rfl rfl (fun _ => All.nil) rfl rfl ?_; clear hC a; intro a hC
  refine L.pu hC rfl rfl (fun _ => All.nil) rfl rfl ?_; clear hC a; intro a hC
  refine L.nil ?_
  refine hk4 _ _ ?_; clear hk4; try clear k4
  refine W.cond hC rfl (fun h1 => ?_) (fun h1 => ?_)
  ·
    refine W.seqk fun k5 hk5 => ?_
    refine W.region ?_
    refine L.pu hC rfl rfl (fun _ => All.nil) rfl rfl ?_; clear hC a; intro a hC
    refine L.pu hC rfl rfl (fun _ => All.nil) rfl rfl ?_; clear hC a; intro a hC
    refine L.nil ?_
    refine hk5 _ _ ?_; clear hk5; try clear k5
    refine W.ret ?_
    refine rets hC rfl (.tmp rfl .nil) ?_
    exact ⟨(by unfold ask12; rw [if_pos h1]; try rfl), hC.frm⟩
  ·
    refine W.skip ?_
    refine hk2 _ _ ?_; clear hk2; try clear k2
    refine W.seqk fun k6 hk6 => ?_
    refine W.seqk fun k7 hk7 => ?_
    refine W.region ?_
    refine L.pu hC rfl rfl (fun _ => All.nil) rfl rfl ?_; clear hC a; intro a hC
    refine L.len hC rfl rfl rfl (fun _ => All.nil) (rd_form (hC.at m0)) Try.underlying24 rfl rfl ?_; clear hC a; intro a hC
    refine L.pu hC rfl rfl (fun _ => All.nil) rfl rfl ?_; clear hC a; intro a hC
    refine L.nil ?_
    refine hk7 _ _ ?_; clear hk7; try clear k7
    refine W.cond hC rfl (fun h2 => ?_) (fun h2 => ?_)
    ·
      refine W.seqk fun k8 hk8 => ?_
      refine W.region ?_
      refine L.pu hC rfl rfl (fun _ => All.nil) rfl rfl ?_; clear hC a; intro a hC
      refine L.nil ?_
      refine hk8 _ _ ?_; clear hk8; try clear k8
      refine W.ret ?_
      refine rets hC rfl (.tmp rfl .nil) ?_
      exact ⟨(by unfold ask12; rw [if_neg (nt h1), if_pos h2]; try rfl), hC.frm⟩
    ·
      refine W.skip ?_
      refine hk6 _ _ ?_; clear hk6; try clear k6
      refine W.seqk fun k9 hk9 => ?_
      refine W.region ?_
      refine L.pu hC rfl rfl (fun _ => All.nil) rfl rfl ?_; clear hC a; intro a hC
      refine L.nil ?_
      refine hk9 _ _ ?_; clear hk9; try clear k9
      refine W.ret ?_
      refine rets hC rfl (.tmp rfl .nil) ?_
      exact ⟨(by unfold ask12; rw [if_neg (nt h1), if_neg (nt h2)]; try rfl), hC.frm⟩

theorem look12_ok (v : Value) (l : List (Int × Int)) (h : Int) (w0 : World) (hr : (rdR v pntE l).ok w0) (h0 : ask12 l = 0) : Calls Try.prog 19 #[v, .int .u64 h] w0 fun e w' => ∃ k : Nat, e = .returned (.tuple #[.int .i64 l[k]!.2, .int .i64 0]) ∧ k < l.length ∧ Post Nob [] w0 w' := by
  have hz := ask12_len h0
  refine enter (μ := [rdR v pntE l]) (S := Nob) (vs := [v, .int .u64 h]) Try.func19 rfl Try.ntmps19 rfl ⟨by simpa using hr, by simp⟩ (by simp [rdR]) (fun a hC => ?_)
  refine W.seqk fun k1 hk1 => ?_
  refine W.region ?_
  refine L.pu hC rfl rfl (fun _ => All.nil) rfl rfl ?_; clear hC a; intro a hC
  refine L.pu hC rfl rfl (fun _ => All.nil) rfl rfl ?_; clear hC a; intro a hC
  refine L.nil ?_
  refine hk1 _ _ ?_; clear hk1; try clear k1
  refine W.seqk fun k2 hk2 => ?_
  refine W.seqk fun k3 hk3 => ?_
  refine W.region ?_
  refine L.pu hC rfl rfl (fun _ => All.nil) rfl rfl ?_; clear hC a; intro a hC
  refine L.call hC rfl rfl Try.call38 rfl (fun _ => All.nil) (fun hg => ask12_ok v l _ (hC.at m0)) rfl rfl ?_; clear hC a; intro a w hF hC
  refine L.pu hC rfl rfl (fun _ => All.nil) rfl rfl ?_; clear hC a; intro a hC
  refine L.nil ?_
  refine hk3 _ _ ?_; clear hk3; try clear k3
  refine W.seqk fun k4 hk4 => ?_
  refine W.region ?_
  refine L.pu hC rfl rfl (fun _ => All.nil) rfl rfl ?_; clear hC a; intro a hC
  refine L.pu hC rfl rfl (fun _ => All.nil) rfl rfl ?_; clear hC a; intro a hC
  refine L.nil ?_
  refine hk4 _ _ ?_; clear hk4; try clear k4
  refine W.cond hC rfl (fun h1 => ?_) (fun h1 => ?_)
  ·
    exact absurd h1 (by rw [h0]; decide)
  ·
    refine W.skip ?_
    refine hk2 _ _ ?_; clear hk2; try clear k2
    refine W.seqk fun k5 hk5 => ?_
    refine W.region ?_
    refine L.pu hC rfl rfl (fun _ => All.nil) rfl rfl ?_; clear hC a; intro a hC
    refine L.pu hC rfl rfl (fun _ => All.nil) rfl rfl ?_; clear hC a; intro a hC
    refine L.callg [] hC rfl rfl Try.call39 rfl (begins_ok _ l h _ (hC.at m0) hz.2) (fun b h => h.elim) rfl rfl ?_; clear hC a; intro n a w hQ hC
    refine L.callg [] hC rfl rfl Try.call40 rfl (first_ok _ l n _ (hC.at m0) hz.1) (fun b h => h.elim) rfl rfl ?_; clear hC a; intro k a w hQ hC
    have hk := hQ
    refine L.pu hC rfl rfl (fun _ => All.nil) rfl rfl ?_; clear hC a; intro a hC
    refine L.pu hC rfl rfl (fun _ => All.nil) rfl rfl ?_; clear hC a; intro a hC
    refine L.nil ?_
    refine hk5 _ _ ?_; clear hk5; try clear k5
    refine W.ret ?_
    refine retl hC rfl (.tmp rfl (.tmp rfl .nil)) rfl ?_
    replace hC := hC.subl (.cons _ .slnil)
    exact ⟨k, rfl, hk, hC.toPost (by simp)⟩

theorem num12_ok (x : Int) (w0 : World) : Calls Try.prog 9 #[.int .i64 x] w0 fun e w' => e = .returned (.int .i64 x) ∧ Frm Nob w0 w' := by
  refine enter (μ := []) (S := Nob) (vs := [.int .i64 x]) Try.func9 rfl Try.ntmps9 rfl (Mem.nil _) (by simp) (fun a hC => ?_)
  refine W.seqk fun k1 hk1 => ?_
  refine W.region ?_
  refine L.pu hC rfl rfl (fun _ => All.nil) rfl rfl ?_; clear hC a; intro a hC
  refine L.nil ?_
  refine hk1 _ _ ?_; clear hk1; try clear k1
  refine W.seqk fun k2 hk2 => ?_
  refine W.region ?_
  refine L.pu hC rfl rfl (fun _ => All.nil) rfl rfl ?_; clear hC a; intro a hC
  refine L.pu hC rfl rfl (fun _ => All.nil) rfl rfl ?_; clear hC a; intro a hC
  refine L.nil ?_
  refine hk2 _ _ ?_; clear hk2; try clear k2
  refine W.ret ?_
  refine rets hC rfl (.tmp rfl .nil) ?_
  refine ⟨?_, hC.frm⟩
  rfl

theorem alive12_ok (w0 : World) : Calls Try.prog 6 #[] w0 fun e w' => e = .returned (.bool true) ∧ Frm Nob w0 w' := by
  have hB := alive_ring
  refine enter (μ := []) (S := Nob) (vs := []) Try.func6 rfl Try.ntmps6 rfl (Mem.nil _) (by simp) (fun a hC => ?_)
  refine W.seqk fun k1 hk1 => ?_
  refine W.region ?_
  refine L.pu hC rfl rfl (fun _ => All.nil) rfl rfl ?_; clear hC a; intro a hC
  refine L.nil ?_
  refine hk1 _ _ ?_; clear hk1; try clear k1
  refine W.seqk fun k2 hk2 => ?_
  refine W.region ?_
  refine L.buildS (ps := [(0, 1), (1, 1)]) hC rfl rfl rfl (fun _ => All.nil) Try.zeroValue54 Try.underlying54 ⟨⟨rfl, Try.sizeOf3⟩, ⟨rfl, Try.sizeOf3⟩, trivial⟩ rfl rfl rfl ?_; clear hC a; intro a hC
  refine L.bsP hC rfl rfl rfl Try.underlying22 Try.infoI54 rfl rfl rfl rfl rfl rfl rfl ?_; clear hC a; intro bl a w hF hC
  replace hC := hC.litown (E := timE) [(4, 2)] rfl (Nat.le_of_ble_eq_true rfl)
  refine L.callg [] hC rfl rfl Try.call7 rfl (build_ok 3 _ [(4, 2)] _ (own_rd (hC.at m0))) (fun b h => h.elim) rfl rfl ?_; clear hC a; intro rv a w hQ hC
  refine L.pu hC rfl rfl (fun _ => All.nil) rfl rfl ?_; clear hC a; intro a hC
  refine L.pu hC rfl rfl (fun _ => All.nil) rfl rfl ?_; clear hC a; intro a hC
  refine L.pu hC rfl rfl (fun _ => All.nil) rfl rfl ?_; clear hC a; intro a hC
  refine L.pu hC rfl rfl (fun _ => All.nil) rfl rfl ?_; clear hC a; intro a hC
  refine L.pu hC rfl rfl (fun _ => All.nil) rfl rfl ?_; clear hC a; intro a hC
  refine L.nil ?_
  refine hk2 _ _ ?_; clear hk2; try clear k2
  refine W.seqk fun k3 hk3 => ?_
  refine W.region ?_
  refine L.pu hC rfl rfl (fun _ => All.nil) rfl rfl ?_; clear hC a; intro a hC
  refine L.callg [] hC rfl rfl Try.call19 rfl (look12_ok rv _ 12345 _ (own_rd (hC.at m0)) hB.2.1) (fun b h => h.elim) rfl rfl ?_; clear hC a; intro k a w hQ hC
  have hk := hQ
  refine L.pu hC rfl rfl (fun _ => All.nil) rfl rfl ?_; clear hC a; intro a hC
  refine L.pu hC rfl rfl (fun _ => All.nil) rfl rfl ?_; clear hC a; intro a hC
  refine L.pu hC rfl rfl (fun _ => All.nil) rfl rfl ?_; clear hC a; intro a hC
  refine L.pu hC rfl rfl (fun _ => All.nil) rfl rfl ?_; clear hC a; intro a hC
  refine L.pu hC rfl rfl (fun _ => All.nil) rfl rfl ?_; clear hC a; intro a hC
  refine L.nil ?_
  refine hk3 _ _ ?_; clear hk3; try clear k3
  refine W.seqk fun k4 hk4 => ?_
  refine W.region ?_
  refine L.pu hC rfl rfl (fun _ => All.nil) rfl rfl ?_; clear hC a; intro a hC
  refine L.call hC rfl rfl Try.call9 rfl (fun _ => All.nil) (fun hg => num12_ok _ _) rfl rfl ?_; clear hC a; intro a w hF hC
  refine L.pu hC rfl rfl (fun _ => All.nil) rfl rfl ?_; clear hC a; intro a hC
  refine L.call hC rfl rfl Try.call9 rfl (fun _ => All.nil) (fun hg => num12_ok _ _) rfl rfl ?_; clear hC a; intro a w hF hC
  refine L.pu hC rfl rfl (fun _ => All.nil) rfl rfl ?_; clear hC a; intro a hC
  refine L.pu hC rfl rfl (fun _ => All.nil) rfl rfl ?_; clear hC a; intro a hC
  refine L.pu hC rfl rfl (fun _ => All.nil) rfl rfl ?_; clear hC a; intro a hC
  refine L.pu hC rfl rfl (fun _ => All.nil) rfl rfl ?_; clear hC a; intro a hC
  refine L.len hC rfl rfl rfl (fun hg => by first | (simp only [Gt, Bool.and_eq_true] at hg; simp only [All, List.cons_append, List.nil_append, List.append_nil, List.mem_cons, List.not_mem_nil, or_false, forall_eq_or_imp, forall_eq, Bool.and_eq_true, hg, Bool.not_false, Bool.not_true, and_self]; done) | (simp only [Gt] at hg; simp only [All, List.cons_append, List.nil_append, List.append_nil, List.mem_cons, List.not_mem_nil, or_false, forall_eq_or_imp, forall_eq, hg, and_self])) (own_form (hC.at m0)) Try.underlying24 rfl rfl ?_; clear hC a; intro a hC
  refine L.pu hC rfl rfl (fun hg => by first | (simp only [Gt, Bool.and_eq_true] at hg; simp only [All, List.cons_append, List.nil_append, List.append_nil, List.mem_cons, List.not_mem_nil, or_false, forall_eq_or_imp, forall_eq, Bool.and_eq_true, hg, Bool.not_false, Bool.not_true, and_self]; done) | (simp only [Gt] at hg; simp only [All, List.cons_append, List.nil_append, List.append_nil, List.mem_cons, List.not_mem_nil, or_false, forall_eq_or_imp, forall_eq, hg, and_self])) rfl rfl ?_; clear hC a; intro a hC
  refine L.and hC rfl rfl rfl rfl (fun _ => All.nil) (fun _ hp => by first | (simp only [All, List.cons_append, List.nil_append, List.append_nil, List.mem_cons, List.not_mem_nil, or_false, forall_eq_or_imp, forall_eq, Bool.and_eq_true, hp, Bool.not_false, Bool.not_true, and_self]; done) | simp [All, hp]) rfl rfl ?_; clear hC a; intro a hC
  refine L.pu hC rfl rfl (fun _ => All.nil) rfl rfl ?_; clear hC a; intro a hC
  refine L.pu hC rfl rfl (fun _ => All.nil) rfl rfl ?_; clear hC a; intro a hC
  refine L.pu hC rfl rfl (fun hg => by first | (simp only [Gt, Bool.and_eq_true] at hg; simp only [All, List.cons_append, List.nil_append, List.append_nil, List.mem_cons, List.not_mem_nil, or_false, forall_eq_or_imp, forall_eq, Bool.and_eq_true, hg, Bool.not_false, Bool.not_true, and_self]; done) | (simp only [Gt] at hg; simp only [All, List.cons_append, List.nil_append, List.append_nil, List.mem_cons, List.not_mem_nil, or_false, forall_eq_or_imp, forall_eq, hg, and_self])) rfl rfl ?_; clear hC a; intro a hC
  refine L.and hC rfl rfl rfl rfl (fun _ => All.nil) (fun _ hp => by first | (simp only [All, List.cons_append, List.nil_append, List.append_nil, List.mem_cons, List.not_mem_nil, or_false, forall_eq_or_imp, forall_eq, Bool.and_eq_true, hp, Bool.not_false, Bool.not_true, and_self]; done) | simp [All, hp]) rfl rfl ?_; clear hC a; intro a hC
  refine L.pu hC rfl rfl (fun _ => All.nil) rfl rfl ?_; clear hC a; intro a hC
  refine L.nil ?_
  refine hk4 _ _ ?_; clear hk4; try clear k4
  refine W.ret ?_
  refine rets hC rfl (.tmp rfl .nil) ?_
  refine ⟨?_, hC.frm⟩
  refine rb ?_
  rw [hB.1, hB.2.2.1, hB.2.2.2 k hk]
  rfl

end Go.Proofs.E
