/- A ring is built. -/
import Derived.Test.YtgekiiildobfkabbQ3
import Derived.Test.YtgekiiildobfkabE22
set_option linter.unusedVariables false
set_option linter.unusedSimpArgs false
namespace Go.Proofs.E
open Go.RowKit
theorem psort_ok (v : Value) (l : List (Int × Int)) (w : World) (hr : (ownR v 30 pntE l).ok w) (hl : l.length ≤ 1000000) : Calls Try.prog 22 #[v, .func (.func 23) #[] #[]] w fun e w' => ∃ x : Unit, e = .returned (.tuple #[]) ∧ True ∧ Post (fun b => v.ownBlock = some b) [ownR v 30 pntE (sortP l)] w w' := by
  by_cases hn : l = []
  · subst hn
    have hown : w.ownsRow 0 30 2 v 0 (pntE.flat []) := hr
    rcases hown.2 with ⟨hv, h0⟩ | ⟨g, cap, cur, hv, hbase, hgh, hcap, hcm, hcs, htake⟩
    · subst hv
      have h := AnyF.slices_SortFunc_none (P := Try.prog) Try.sortPoints none 0 (.func (.func 23) #[] #[]) w
      change Calls Try.prog 22 _ _ _ at h
      refine h.mono ?_
      rintro e w' ⟨rfl, rfl⟩
      exact ⟨(), rfl, trivial, Frm.refl _ _, ⟨by simpa [sortP] using hr, by simp⟩, by simp [ownR, Value.ownBlock]⟩
    · subst hv
      have h := AnyF.slices_SortFunc_none (P := Try.prog) Try.sortPoints (some ⟨g, 0, none⟩) cap (.func (.func 23) #[] #[]) w
      change Calls Try.prog 22 _ _ _ at h
      refine h.mono ?_
      rintro e w' ⟨rfl, rfl⟩
      refine ⟨(), rfl, trivial, Frm.refl _ _, ⟨by simpa [sortP] using hr, by simp⟩, fun r hr' b hb => ?_⟩
      simp only [List.mem_singleton] at hr'
      subst hr'
      exact .inl (hb.resolve_right (fun h => h))
  · exact psort_some v l w hr hl hn
def ptB (b : Int × Int) (j : Nat) : Int × Int := (hints 1 [b.1, (j : Int)], b.1)
def ptsN (b : Int × Int) (n : Nat) : List (Int × Int) := (List.range n).map (ptB b)
def allP (p : Int) (l : List (Int × Int)) : List (Int × Int) := l.flatMap fun b => ptsN b (IntKind.i64.wrap (p * b.2)).toNat
def buildR (p : Int) (l : List (Int × Int)) : List (Int × Int) × Int :=
  if (chkW l != 0) = true then ([], chkW l) else if (decide (p < 1) || decide (p > 64)) = true then ([], 4) else if decide (((allP p l).length : Int) > 1024) = true then ([], 5) else (sortP (allP p l), 0)
section
variable {p : Int} {l : List (Int × Int)} {i j N : Nat} {b : Int × Int}
theorem ptsN_zero : ptsN b 0 = [] := rfl
theorem ptsN_step : ptsN b (j + 1) = ptsN b j ++ [ptB b j] := by simp [ptsN, List.range_succ]
theorem ptsN_len : (ptsN b j).length = j := by simp [ptsN]
structure Fine (l : List (Int × Int)) : Prop where
  few : l.length ≤ 32
  id : ∀ x ∈ l, 0 ≤ x.1 ∧ x.1 ≤ 2147483647
  wt : ∀ x ∈ l, 1 ≤ x.2 ∧ x.2 ≤ 16
  rise : ∀ k, k < l.length → fallK l k = false
theorem chkw_facts (h : chkW l = 0) : Fine l := by
  unfold chkW at h
  split at h
  · cases h
  · rename_i h1
    split at h
    · cases h
    · rename_i h2
      split at h
      · cases h
      · rename_i h3
        have h1 := of_decide_eq_false (Bool.not_eq_true _ ▸ h1)
        rw [Bool.not_eq_true, List.any_eq_false] at h2 h3
        have hx : ∀ x ∈ l, (0 ≤ x.1 ∧ x.1 ≤ 2147483647) ∧ 1 ≤ x.2 ∧ x.2 ≤ 16 := fun x hx => by
          have := h2 x hx
          simp only [oddBk, Bool.not_eq_true, Bool.or_eq_false_iff, decide_eq_false_iff_not] at this
          omega
        exact ⟨by omega, fun x h => (hx x h).1, fun x h => (hx x h).2, fun k hk => by simpa using h3 k (by simpa using hk)⟩
theorem wide (hk : Fine l) (hp : 1 ≤ p ∧ p ≤ 64) (hb : b ∈ l) : ∃ N : Nat, IntKind.i64.wrap (p * b.2) = N ∧ 1 ≤ N ∧ N ≤ 1024 := by
  have h := hk.wt b hb
  have h1 : 1 * 1 ≤ p * b.2 := Int.mul_le_mul hp.1 h.1 (by decide) (by omega)
  have h2 : p * b.2 ≤ 64 * 16 := Int.mul_le_mul hp.2 h.2 (by omega) (by decide)
  exact ⟨(p * b.2).toNat, by rw [w64 (by omega)]; omega, by omega, by omega⟩
theorem wide_N (hk : Fine l) (hp : 1 ≤ p ∧ p ≤ 64) (hi : i < l.length) : ∃ N : Nat, IntKind.i64.wrap (p * l[i]!.2) = N ∧ N ≤ 1024 := by
  obtain ⟨N, h1, _, h2⟩ := wide hk hp (bang_mem hi)
  exact ⟨N, h1, h2⟩
theorem allP_step (hi : i < l.length) (hN : IntKind.i64.wrap (p * l[i]!.2) = (N : Int)) : allP p (l.take i) ++ ptsN l[i]! N = allP p (l.take (i + 1)) := by
  rw [List.take_add_one, List.getElem?_eq_getElem hi]
  unfold allP
  rw [List.flatMap_append, Option.toList_some, List.flatMap_cons, List.flatMap_nil, List.append_nil, ← bang hi, hN, Int.toNat_natCast]
theorem allP_le (hk : Fine l) (hp : 1 ≤ p ∧ p ≤ 64) : ∀ (m : List (Int × Int)), (∀ x ∈ m, x ∈ l) → (allP p m).length ≤ m.length * 1024
  | [], _ => by simp [allP]
  | b :: m, h => by
    have h1 := allP_le hk hp m (fun x hx => h x (List.mem_cons_of_mem _ hx))
    obtain ⟨N, h2, _, h3⟩ := wide hk hp (h b (List.mem_cons_self ..))
    unfold allP at h1 ⊢
    rw [List.flatMap_cons, List.length_append, h2, Int.toNat_natCast, ptsN_len, List.length_cons]
    omega
theorem allP_len (hk : Fine l) (hp : 1 ≤ p ∧ p ≤ 64) : (allP p (l.take i)).length ≤ 32768 := by
  have h := allP_le hk hp (l.take i) (fun x hx => List.mem_of_mem_take hx)
  have h2 := hk.few
  have h3 : (l.take i).length ≤ l.length := by simp; omega
  omega
theorem build_a (h1 : (chkW l != 0) = true) : buildR p l = ([], chkW l) := if_pos h1
theorem build_b (h1 : (chkW l != 0) = false) (h2 : (decide (p < 1) || decide (p > 64)) = true) : buildR p l = ([], 4) := by unfold buildR; rw [if_neg (nt h1), if_pos h2]
theorem build_c (h1 : (chkW l != 0) = false) (h2 : (decide (p < 1) || decide (p > 64)) = false) (h3 : decide (((allP p (l.take l.length)).length : Int) > 1024) = true) : buildR p l = ([], 5) := by
  rw [List.take_length] at h3
  unfold buildR; rw [if_neg (nt h1), if_neg (nt h2), if_pos h3]
theorem build_d (h1 : (chkW l != 0) = false) (h2 : (decide (p < 1) || decide (p > 64)) = false) (h3 : decide (((allP p (l.take l.length)).length : Int) > 1024) = false) : buildR p l = (sortP (allP p (l.take l.length)), 0) := by
  rw [List.take_length] at h3 ⊢
  unfold buildR; rw [if_neg (nt h1), if_neg (nt h2), if_neg (nt h3)]
end
theorem build_ok (p : Int) (v : Value) (l : List (Int × Int)) (w0 : World) (hr : (rdR v timE l).ok w0) : Calls Try.prog 7 #[.int .i64 p, v] w0 fun e w' => ∃ r : Value, e = .returned (.tuple #[r, .int .i64 (buildR p l).2]) ∧ True ∧ Post Nob [ownR r 30 pntE (buildR p l).1] w0 w' := by
  have hlen := rd_lt hr
  refine enter (μ := [rdR v timE l]) (S := Nob) (vs := [.int .i64 p, v]) Try.func7 rfl Try.ntmps7 rfl ⟨by simpa using hr, by simp⟩ (by simp [rdR]) (fun a hC => ?_)
  refine W.seqk fun k1 hk1 => ?_
  refine W.region ?_
  refine L.pu hC rfl rfl (fun _ => All.nil) rfl rfl ?_; clear hC a; intro a hC
  refine L.pu hC rfl rfl (fun _ => All.nil) rfl rfl ?_; clear hC a; intro a hC
  refine L.nil ?_
  refine hk1 _ _ ?_; clear hk1; try clear k1
  refine W.seqk fun k2 hk2 => ?_
  refine W.seqk fun k3 hk3 => ?_
  refine W.region ?_
  refine L.pu hC rfl rfl (fun _ => All.nil) rfl rfl ?_; clear hC a; intro a hC
  refine L.call hC rfl rfl Try.call20 rfl (fun _ => All.nil) (fun hg => chk12_ok v l _ (hC.at m0)) rfl rfl ?_; clear hC a; intro a w hF hC
  refine L.pu hC rfl rfl (fun _ => All.nil) rfl rfl ?_; clear hC a; intro a hC
  refine L.nil ?_
  refine hk3 _ _ ?_; clear hk3; try clear k3
  refine W.seqk fun k4 hk4 => ?_
  refine W.region ?_
  refine L.pu hC rfl rfl (fun _ => All.nil) rfl rfl ?_; clear hC a; intro a hC
  refine L.pu hC rfl rfl (fun _ => All.nil) rfl rfl ?_; clear hC a; intro a hC
  refine L.nil ?_
  refine hk4 _ _ ?_; clear hk4; try clear k4
  refine W.cond hC rfl (fun h1 => ?_) (fun h1 => ?_)
  ·
    refine W.seqk fun k5 hk5 => ?_
    refine W.region ?_
    refine L.pu hC rfl rfl (fun _ => All.nil) rfl rfl ?_; clear hC a; intro a hC
    refine L.pu hC rfl rfl (fun _ => All.nil) rfl rfl ?_; clear hC a; intro a hC
    refine L.pu hC rfl rfl (fun _ => All.nil) rfl rfl ?_; clear hC a; intro a hC
    refine L.nil ?_
    refine hk5 _ _ ?_; clear hk5; try clear k5
    refine W.ret ?_
    refine retl hC rfl (.tmp rfl (.tmp rfl .nil)) rfl ?_
    replace hC := (hC.drop).nilown (ty := 30) (E := pntE)
    exact ⟨_, (by rw [build_a h1]; try rfl), trivial, by rw [build_a h1]; exact hC.toPost (by simp [ownR])⟩
  ·
    refine W.skip ?_
    refine hk2 _ _ ?_; clear hk2; try clear k2
    refine W.seqk fun k6 hk6 => ?_
    refine W.seqk fun k7 hk7 => ?_
    refine W.region ?_
    refine L.pu hC rfl rfl (fun _ => All.nil) rfl rfl ?_; clear hC a; intro a hC
    refine L.pu hC rfl rfl (fun _ => All.nil) rfl rfl ?_; clear hC a; intro a hC
    refine L.pu hC rfl rfl (fun _ => All.nil) rfl rfl ?_; clear hC a; intro a hC
    refine L.pu hC rfl rfl (fun _ => All.nil) rfl rfl ?_; clear hC a; intro a hC
    refine L.pu hC rfl rfl (fun hg => by first | (simp only [Gt, Bool.and_eq_true] at hg; simp only [All, List.cons_append, List.nil_append, List.append_nil, List.mem_cons, List.not_mem_nil, or_false, forall_eq_or_imp, forall_eq, Bool.and_eq_true, hg, Bool.not_false, Bool.not_true, and_self]; done) | (simp only [Gt] at hg; simp only [All, List.cons_append, List.nil_append, List.append_nil, List.mem_cons, List.not_mem_nil, or_false, forall_eq_or_imp, forall_eq, hg, and_self])) rfl rfl ?_; clear hC a; intro a hC
    refine L.or hC rfl rfl rfl rfl (fun _ => All.nil) (fun _ hp => by first | (simp only [All, List.cons_append, List.nil_append, List.append_nil, List.mem_cons, List.not_mem_nil, or_false, forall_eq_or_imp, forall_eq, Bool.and_eq_true, hp, Bool.not_false, Bool.not_true, and_self]; done) | simp [All, hp]) rfl rfl ?_; clear hC a; intro a hC
    refine L.nil ?_
    refine hk7 _ _ ?_; clear hk7; try clear k7
    refine W.cond hC rfl (fun h2 => ?_) (fun h2 => ?_)
    ·
      refine W.seqk fun k8 hk8 => ?_
      refine W.region ?_
      refine L.pu hC rfl rfl (fun _ => All.nil) rfl rfl ?_; clear hC a; intro a hC
      refine L.pu hC rfl rfl (fun _ => All.nil) rfl rfl ?_; clear hC a; intro a hC
      refine L.nil ?_
      refine hk8 _ _ ?_; clear hk8; try clear k8
      refine W.ret ?_
      refine retl hC rfl (.tmp rfl (.tmp rfl .nil)) rfl ?_
      replace hC := (hC.drop).nilown (ty := 30) (E := pntE)
      exact ⟨_, (by rw [build_b h1 h2]; try rfl), trivial, by rw [build_b h1 h2]; exact hC.toPost (by simp [ownR])⟩
    ·
      have hk := chkw_facts (l := l) (by simpa using h1)
      have hp : 1 ≤ p ∧ p ≤ 64 := by simp only [Bool.or_eq_false_iff, decide_eq_false_iff_not] at h2; omega
      refine W.skip ?_
      refine hk6 _ _ ?_; clear hk6; try clear k6
      refine W.seqk fun k9 hk9 => ?_
      refine W.region ?_
      refine L.pu hC rfl rfl (fun _ => All.nil) rfl rfl ?_; clear hC a; intro a hC
      refine L.nil ?_
      refine hk9 _ _ ?_; clear hk9; try clear k9
      refine W.seqk fun k10 hk10 => ?_
      refine W.seqk fun k11 hk11 => ?_
      refine W.region ?_
      refine L.pu hC rfl rfl (fun _ => All.nil) rfl rfl ?_; clear hC a; intro a hC
      refine L.len hC rfl rfl rfl (fun _ => All.nil) (rd_form (hC.at m0)) Try.underlying22 rfl rfl ?_; clear hC a; intro a hC
      refine L.pu hC rfl rfl (fun _ => All.nil) rfl rfl ?_; clear hC a; intro a hC
      refine L.nil ?_
      refine hk11 _ _ ?_; clear hk11; try clear k11
      refine W.block ?_
      replace hC := hC.nilown (ty := 30) (E := pntE)
      replace hC := hC.fr1
      replace hC := hC.fr1
      refine W.loop (fun (gst : Nat × Value) a w' => match gst with | ⟨i, ov⟩ => (i ≤ l.length) ∧ Conf 54 Nob w0 [(24, (none, .int .i64 (i : Int))), (23, (none, .int .i64 (l.length : Int))), (22, (none, v)), (7, (none, ov)), (0, (none, .int .i64 p))] [ownR ov 30 pntE (allP p (l.take i)), rdR v timE l] a w') (fun (gst : Nat × Value) => match gst with | ⟨i, ov⟩ => l.length - i) (0, .slice none 0 0) ?_ ?_
      · exact ⟨Nat.zero_le _, hC.keep ⟨rfl, rfl, rfl, rfl, rfl, trivial⟩⟩
      · rintro ⟨i, ov⟩ a w ⟨hi, hC⟩
        refine W.seqk fun k12 hk12 => ?_
        refine W.region ?_
        refine L.pu hC rfl rfl (fun _ => All.nil) rfl rfl ?_; clear hC a; intro a hC
        refine L.nil ?_
        refine hk12 _ _ ?_; clear hk12; try clear k12
        refine W.seqk fun k13 hk13 => ?_
        refine W.cond hC rfl (fun h3 => ?_) (fun h3 => ?_)
        ·
          have h3 := of_decide_eq_true h3
          refine W.skip ?_
          refine hk13 _ _ ?_; clear hk13; try clear k13
          refine W.seqk fun k14 hk14 => ?_
          refine W.block ?_
          refine W.seqk fun k15 hk15 => ?_
          refine W.region ?_
          refine L.ixr hC rfl rfl rfl rfl m1 (fun _ => All.nil) (fun _ => All.nil) Try.underlying22 Try.sizeOf54 (fun _ => by omega) rfl rfl ?_; clear hC a; intro a hC
          refine L.ldxa hC rfl rfl rfl rfl (fun _ => All.nil) (fun hg => rd_bang hC m1 (by omega) _) Try.isAgg54 Try.sizeOf54 rfl rfl rfl rfl ?_; clear hC a; intro a hC
          refine L.alloc hC rfl rfl Try.zeroValue54 rfl rfl rfl ?_; clear hC a; intro tb a w hF hC
          refine L.st hC rfl rfl rfl rfl Try.sizeOf54 rfl rfl rfl rfl rfl ?_; clear hC a; intro a w hF hC
          refine L.nil ?_
          refine hk15 _ _ ?_; clear hk15; try clear k15
          refine W.seqk fun k16 hk16 => ?_
          refine W.region ?_
          refine L.pu hC rfl rfl (fun _ => All.nil) rfl rfl ?_; clear hC a; intro a hC
          refine L.fa hC rfl rfl rfl (fun _ => All.nil) Try.underlying54 rfl Try.sizeOf3 rfl rfl rfl ?_; clear hC a; intro a hC
          refine L.ld hC rfl rfl rfl (fun _ => All.nil) m0 Try.isAgg3 rfl rfl rfl ?_; clear hC a; intro a hC
          refine L.pu hC rfl rfl (fun _ => All.nil) rfl rfl ?_; clear hC a; intro a hC
          obtain ⟨N, hN, hN2⟩ := wide_N (p := p) hk hp (show i < l.length by omega)
          replace hC := hC.slot (d := 31) (geti (b := (N : Int)) rfl hN)
          refine L.pu hC rfl rfl (fun _ => All.nil) rfl rfl ?_; clear hC a; intro a hC
          replace hC := hC.fr1
          replace hC := hC.hd (r' := ownR ov 30 pntE (allP p (l.take i) ++ ptsN l[i]! 0)) (by rw [ptsN_zero, List.append_nil])
          refine L.nil ?_
          refine hk16 _ _ ?_; clear hk16; try clear k16
          refine W.block ?_
          replace hC := hC.fr2
          replace hC := hC.fr2
          replace hC := hC.fr2
          refine W.loop (fun (gst : Nat × Value) a w' => match gst with | ⟨j, ov⟩ => (j ≤ N) ∧ Conf 54 Nob w0 [(32, (none, .int .i64 (j : Int))), (31, (none, .int .i64 (N : Int))), (9, (none, .pointer (some ⟨tb, 0, none⟩))), (24, (none, .int .i64 (i : Int))), (23, (none, .int .i64 (l.length : Int))), (22, (none, v)), (7, (none, ov)), (0, (none, .int .i64 p))] [ownR ov 30 pntE (allP p (l.take i) ++ ptsN l[i]! j), blkR tb (timE.enc l[i]!) 54, rdR v timE l] a w') (fun (gst : Nat × Value) => match gst with | ⟨j, ov⟩ => N - j) (0, ov) ?_ ?_
          · exact ⟨Nat.zero_le _, hC.keep ⟨rfl, rfl, rfl, rfl, rfl, rfl, rfl, rfl, trivial⟩⟩
          · rintro ⟨j, ov⟩ a w ⟨hj, hC⟩
            have hAl := allP_len hk hp (l := l) (i := i)
            refine W.seqk fun k17 hk17 => ?_
            refine W.region ?_
            refine L.pu hC rfl rfl (fun _ => All.nil) rfl rfl ?_; clear hC a; intro a hC
            refine L.nil ?_
            refine hk17 _ _ ?_; clear hk17; try clear k17
            refine W.seqk fun k18 hk18 => ?_
            refine W.cond hC rfl (fun h4 => ?_) (fun h4 => ?_)
            ·
              have h4 := of_decide_eq_true h4
              refine W.skip ?_
              refine hk18 _ _ ?_; clear hk18; try clear k18
              refine W.seqk fun k19 hk19 => ?_
              refine W.block ?_
              refine W.seqk fun k20 hk20 => ?_
              refine W.region ?_
              refine L.pu hC rfl rfl (fun _ => All.nil) rfl rfl ?_; clear hC a; intro a hC
              refine L.pu hC rfl rfl (fun _ => All.nil) rfl rfl ?_; clear hC a; intro a hC
              refine L.nil ?_
              refine hk20 _ _ ?_; clear hk20; try clear k20
              replace hC := hC.fr2
              replace hC := hC.fr2
              replace hC := hC.fr2
              refine W.drawL (fun c' γ => match c' with | 0 => [ownR ov 30 pntE (allP p (l.take i) ++ ptsN l[i]! j), blkR tb (timE.enc l[i]!) 54, rdR v timE l] | _ => [ownR γ 30 pntE ((allP p (l.take i) ++ ptsN l[i]! j) ++ [ptB l[i]! j]), blkR tb (timE.enc l[i]!) 54, rdR v timE l]) undef hC Try.mixed rfl rfl rfl rfl rfl ?_
              apply ERN.q (.det _ _) 0 rfl rfl
              · intro c' γ hle
                obtain rfl := (by omega : c' = 0)
                · intro a w hC
                  refine L.pu hC rfl rfl (fun _ => All.nil) rfl rfl ?_; clear hC a; intro a hC
                  exact L.nil ⟨⟨_, [], hC⟩, Frm.refl _ _⟩
              apply ERN.q (.det _ _) 1 rfl rfl
              · intro c' γ hle
                obtain rfl | rfl := (by omega : c' = 0 ∨ c' = 1)
                · intro a w hC
                  refine L.fa hC rfl rfl rfl (fun _ => All.nil) Try.underlying54 rfl Try.sizeOf3 rfl rfl rfl ?_; clear hC a; intro a hC
                  exact L.nil ⟨⟨_, [], hC⟩, Frm.refl _ _⟩
                · intro a w hC
                  refine L.fa hC rfl rfl rfl (fun _ => All.nil) Try.underlying54 rfl Try.sizeOf3 rfl rfl rfl ?_; clear hC a; intro a hC
                  exact L.nil ⟨⟨_, [], hC⟩, Frm.refl _ _⟩
              apply ERN.q (.det _ _) 1 rfl rfl
              · intro c' γ hle
                obtain rfl | rfl := (by omega : c' = 0 ∨ c' = 1)
                · intro a w hC
                  refine L.ld hC rfl rfl rfl (fun _ => All.nil) m1 Try.isAgg3 rfl rfl rfl ?_; clear hC a; intro a hC
                  exact L.nil ⟨⟨_, [], hC⟩, Frm.refl _ _⟩
                · intro a w hC
                  refine L.ld hC rfl rfl rfl (fun _ => All.nil) m1 Try.isAgg3 rfl rfl rfl ?_; clear hC a; intro a hC
                  exact L.nil ⟨⟨_, [], hC⟩, Frm.refl _ _⟩
              apply ERN.q (.det _ _) 1 rfl rfl
              · intro c' γ hle
                obtain rfl | rfl := (by omega : c' = 0 ∨ c' = 1)
                · intro a w hC
                  refine L.pu hC rfl rfl (fun _ => All.nil) rfl rfl ?_; clear hC a; intro a hC
                  exact L.nil ⟨⟨_, [], hC⟩, Frm.refl _ _⟩
                · intro a w hC
                  refine L.pu hC rfl rfl (fun _ => All.nil) rfl rfl ?_; clear hC a; intro a hC
                  exact L.nil ⟨⟨_, [], hC⟩, Frm.refl _ _⟩
              apply ERN.q (.lit _ _ fun v => rdR v intE _) 1 rfl rfl
              · intro c' γ hle
                obtain rfl | rfl := (by omega : c' = 0 ∨ c' = 1)
                · intro a w hC
                  refine L.bsP hC rfl rfl rfl Try.underlying81 Try.infoI3 rfl rfl rfl rfl rfl rfl rfl ?_; clear hC a; intro b2 a w hF hC
                  replace hC := hC.litrd (E := intE) [l[i]!.1, (j : Int)] rfl (Nat.le_of_ble_eq_true rfl)
                  exact L.nil ⟨⟨_, _, [], fun _ h => h.2, hC⟩, hF⟩
                · intro a w hC
                  refine L.bsP hC rfl rfl rfl Try.underlying81 Try.infoI3 rfl rfl rfl rfl rfl rfl rfl ?_; clear hC a; intro b3 a w hF hC
                  replace hC := hC.litrd (E := intE) [l[i]!.1, (j : Int)] rfl (Nat.le_of_ble_eq_true rfl)
                  exact L.nil ⟨⟨_, _, [], fun _ h => h.2, hC⟩, hF⟩
              apply ERN.q (.det _ _) 0 rfl rfl
              · intro c' γ hle
                obtain rfl := (by omega : c' = 0)
                · intro v4 a w hC
                  refine L.call hC rfl rfl Try.call21 rfl (fun _ => All.nil) (fun hg => hints_ok _ _ _ _ (hC.at m0 trivial)) rfl rfl ?_; clear hC a; intro a w hF hC
                  exact L.nil ⟨⟨_, [_], hC⟩, hF⟩
              apply ERN.q (.det _ _) 1 rfl rfl
              · intro c' γ hle
                obtain rfl | rfl := (by omega : c' = 0 ∨ c' = 1)
                · intro a w hC
                  refine L.fa hC rfl rfl rfl (fun _ => All.nil) Try.underlying54 rfl Try.sizeOf3 rfl rfl rfl ?_; clear hC a; intro a hC
                  exact L.nil ⟨⟨_, [], hC⟩, Frm.refl _ _⟩
                · intro a w hC
                  refine L.fa hC rfl rfl rfl (fun _ => All.nil) Try.underlying54 rfl Try.sizeOf3 rfl rfl rfl ?_; clear hC a; intro a hC
                  exact L.nil ⟨⟨_, [], hC⟩, Frm.refl _ _⟩
              apply ERN.q (.det _ _) 1 rfl rfl
              · intro c' γ hle
                obtain rfl | rfl := (by omega : c' = 0 ∨ c' = 1)
                · intro a w hC
                  refine L.ld hC rfl rfl rfl (fun _ => All.nil) m1 Try.isAgg3 rfl rfl rfl ?_; clear hC a; intro a hC
                  exact L.nil ⟨⟨_, [], hC⟩, Frm.refl _ _⟩
                · intro a w hC
                  refine L.ld hC rfl rfl rfl (fun _ => All.nil) m1 Try.isAgg3 rfl rfl rfl ?_; clear hC a; intro a hC
                  exact L.nil ⟨⟨_, [], hC⟩, Frm.refl _ _⟩
              apply ERN.q (.det _ _) 1 rfl rfl
              · intro c' γ hle
                obtain rfl | rfl := (by omega : c' = 0 ∨ c' = 1)
                · intro a w hC
                  refine L.buildS (ps := [(0, 1), (1, 1)]) hC rfl rfl rfl (fun _ => All.nil) Try.zeroValue30 Try.underlying30 ⟨⟨rfl, Try.sizeOf28⟩, ⟨rfl, Try.sizeOf3⟩, trivial⟩ rfl rfl rfl ?_; clear hC a; intro a hC
                  exact L.nil ⟨⟨_, [], hC⟩, Frm.refl _ _⟩
                · intro a w hC
                  refine L.buildS (ps := [(0, 1), (1, 1)]) hC rfl rfl rfl (fun _ => All.nil) Try.zeroValue30 Try.underlying30 ⟨⟨rfl, Try.sizeOf28⟩, ⟨rfl, Try.sizeOf3⟩, trivial⟩ rfl rfl rfl ?_; clear hC a; intro a hC
                  exact L.nil ⟨⟨_, [], hC⟩, Frm.refl _ _⟩
              apply ERN.q (.lit _ _ fun v => rdR v pntE _) 0 rfl rfl
              · intro c' γ hle
                obtain rfl := (by omega : c' = 0)
                · intro a w hC
                  refine L.bsP hC rfl rfl rfl Try.underlying24 Try.infoI30 rfl rfl rfl rfl rfl rfl rfl ?_; clear hC a; intro b4 a w hF hC
                  replace hC := hC.litrd (E := pntE) [ptB l[i]! j] rfl (Nat.le_of_ble_eq_true rfl)
                  exact L.nil ⟨⟨_, _, [], fun _ h => h.2, hC⟩, hF⟩
              apply ERN.f true (fun h => rfl) rfl rfl
              · intro γ v9 a w hC
                replace hC := hC.fr1
                refine L.appr hC rfl rfl rfl rfl (hC.at m1 trivial) Try.underlying24 Try.infoI30 rfl (by simp [ptsN_len]; omega) (by simp [ptsN_len]; omega) rfl rfl ?_; clear hC a; intro v5 a w hF hC
                exact L.nil ⟨v5, _, (fun h => by cases h), (hC.env.vals 45 (none, v5) rfl), hC.dr1, hF.dr1 (fun _ h => h.2)⟩
              refine ERN.nil ?_
              intro γ w' v4 v9 a w hC hw
              subst hw
              refine L.pu hC rfl rfl (fun _ => All.nil) rfl rfl ?_; clear hC a; intro a hC
              refine L.nil ?_
              refine hk19 _ _ ?_; clear hk19; try clear k19
              refine W.region ?_
              refine L.pu hC rfl rfl (fun _ => All.nil) rfl rfl ?_; clear hC a; intro a hC
              refine L.pu hC rfl rfl (fun _ => All.nil) rfl rfl ?_; clear hC a; intro a hC
              refine L.nil ?_
              replace hC := hC.subl (.cons _ (.cons _ (.cons_cons _ (.cons_cons _ (.cons_cons _ .slnil)))))
              replace hC := hC.fr2
              replace hC := hC.fr2
              replace hC := hC.fr2
              replace hC := hC.hd (r' := ownR γ 30 pntE (allP p (l.take i) ++ ptsN l[i]! (j + 1))) (by rw [ptsN_step, List.append_assoc])
              exact ⟨(j + 1, γ), ⟨by omega, hC.keep ⟨geti rfl (w64 (by omega)), rfl, rfl, rfl, rfl, rfl, rfl, rfl, trivial⟩⟩, by first | omega | (dsimp only; omega)⟩
            ·
              have h4 := of_decide_eq_false h4
              obtain rfl : j = N := by omega
              refine W.exit ?_
              refine Kb.here ?_
              refine hk14 _ _ ?_; clear hk14; try clear k14
              refine W.region ?_
              refine L.pu hC rfl rfl (fun _ => All.nil) rfl rfl ?_; clear hC a; intro a hC
              refine L.pu hC rfl rfl (fun _ => All.nil) rfl rfl ?_; clear hC a; intro a hC
              refine L.nil ?_
              replace hC := hC.subl (.cons_cons _ (.cons _ (.cons_cons _ .slnil)))
              replace hC := hC.fr1
              replace hC := hC.fr1
              replace hC := hC.hd (r' := ownR ov 30 pntE (allP p (l.take (i + 1)))) (by rw [allP_step (by omega) hN])
              exact ⟨(i + 1, ov), ⟨by omega, hC.keep ⟨geti rfl (w64 (by omega)), rfl, rfl, rfl, rfl, trivial⟩⟩, by first | omega | (dsimp only; omega)⟩
        ·
          have h3 := of_decide_eq_false h3
          obtain rfl : i = l.length := by omega
          refine W.exit ?_
          refine Kb.here ?_
          refine hk10 _ _ ?_; clear hk10; try clear k10
          refine W.seqk fun k21 hk21 => ?_
          refine W.seqk fun k22 hk22 => ?_
          refine W.region ?_
          refine L.pu hC rfl rfl (fun _ => All.nil) rfl rfl ?_; clear hC a; intro a hC
          refine L.len hC rfl rfl rfl (fun _ => All.nil) (own_form (hC.at m0)) Try.underlying24 rfl rfl ?_; clear hC a; intro a hC
          refine L.pu hC rfl rfl (fun _ => All.nil) rfl rfl ?_; clear hC a; intro a hC
          refine L.nil ?_
          refine hk22 _ _ ?_; clear hk22; try clear k22
          refine W.cond hC rfl (fun h5 => ?_) (fun h5 => ?_)
          ·
            refine W.seqk fun k23 hk23 => ?_
            refine W.region ?_
            refine L.pu hC rfl rfl (fun _ => All.nil) rfl rfl ?_; clear hC a; intro a hC
            refine L.pu hC rfl rfl (fun _ => All.nil) rfl rfl ?_; clear hC a; intro a hC
            refine L.nil ?_
            refine hk23 _ _ ?_; clear hk23; try clear k23
            refine W.ret ?_
            refine retl hC rfl (.tmp rfl (.tmp rfl .nil)) rfl ?_
            replace hC := (hC.drop).nilown (ty := 30) (E := pntE)
            exact ⟨_, (by rw [build_c h1 h2 h5]; try rfl), trivial, by rw [build_c h1 h2 h5]; exact hC.toPost (by simp [ownR])⟩
          ·
            have h5b := of_decide_eq_false h5
            refine W.skip ?_
            refine hk21 _ _ ?_; clear hk21; try clear k21
            refine W.seqk fun k24 hk24 => ?_
            refine W.region ?_
            refine L.pu hC rfl rfl (fun _ => All.nil) rfl rfl ?_; clear hC a; intro a hC
            refine L.callg [_] hC rfl rfl Try.call22 rfl (psort_ok _ _ _ (hC.at m0) (by omega)) (fun b h => ⟨_, m0, h⟩) rfl rfl ?_; clear hC a; intro _ a w hQ hC
            refine L.nil ?_
            refine hk24 _ _ ?_; clear hk24; try clear k24
            refine W.seqk fun k25 hk25 => ?_
            refine W.region ?_
            refine L.pu hC rfl rfl (fun _ => All.nil) rfl rfl ?_; clear hC a; intro a hC
            refine L.pu hC rfl rfl (fun _ => All.nil) rfl rfl ?_; clear hC a; intro a hC
            refine L.pu hC rfl rfl (fun _ => All.nil) rfl rfl ?_; clear hC a; intro a hC
            refine L.nil ?_
            refine hk25 _ _ ?_; clear hk25; try clear k25
            refine W.ret ?_
            refine retl hC rfl (.tmp rfl (.tmp rfl .nil)) rfl ?_
            replace hC := hC.subl (.cons_cons _ (.cons _ .slnil))
            exact ⟨_, (by rw [build_d h1 h2 h5]; try rfl), trivial, by rw [build_d h1 h2 h5]; exact hC.toPost (by simp [ownR])⟩

end Go.Proofs.E
