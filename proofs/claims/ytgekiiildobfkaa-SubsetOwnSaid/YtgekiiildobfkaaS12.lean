/- SubsetOwn, walked. -/
import Derived.Test.YtgekiiildobfkaaS11
import Derived.Test.YtgekiiildobfkaaS9
set_option linter.unusedVariables false
set_option linter.unusedSimpArgs false
namespace Go.Proofs.E
open Go.RowKit
section
variable {P : List Int} {c x : Int} {t : Nat}
theorem ins_len (h : t ≤ P.length) : (P.take t ++ c :: P.drop t).length = P.length + 1 := by simp; omega
theorem ins_start {j : Nat} (h : P.length = j) : P ++ [x] = P.take j ++ x :: P.drop j := by
  rw [List.take_of_length_le (by omega), List.drop_of_length_le (by omega)]
theorem ins_g (h : Gt (some (decide ((t : Int) > 0)))) : 0 < t := by
  simp [Gt] at h; omega
theorem ins_at (h : t ≤ P.length) (h0 : 0 < t) : (P.take t ++ c :: P.drop t)[t - 1]! = P[t - 1]! := by
  rw [bang (by simp; omega), bang (by omega), List.getElem_append_left (by simp; omega), List.getElem_take]
theorem ins_idx (h0 : 0 < t) (hb : t ≤ 9223372036854775807) : (IntKind.i64.wrap ((t : Int) - 1)).toNat = t - 1 := by
  rw [w64 (by omega)]; omega
theorem ins_yes (h : t ≤ P.length) (hb : P.length ≤ 1000000) (hh : (decide ((t : Int) > 0) && decide ((P.take t ++ c :: P.drop t)[(IntKind.i64.wrap ((t : Int) - 1)).toNat]! > x)) = true) : 0 < t ∧ x < P[t - 1]! := by
  rw [Bool.and_eq_true, decide_eq_true_eq, decide_eq_true_eq] at hh
  have h0 : 0 < t := by omega
  have h2 := hh.2
  rw [ins_idx h0 (by omega), ins_at h h0] at h2
  exact ⟨h0, h2⟩
theorem ins_no (h : t ≤ P.length) (hb : P.length ≤ 1000000) (hh : (decide ((t : Int) > 0) && decide ((P.take t ++ c :: P.drop t)[(IntKind.i64.wrap ((t : Int) - 1)).toNat]! > x)) = false) : t = 0 ∨ P[t - 1]! ≤ x := by
  rcases Nat.eq_zero_or_pos t with h0 | h0
  · exact .inl h0
  · rw [ins_idx h0 (by omega), ins_at h h0, decide_eq_true (show (t : Int) > 0 by omega), Bool.true_and, decide_eq_false_iff_not] at hh
    exact .inr (by omega)
theorem ins_put (h : t ≤ P.length) : (P.take t ++ c :: P.drop t).set t x = P.take t ++ x :: P.drop t := by
  have e : t = (P.take t).length + 0 := by simp; omega
  rw [List.set_append_right _ _ (by simp; omega)]
  have : t - (P.take t).length = 0 := by simp; omega
  rw [this]; rfl
theorem ins_move (h : t ≤ P.length) (hb : P.length ≤ 1000000) (h0 : 0 < t) : (P.take t ++ c :: P.drop t).set t (P.take t ++ c :: P.drop t)[(IntKind.i64.wrap ((t : Int) - 1)).toNat]! = P.take (t - 1) ++ P[t - 1]! :: P.drop (t - 1) := by
  rw [ins_idx h0 (by omega), ins_at h h0, ins_put h]
  have e1 : P.take t = P.take (t - 1) ++ [P[t - 1]!] := by
    have := take_snoc' (l := P) (j := t - 1) (by omega)
    rwa [show t - 1 + 1 = t by omega] at this
  have e2 : P.drop (t - 1) = P[t - 1]! :: P.drop t := by
    rw [List.drop_eq_getElem_cons (show t - 1 < P.length by omega), bang (show t - 1 < P.length by omega), show t - 1 + 1 = t by omega]
  rw [e1, e2, List.append_assoc]; rfl
theorem ins_gt (hx : ∀ y ∈ P.drop t, x < y) (h : t ≤ P.length) (h0 : 0 < t) (h2 : x < P[t - 1]!) : ∀ y ∈ P.drop (t - 1), x < y := by
  have e2 : P.drop (t - 1) = P[t - 1]! :: P.drop t := by
    rw [List.drop_eq_getElem_cons (show t - 1 < P.length by omega), bang (show t - 1 < P.length by omega), show t - 1 + 1 = t by omega]
  rw [e2]
  intro y hy
  rcases List.mem_cons.1 hy with rfl | hy
  · exact h2
  · exact hx y hy
theorem ins_sorted (hS : P.Pairwise fun x y => x ≤ y) (h : t ≤ P.length) (h2 : t = 0 ∨ P[t - 1]! ≤ x) (hx : ∀ y ∈ P.drop t, x < y) : (P.take t ++ x :: P.drop t).Pairwise fun x y => x ≤ y := by
  have hS' := hS
  rw [← List.take_append_drop t P, List.pairwise_append] at hS'
  have hle : ∀ y ∈ P.take t, y ≤ x := by
    intro y hy
    rcases h2 with h2 | h2
    · subst h2; simp at hy
    · rcases Nat.eq_zero_or_pos t with h0 | h0
      · subst h0; simp at hy
      obtain ⟨i, hi, rfl⟩ := List.mem_iff_getElem.1 hy
      have hi' : i < t := by simp at hi; omega
      rw [List.getElem_take]
      rw [bang (show t - 1 < P.length by omega)] at h2
      rcases Nat.lt_or_ge i (t - 1) with h' | h'
      · have := List.pairwise_iff_getElem.1 hS i (t - 1) (by omega) (by omega) h'
        omega
      · have : i = t - 1 := by omega
        subst this; exact h2
  refine List.pairwise_append.2 ⟨hS'.1, List.pairwise_cons.2 ⟨fun y hy => Int.le_of_lt (hx y hy), hS'.2.1⟩, fun a ha b hb => ?_⟩
  rcases List.mem_cons.1 hb with rfl | hb
  · exact hle a ha
  · exact hS'.2.2 a ha b hb
theorem ins_perm {l : List Int} {j : Nat} (hM : P.Perm (l.take j)) (hj : j < l.length) : (P.take t ++ l[j]! :: P.drop t).Perm (l.take (j + 1)) := by
  rw [take_snoc' hj]
  refine List.perm_middle.trans ?_
  rw [List.take_append_drop]
  exact (List.Perm.cons _ hM).trans (List.perm_append_comm (l₁ := [l[j]!]))
theorem ins_end {l : List Int} (hS : P.Pairwise fun x y => x ≤ y) (hM : P.Perm l) : P = sortI l :=
  List.Perm.eq_of_pairwise (fun a b _ _ h1 h2 => Int.le_antisymm h1 h2) hS (sortI_sorted l) (hM.trans (sortI_perm l).symm)
end
def lastI (l : List Int) (j : Nat) : Int := if j = 0 then -1 else l[j - 1]!
theorem lastI_succ (l : List Int) (j : Nat) : lastI l (j + 1) = l[j]! := by simp [lastI]
theorem ris_form {l : List Int} {j : Nat} (hj : j < l.length) (hb : -1 ≤ lastI l j) (hl : j ≤ 9223372036854775807) :
    (decide (l[j]! < 0) || (decide ((j : Int) > 0) && decide (l[j]! ≤ l[(IntKind.i64.wrap ((j : Int) - 1)).toNat]!))) = decide (l[j]! ≤ lastI l j) := by
  unfold lastI at hb ⊢
  rcases Nat.eq_zero_or_pos j with h0 | h0
  · subst h0
    simp only [if_true, Int.natCast_zero, gt_iff_lt, Int.lt_irrefl, decide_false, Bool.false_and, Bool.or_false]
    exact decide_eq_decide.2 (by omega)
  · rw [if_neg (by omega)] at hb ⊢
    rw [show (IntKind.i64.wrap ((j : Int) - 1)).toNat = j - 1 by rw [w64 (by omega)]; omega, decide_eq_true (show (j : Int) > 0 by omega), Bool.true_and]
    by_cases h : l[j]! ≤ l[j - 1]!
    · rw [decide_eq_true h, Bool.or_true]
    · rw [decide_eq_false h, Bool.or_false]
      exact decide_eq_false (by omega)
theorem ris_step {l : List Int} {j : Nat} (hj : j < l.length) (h : decide (l[j]! ≤ lastI l j) = false) : rises (lastI l j) (l.drop j) = rises (lastI l (j + 1)) (l.drop (j + 1)) := by
  rw [lastI_succ]; exact rises_step hj h
theorem ris_here {l : List Int} {j : Nat} (hj : j < l.length) (h : decide (l[j]! ≤ lastI l j) = true) : rises (lastI l j) (l.drop j) = false := rises_here hj h
theorem ris_ge {l : List Int} {j : Nat} (hb : -1 ≤ lastI l j) (h : decide (l[j]! ≤ lastI l j) = false) : -1 ≤ lastI l (j + 1) := by
  rw [decide_eq_false_iff_not] at h
  rw [lastI_succ]; omega
section
variable {ids : List Int} {client size seed : Int}
theorem chk_good (h1 : decide ((ids.length : Int) > 32) = false) (h2 : (!rises (-1) ids) = false) : (chkD ids != 0) = false := by
  unfold chkD; rw [if_neg (nt h1), if_neg (nt h2)]; rfl
theorem ofr_a (h1 : decide ((ids.length : Int) > 32) = true) : ofR ids client size seed = ([], 3) := by
  unfold ofR chkD; rw [if_pos h1]; rfl
theorem ofr_b (h1 : decide ((ids.length : Int) > 32) = false) (h2 : (!rises (-1) ids) = true) : ofR ids client size seed = ([], 9) := by
  unfold ofR chkD; rw [if_neg (nt h1), if_pos h2]; rfl
theorem ofr_c (h1 : decide ((ids.length : Int) > 32) = false) (h2 : (!rises (-1) ids) = false) (h3 : ((roundR (ids.length : Int) client size).2.2 != 0) = true) : ofR ids client size seed = ([], (roundR (ids.length : Int) client size).2.2) := by
  unfold ofR; rw [if_neg (nt (chk_good h1 h2)), if_pos h3]
theorem ofr_d (h1 : decide ((ids.length : Int) > 32) = false) (h2 : (!rises (-1) ids) = false) (h3 : ((roundR (ids.length : Int) client size).2.2 != 0) = false) (h4 : decide ((ids.length : Int) ≤ size) = true) : ofR ids client size seed = (ids, 0) := by
  unfold ofR handR; rw [if_neg (nt (chk_good h1 h2)), if_neg (nt h3), if_pos h4]
theorem ofr_e {O outs : List Int} {p j : Nat} (h1 : decide ((ids.length : Int) > 32) = false) (h2 : (!rises (-1) ids) = false) (h3 : ((roundR (ids.length : Int) client size).2.2 != 0) = false) (h4 : decide ((ids.length : Int) ≤ size) = false)
    (hp : (roundR (ids.length : Int) client size).2.1 * size = (p : Int)) (hO : (shufR (hints seed [(roundR (ids.length : Int) client size).1]) (ids.length : Int)).2.1 = O) (hj : size = (j : Int)) (ho : outs = ((O.drop p).take j).map fun i => ids[i.toNat]!) : ofR ids client size seed = (sortI outs, 0) := by
  unfold ofR handR
  rw [if_neg (nt (chk_good h1 h2)), if_neg (nt h3), if_neg (nt h4), hO]
  have e : ((roundR (ids.length : Int) client size).2.1 + 1) * size = (p : Int) + j := by rw [Int.add_mul, Int.one_mul, hp, hj]
  rw [e, hp, ho]
  have e2 : ((p : Int) + (j : Int)).toNat - (p : Int).toNat = j := by omega
  rw [e2, Int.toNat_natCast]
theorem ofx_step {O : List Int} {p j : Nat} (h : p + j < O.length) : ((O.drop p).take (j + 1)).map (fun i => ids[i.toNat]!) = ((O.drop p).take j).map (fun i => ids[i.toNat]!) ++ [ids[(O[p + j]!).toNat]!] := by
  have hl : j < (O.drop p).length := by rw [List.length_drop]; omega
  rw [take_snoc' hl, List.map_append]
  have : (O.drop p)[j]! = O[p + j]! := by
    rw [bang hl, bang h, List.getElem_drop]
  rw [this]; rfl
end
theorem sorted13_ok (v : Value) (l : List Int) (w0 : World) (hr : (rdR v intE l).ok w0) (hl : l.length ≤ 1000000) : Calls Try.prog 97 #[v] w0 fun e w' => ∃ r : Value, e = .returned r ∧ True ∧ Post Nob [ownR r 3 intE (sortI l)] w0 w' := by
  refine enter (μ := [rdR v intE l]) (S := Nob) (vs := [v]) Try.func97 rfl Try.ntmps97 rfl ⟨by simpa using hr, by simp⟩ (by simp [rdR]) (fun a hC => ?_)
  refine W.seqk fun k1 hk1 => ?_
  refine W.region ?_
  refine L.pu hC rfl rfl (fun _ => All.nil) rfl rfl ?_; clear hC a; intro a hC
  refine L.nil ?_
  refine hk1 _ _ ?_; clear hk1; try clear k1
  refine W.seqk fun k2 hk2 => ?_
  refine W.region ?_
  refine L.pu hC rfl rfl (fun _ => All.nil) rfl rfl ?_; clear hC a; intro a hC
  refine L.nil ?_
  refine hk2 _ _ ?_; clear hk2; try clear k2
  refine W.seqk fun k3 hk3 => ?_
  refine W.seqk fun k4 hk4 => ?_
  refine W.region ?_
  refine L.pu hC rfl rfl (fun _ => All.nil) rfl rfl ?_; clear hC a; intro a hC
  refine L.nil ?_
  refine hk4 _ _ ?_; clear hk4; try clear k4
  refine W.block ?_
  replace hC := hC.nilown (ty := 3) (E := intE)
  replace hC := hC.fr1
  replace hC := hC.fr1
  refine W.loop (fun (gst : Nat × Value × List Int) a w' => match gst with | ⟨j, ov, P⟩ => (j ≤ l.length) ∧ (P.length = j) ∧ (P.Pairwise (fun x y => x ≤ y)) ∧ (P.Perm (l.take j)) ∧ Conf 53 Nob w0 [(4, (none, .int .i64 (j : Int))), (3, (none, ov)), (0, (none, v))] [ownR ov 3 intE P, rdR v intE l] a w') (fun (gst : Nat × Value × List Int) => match gst with | ⟨j, ov, P⟩ => l.length - j) (0, .slice none 0 0, []) ?_ ?_
  · exact ⟨Nat.zero_le _, rfl, List.Pairwise.nil, by simp, hC.keep ⟨rfl, rfl, rfl, trivial⟩⟩
  · rintro ⟨j, ov, P⟩ a w ⟨hj, hP, hS, hM, hC⟩
    refine W.seqk fun k5 hk5 => ?_
    refine W.seqk fun k6 hk6 => ?_
    refine W.region ?_
    refine L.pu hC rfl rfl (fun _ => All.nil) rfl rfl ?_; clear hC a; intro a hC
    refine L.pu hC rfl rfl (fun _ => All.nil) rfl rfl ?_; clear hC a; intro a hC
    refine L.len hC rfl rfl rfl (fun _ => All.nil) (rd_form (hC.at m1)) Try.underlying37 rfl rfl ?_; clear hC a; intro a hC
    refine L.pu hC rfl rfl (fun _ => All.nil) rfl rfl ?_; clear hC a; intro a hC
    refine L.nil ?_
    refine hk6 _ _ ?_; clear hk6; try clear k6
    refine W.cond hC rfl (fun h1 => ?_) (fun h1 => ?_)
    ·
      have h1 := of_decide_eq_true h1
      refine W.skip ?_
      refine hk5 _ _ ?_; clear hk5; try clear k5
      refine W.seqk fun k7 hk7 => ?_
      refine W.block ?_
      refine W.seqk fun k8 hk8 => ?_
      refine W.region ?_
      refine L.pu hC rfl rfl (fun _ => All.nil) rfl rfl ?_; clear hC a; intro a hC
      refine L.len hC rfl rfl rfl (fun _ => All.nil) (own_form (hC.at m0)) Try.underlying37 rfl rfl ?_; clear hC a; intro a hC
      refine L.pu hC rfl rfl (fun _ => All.nil) rfl rfl ?_; clear hC a; intro a hC
      refine L.nil ?_
      refine hk8 _ _ ?_; clear hk8; try clear k8
      refine W.seqk fun k9 hk9 => ?_
      refine W.region ?_
      refine L.pu hC rfl rfl (fun _ => All.nil) rfl rfl ?_; clear hC a; intro a hC
      refine L.pu hC rfl rfl (fun _ => All.nil) rfl rfl ?_; clear hC a; intro a hC
      refine L.pu hC rfl rfl (fun _ => All.nil) rfl rfl ?_; clear hC a; intro a hC
      refine L.ixr hC rfl rfl rfl rfl m1 (fun _ => All.nil) (fun _ => All.nil) Try.underlying37 Try.sizeOf3 (fun _ => by omega) rfl rfl ?_; clear hC a; intro a hC
      refine L.ldx hC rfl rfl rfl rfl (fun _ => All.nil) (fun hg => rd_bang hC m1 (by omega) _) Try.isAgg3 rfl rfl rfl ?_; clear hC a; intro a hC
      refine L.bsP hC rfl rfl rfl Try.underlying37 Try.infoI3 rfl rfl rfl rfl rfl rfl rfl ?_; clear hC a; intro b2 a w hF hC
      replace hC := hC.fr1
      refine L.app (xs := [l[j]!]) hC rfl rfl rfl rfl ⟨_, _, rfl, lit_cells (hC.at m1) rfl⟩ Try.underlying37 Try.infoI3 rfl (by rw [hP]; simp; omega) (by rw [hP]; simp; omega) rfl rfl ?_; clear hC a; intro v3 a w hF hC
      obtain ⟨nv, hnv⟩ : ∃ x, x = v3 := ⟨_, rfl⟩; subst hnv
      refine L.pu hC rfl rfl (fun _ => All.nil) rfl rfl ?_; clear hC a; intro a hC
      refine L.nil ?_
      refine hk9 _ _ ?_; clear hk9; try clear k9
      refine W.seqk fun k10 hk10 => ?_
      refine W.block ?_
      replace hC := hC.hd (r' := ownR nv 3 intE (P.take j ++ l[j]! :: P.drop j)) (congrArg (ownR nv 3 intE) (ins_start hP))
      replace hC := hC.subl (.cons_cons _ (.cons _ (.cons_cons _ .slnil)))
      replace hC := hC.fr1
      replace hC := hC.fr1
      refine W.loop (fun (gst : Nat × Int) a w' => match gst with | ⟨at', c⟩ => (at' ≤ j) ∧ (∀ y ∈ P.drop at', l[j]! < y) ∧ Conf 53 Nob w0 [(5, (none, .int .i64 (at' : Int))), (4, (none, .int .i64 (j : Int))), (3, (none, nv)), (0, (none, v))] [ownR nv 3 intE (P.take at' ++ c :: P.drop at'), rdR v intE l] a w') (fun (gst : Nat × Int) => match gst with | ⟨at', c⟩ => at') (j, l[j]!) ?_ ?_
      · exact ⟨Nat.le_refl _, by rw [List.drop_of_length_le (by omega)]; simp, hC.keep ⟨geti rfl (by rw [hP]), rfl, rfl, rfl, trivial⟩⟩
      · rintro ⟨at', c⟩ a w ⟨ha, hx, hC⟩
        refine W.seqk fun k11 hk11 => ?_
        refine W.seqk fun k12 hk12 => ?_
        refine W.drawD hC Try.mixed rfl rfl ?_
        apply DRN.cons (.det _ _) rfl
        · intro a w hC
          refine L.pu hC rfl rfl (fun _ => All.nil) rfl rfl ?_; clear hC a; intro a hC
          exact L.nil ⟨⟨_, [], hC⟩, Frm.refl _ _⟩
        apply DRN.cons (.det _ _) rfl
        · intro a w hC
          refine L.pu hC rfl rfl (fun _ => All.nil) rfl rfl ?_; clear hC a; intro a hC
          exact L.nil ⟨⟨_, [], hC⟩, Frm.refl _ _⟩
        apply DRN.cons (.det _ _) rfl
        · intro a w hC
          refine L.pu hC rfl rfl (fun _ => All.nil) rfl rfl ?_; clear hC a; intro a hC
          exact L.nil ⟨⟨_, [], hC⟩, Frm.refl _ _⟩
        apply DRN.cons (.det _ _) rfl
        · intro a w hC
          refine L.pu hC rfl rfl (fun _ => All.nil) rfl rfl ?_; clear hC a; intro a hC
          exact L.nil ⟨⟨_, [], hC⟩, Frm.refl _ _⟩
        apply DRN.cons (.det _ _) rfl
        · intro a w hC
          refine L.pu hC rfl rfl (fun _ => All.nil) rfl rfl ?_; clear hC a; intro a hC
          exact L.nil ⟨⟨_, [], hC⟩, Frm.refl _ _⟩
        apply DRN.cons (.det _ _) rfl
        · intro a w hC
          refine L.pu hC rfl rfl (fun hg => by first | (simp only [Gt, Bool.and_eq_true] at hg; simp only [All, List.cons_append, List.nil_append, List.append_nil, List.mem_cons, List.not_mem_nil, or_false, forall_eq_or_imp, forall_eq, Bool.and_eq_true, hg, Bool.not_false, Bool.not_true, and_self]; done) | (simp only [Gt] at hg; simp only [All, List.cons_append, List.nil_append, List.append_nil, List.mem_cons, List.not_mem_nil, or_false, forall_eq_or_imp, forall_eq, hg, and_self])) rfl rfl ?_; clear hC a; intro a hC
          exact L.nil ⟨⟨_, [], hC⟩, Frm.refl _ _⟩
        apply DRN.cons (.det _ _) rfl
        · intro a w hC
          refine L.ixo hC rfl rfl rfl rfl m0 (fun hg => by first | (simp only [Gt, Bool.and_eq_true] at hg; simp only [All, List.cons_append, List.nil_append, List.append_nil, List.mem_cons, List.not_mem_nil, or_false, forall_eq_or_imp, forall_eq, Bool.and_eq_true, hg, Bool.not_false, Bool.not_true, and_self]; done) | (simp only [Gt] at hg; simp only [All, List.cons_append, List.nil_append, List.append_nil, List.mem_cons, List.not_mem_nil, or_false, forall_eq_or_imp, forall_eq, hg, and_self])) (fun hg => by first | (simp only [Gt, Bool.and_eq_true] at hg; simp only [All, List.cons_append, List.nil_append, List.append_nil, List.mem_cons, List.not_mem_nil, or_false, forall_eq_or_imp, forall_eq, Bool.and_eq_true, hg, Bool.not_false, Bool.not_true, and_self]; done) | (simp only [Gt] at hg; simp only [All, List.cons_append, List.nil_append, List.append_nil, List.mem_cons, List.not_mem_nil, or_false, forall_eq_or_imp, forall_eq, hg, and_self])) Try.underlying37 Try.sizeOf3 (fun hg => by have := ins_g hg; rw [w64 (by omega), ins_len (by omega)]; omega) rfl rfl ?_; clear hC a; intro a hC
          exact L.nil ⟨⟨_, [], hC⟩, Frm.refl _ _⟩
        apply DRN.cons (.det _ _) rfl
        · intro a w hC
          refine L.ldx hC rfl rfl rfl rfl (fun hg => by first | (simp only [Gt, Bool.and_eq_true] at hg; simp only [All, List.cons_append, List.nil_append, List.append_nil, List.mem_cons, List.not_mem_nil, or_false, forall_eq_or_imp, forall_eq, Bool.and_eq_true, hg, Bool.not_false, Bool.not_true, and_self]; done) | (simp only [Gt] at hg; simp only [All, List.cons_append, List.nil_append, List.append_nil, List.mem_cons, List.not_mem_nil, or_false, forall_eq_or_imp, forall_eq, hg, and_self])) (fun hg => own_bang hC m0 (by have := ins_g hg; rw [w64 (by omega), ins_len (by omega)]; omega) _) Try.isAgg3 rfl rfl rfl ?_; clear hC a; intro a hC
          exact L.nil ⟨⟨_, [], hC⟩, Frm.refl _ _⟩
        apply DRN.cons (.det _ _) rfl
        · intro a w hC
          refine L.pu hC rfl rfl (fun _ => All.nil) rfl rfl ?_; clear hC a; intro a hC
          exact L.nil ⟨⟨_, [], hC⟩, Frm.refl _ _⟩
        apply DRN.cons (.det _ _) rfl
        · intro a w hC
          refine L.pu hC rfl rfl (fun _ => All.nil) rfl rfl ?_; clear hC a; intro a hC
          exact L.nil ⟨⟨_, [], hC⟩, Frm.refl _ _⟩
        apply DRN.cons (.det _ _) rfl
        · intro a w hC
          refine L.ixr hC rfl rfl rfl rfl m1 (fun hg => by first | (simp only [Gt, Bool.and_eq_true] at hg; simp only [All, List.cons_append, List.nil_append, List.append_nil, List.mem_cons, List.not_mem_nil, or_false, forall_eq_or_imp, forall_eq, Bool.and_eq_true, hg, Bool.not_false, Bool.not_true, and_self]; done) | (simp only [Gt] at hg; simp only [All, List.cons_append, List.nil_append, List.append_nil, List.mem_cons, List.not_mem_nil, or_false, forall_eq_or_imp, forall_eq, hg, and_self])) (fun hg => by first | (simp only [Gt, Bool.and_eq_true] at hg; simp only [All, List.cons_append, List.nil_append, List.append_nil, List.mem_cons, List.not_mem_nil, or_false, forall_eq_or_imp, forall_eq, Bool.and_eq_true, hg, Bool.not_false, Bool.not_true, and_self]; done) | (simp only [Gt] at hg; simp only [All, List.cons_append, List.nil_append, List.append_nil, List.mem_cons, List.not_mem_nil, or_false, forall_eq_or_imp, forall_eq, hg, and_self])) Try.underlying37 Try.sizeOf3 (fun _ => by omega) rfl rfl ?_; clear hC a; intro a hC
          exact L.nil ⟨⟨_, [], hC⟩, Frm.refl _ _⟩
        apply DRN.cons (.det _ _) rfl
        · intro a w hC
          refine L.ldx hC rfl rfl rfl rfl (fun hg => by first | (simp only [Gt, Bool.and_eq_true] at hg; simp only [All, List.cons_append, List.nil_append, List.append_nil, List.mem_cons, List.not_mem_nil, or_false, forall_eq_or_imp, forall_eq, Bool.and_eq_true, hg, Bool.not_false, Bool.not_true, and_self]; done) | (simp only [Gt] at hg; simp only [All, List.cons_append, List.nil_append, List.append_nil, List.mem_cons, List.not_mem_nil, or_false, forall_eq_or_imp, forall_eq, hg, and_self])) (fun hg => rd_bang hC m1 (by omega) _) Try.isAgg3 rfl rfl rfl ?_; clear hC a; intro a hC
          exact L.nil ⟨⟨_, [], hC⟩, Frm.refl _ _⟩
        apply DRN.cons (.det _ _) rfl
        · intro a w hC
          refine L.pu hC rfl rfl (fun hg => by first | (simp only [Gt, Bool.and_eq_true] at hg; simp only [All, List.cons_append, List.nil_append, List.append_nil, List.mem_cons, List.not_mem_nil, or_false, forall_eq_or_imp, forall_eq, Bool.and_eq_true, hg, Bool.not_false, Bool.not_true, and_self]; done) | (simp only [Gt] at hg; simp only [All, List.cons_append, List.nil_append, List.append_nil, List.mem_cons, List.not_mem_nil, or_false, forall_eq_or_imp, forall_eq, hg, and_self])) rfl rfl ?_; clear hC a; intro a hC
          exact L.nil ⟨⟨_, [], hC⟩, Frm.refl _ _⟩
        apply DRN.cons (.det _ _) rfl
        · intro a w hC
          refine L.and hC rfl rfl rfl rfl (fun _ => All.nil) (fun _ hp => by first | (simp only [All, List.cons_append, List.nil_append, List.append_nil, List.mem_cons, List.not_mem_nil, or_false, forall_eq_or_imp, forall_eq, Bool.and_eq_true, hp, Bool.not_false, Bool.not_true, and_self]; done) | simp [All, hp]) rfl rfl ?_; clear hC a; intro a hC
          exact L.nil ⟨⟨_, [], hC⟩, Frm.refl _ _⟩
        refine DRN.nil (fun w' hF => ?_)
        intro a w hC hw
        subst hw
        refine hk12 _ _ ?_; clear hk12; try clear k12
        refine W.cond hC rfl (fun h2 => ?_) (fun h2 => ?_)
        ·
          obtain ⟨h2a, h2b⟩ := ins_yes (by omega) (by omega) h2
          refine W.skip ?_
          refine hk11 _ _ ?_; clear hk11; try clear k11
          refine W.block ?_
          refine W.seqk fun k13 hk13 => ?_
          refine W.region ?_
          refine L.pu hC rfl rfl (fun _ => All.nil) rfl rfl ?_; clear hC a; intro a hC
          refine L.pu hC rfl rfl (fun _ => All.nil) rfl rfl ?_; clear hC a; intro a hC
          refine L.pu hC rfl rfl (fun _ => All.nil) rfl rfl ?_; clear hC a; intro a hC
          refine L.pu hC rfl rfl (fun _ => All.nil) rfl rfl ?_; clear hC a; intro a hC
          refine L.pu hC rfl rfl (fun _ => All.nil) rfl rfl ?_; clear hC a; intro a hC
          refine L.ixo hC rfl rfl rfl rfl m0 (fun _ => All.nil) (fun _ => All.nil) Try.underlying37 Try.sizeOf3 (fun _ => by rw [w64 (by omega), ins_len (by omega)]; omega) rfl rfl ?_; clear hC a; intro a hC
          refine L.ldx hC rfl rfl rfl rfl (fun _ => All.nil) (fun hg => own_bang hC m0 (by rw [w64 (by omega), ins_len (by omega)]; omega) _) Try.isAgg3 rfl rfl rfl ?_; clear hC a; intro a hC
          refine L.ixo hC rfl rfl rfl rfl m0 (fun _ => All.nil) (fun _ => All.nil) Try.underlying37 Try.sizeOf3 (fun _ => by rw [ins_len (by omega)]; omega) rfl rfl ?_; clear hC a; intro a hC
          refine L.ste hC rfl rfl rfl rfl rfl Try.sizeOf3 rfl rfl rfl (by rw [ins_len (by omega)]; omega) (Nat.le_of_ble_eq_true rfl) (x' := _) rfl rfl ?_; clear hC a; intro a w hF hC
          refine L.nil ?_
          refine hk13 _ _ ?_; clear hk13; try clear k13
          refine W.region ?_
          refine L.pu hC rfl rfl (fun _ => All.nil) rfl rfl ?_; clear hC a; intro a hC
          refine L.pu hC rfl rfl (fun _ => All.nil) rfl rfl ?_; clear hC a; intro a hC
          refine L.pu hC rfl rfl (fun _ => All.nil) rfl rfl ?_; clear hC a; intro a hC
          refine L.nil ?_
          replace hC := hC.fr1
          replace hC := hC.fr1
          replace hC := hC.hd (r' := ownR nv 3 intE (P.take (at' - 1) ++ P[at' - 1]! :: P.drop (at' - 1))) (congrArg (ownR nv 3 intE) (ins_move (by omega) (by omega) h2a))
          exact ⟨(at' - 1, P[at' - 1]!), ⟨by omega, ins_gt hx (by omega) h2a h2b, hC.keep ⟨geti rfl (by rw [w64 (by omega)]; omega), rfl, rfl, rfl, trivial⟩⟩, by first | omega | (dsimp only; omega)⟩
        ·
          have h2 := ins_no (by omega) (by omega) h2
          refine W.exit ?_
          refine Kb.here ?_
          refine hk10 _ _ ?_; clear hk10; try clear k10
          refine W.region ?_
          refine L.pu hC rfl rfl (fun _ => All.nil) rfl rfl ?_; clear hC a; intro a hC
          refine L.pu hC rfl rfl (fun _ => All.nil) rfl rfl ?_; clear hC a; intro a hC
          refine L.pu hC rfl rfl (fun _ => All.nil) rfl rfl ?_; clear hC a; intro a hC
          refine L.pu hC rfl rfl (fun _ => All.nil) rfl rfl ?_; clear hC a; intro a hC
          refine L.ixr hC rfl rfl rfl rfl m1 (fun _ => All.nil) (fun _ => All.nil) Try.underlying37 Try.sizeOf3 (fun _ => by omega) rfl rfl ?_; clear hC a; intro a hC
          refine L.ldx hC rfl rfl rfl rfl (fun _ => All.nil) (fun hg => rd_bang hC m1 (by omega) _) Try.isAgg3 rfl rfl rfl ?_; clear hC a; intro a hC
          refine L.ixo hC rfl rfl rfl rfl m0 (fun _ => All.nil) (fun _ => All.nil) Try.underlying37 Try.sizeOf3 (fun _ => by rw [ins_len (by omega)]; omega) rfl rfl ?_; clear hC a; intro a hC
          refine L.ste hC rfl rfl rfl rfl rfl Try.sizeOf3 rfl rfl rfl (by rw [ins_len (by omega)]; omega) (Nat.le_of_ble_eq_true rfl) (x' := _) rfl rfl ?_; clear hC a; intro a w hF hC
          refine L.nil ?_
          refine hk7 _ _ ?_; clear hk7; try clear k7
          refine W.region ?_
          refine L.pu hC rfl rfl (fun _ => All.nil) rfl rfl ?_; clear hC a; intro a hC
          refine L.pu hC rfl rfl (fun _ => All.nil) rfl rfl ?_; clear hC a; intro a hC
          refine L.pu hC rfl rfl (fun _ => All.nil) rfl rfl ?_; clear hC a; intro a hC
          refine L.nil ?_
          replace hC := hC.fr1
          replace hC := hC.fr1
          replace hC := hC.hd (r' := ownR nv 3 intE (P.take at' ++ l[j]! :: P.drop at')) (congrArg (ownR nv 3 intE) (ins_put (by omega)))
          exact ⟨(j + 1, nv, P.take at' ++ l[j]! :: P.drop at'), ⟨by omega, by rw [ins_len (by omega), hP], ins_sorted hS (by omega) h2 hx, ins_perm hM (by omega), hC.keep ⟨geti rfl (w64 (by omega)), rfl, rfl, trivial⟩⟩, by first | omega | (dsimp only; omega)⟩
    ·
      have h1 := of_decide_eq_false h1
      refine W.exit ?_
      refine Kb.here ?_
      refine hk3 _ _ ?_; clear hk3; try clear k3
      refine W.seqk fun k14 hk14 => ?_
      refine W.region ?_
      refine L.pu hC rfl rfl (fun _ => All.nil) rfl rfl ?_; clear hC a; intro a hC
      refine L.pu hC rfl rfl (fun _ => All.nil) rfl rfl ?_; clear hC a; intro a hC
      refine L.nil ?_
      refine hk14 _ _ ?_; clear hk14; try clear k14
      refine W.ret ?_
      have ej : j = l.length := by omega
      have es : P = sortI l := ins_end hS (by rw [ej, List.take_of_length_le (Nat.le_refl _)] at hM; exact hM)
      subst es
      refine rets hC rfl (.tmp rfl .nil) ?_
      replace hC := hC.subl (.cons_cons _ (.cons _ .slnil))
      exact ⟨_, rfl, trivial, hC.toPost (by simp [ownR])⟩

theorem rising13_ok (v : Value) (l : List Int) (w0 : World) (hr : (rdR v intE l).ok w0) : Calls Try.prog 93 #[v] w0 fun e w' => e = .returned (.bool (rises (-1) l)) ∧ Frm Nob w0 w' := by
  have hlen := rd_lt hr
  refine enter (μ := [rdR v intE l]) (S := Nob) (vs := [v]) Try.func93 rfl Try.ntmps93 rfl ⟨by simpa using hr, by simp⟩ (by simp [rdR]) (fun a hC => ?_)
  refine W.seqk fun k1 hk1 => ?_
  refine W.region ?_
  refine L.pu hC rfl rfl (fun _ => All.nil) rfl rfl ?_; clear hC a; intro a hC
  refine L.nil ?_
  refine hk1 _ _ ?_; clear hk1; try clear k1
  refine W.seqk fun k2 hk2 => ?_
  refine W.seqk fun k3 hk3 => ?_
  refine W.region ?_
  refine L.pu hC rfl rfl (fun _ => All.nil) rfl rfl ?_; clear hC a; intro a hC
  refine L.nil ?_
  refine hk3 _ _ ?_; clear hk3; try clear k3
  refine W.block ?_
  refine W.loop (fun (j : Nat) a w' => (j ≤ l.length) ∧ (rises (lastI l j) (l.drop j) = rises (-1) l) ∧ (-1 ≤ lastI l j) ∧ Conf 31 Nob w0 [(3, (none, .int .i64 (j : Int))), (0, (none, v))] [rdR v intE l] a w') (fun (j : Nat) => l.length - j) 0 ?_ ?_
  · exact ⟨Nat.zero_le _, rfl, by simp [lastI], hC.keep ⟨rfl, rfl, trivial⟩⟩
  · rintro j a w ⟨hj, hs, hb, hC⟩
    refine W.seqk fun k4 hk4 => ?_
    refine W.seqk fun k5 hk5 => ?_
    refine W.region ?_
    refine L.pu hC rfl rfl (fun _ => All.nil) rfl rfl ?_; clear hC a; intro a hC
    refine L.pu hC rfl rfl (fun _ => All.nil) rfl rfl ?_; clear hC a; intro a hC
    refine L.len hC rfl rfl rfl (fun _ => All.nil) (rd_form (hC.at m0)) Try.underlying37 rfl rfl ?_; clear hC a; intro a hC
    refine L.pu hC rfl rfl (fun _ => All.nil) rfl rfl ?_; clear hC a; intro a hC
    refine L.nil ?_
    refine hk5 _ _ ?_; clear hk5; try clear k5
    refine W.cond hC rfl (fun h1 => ?_) (fun h1 => ?_)
    ·
      have h1 := of_decide_eq_true h1
      refine W.skip ?_
      refine hk4 _ _ ?_; clear hk4; try clear k4
      refine W.seqk fun k6 hk6 => ?_
      refine W.block ?_
      refine W.seqk fun k7 hk7 => ?_
      refine W.drawD hC Try.mixed rfl rfl ?_
      apply DRN.cons (.det _ _) rfl
      · intro a w hC
        refine L.pu hC rfl rfl (fun _ => All.nil) rfl rfl ?_; clear hC a; intro a hC
        exact L.nil ⟨⟨_, [], hC⟩, Frm.refl _ _⟩
      apply DRN.cons (.det _ _) rfl
      · intro a w hC
        refine L.pu hC rfl rfl (fun _ => All.nil) rfl rfl ?_; clear hC a; intro a hC
        exact L.nil ⟨⟨_, [], hC⟩, Frm.refl _ _⟩
      apply DRN.cons (.det _ _) rfl
      · intro a w hC
        refine L.ixr hC rfl rfl rfl rfl m0 (fun _ => All.nil) (fun _ => All.nil) Try.underlying37 Try.sizeOf3 (fun _ => by omega) rfl rfl ?_; clear hC a; intro a hC
        exact L.nil ⟨⟨_, [], hC⟩, Frm.refl _ _⟩
      apply DRN.cons (.det _ _) rfl
      · intro a w hC
        refine L.ldx hC rfl rfl rfl rfl (fun _ => All.nil) (fun hg => rd_bang hC m0 (by omega) _) Try.isAgg3 rfl rfl rfl ?_; clear hC a; intro a hC
        exact L.nil ⟨⟨_, [], hC⟩, Frm.refl _ _⟩
      apply DRN.cons (.det _ _) rfl
      · intro a w hC
        refine L.pu hC rfl rfl (fun _ => All.nil) rfl rfl ?_; clear hC a; intro a hC
        exact L.nil ⟨⟨_, [], hC⟩, Frm.refl _ _⟩
      apply DRN.cons (.det _ _) rfl
      · intro a w hC
        refine L.pu hC rfl rfl (fun _ => All.nil) rfl rfl ?_; clear hC a; intro a hC
        exact L.nil ⟨⟨_, [], hC⟩, Frm.refl _ _⟩
      apply DRN.cons (.det _ _) rfl
      · intro a w hC
        refine L.pu hC rfl rfl (fun _ => All.nil) rfl rfl ?_; clear hC a; intro a hC
        exact L.nil ⟨⟨_, [], hC⟩, Frm.refl _ _⟩
      apply DRN.cons (.det _ _) rfl
      · intro a w hC
        refine L.pu hC rfl rfl (fun hg => by first | (simp only [Gt, Bool.and_eq_true] at hg; simp only [All, List.cons_append, List.nil_append, List.append_nil, List.mem_cons, List.not_mem_nil, or_false, forall_eq_or_imp, forall_eq, Bool.and_eq_true, hg, Bool.not_false, Bool.not_true, and_self]; done) | (simp only [Gt] at hg; simp only [All, List.cons_append, List.nil_append, List.append_nil, List.mem_cons, List.not_mem_nil, or_false, forall_eq_or_imp, forall_eq, hg, and_self])) rfl rfl ?_; clear hC a; intro a hC
        exact L.nil ⟨⟨_, [], hC⟩, Frm.refl _ _⟩
      apply DRN.cons (.det _ _) rfl
      · intro a w hC
        refine L.pu hC rfl rfl (fun hg => by first | (simp only [Gt, Bool.and_eq_true] at hg; simp only [All, List.cons_append, List.nil_append, List.append_nil, List.mem_cons, List.not_mem_nil, or_false, forall_eq_or_imp, forall_eq, Bool.and_eq_true, hg, Bool.not_false, Bool.not_true, and_self]; done) | (simp only [Gt] at hg; simp only [All, List.cons_append, List.nil_append, List.append_nil, List.mem_cons, List.not_mem_nil, or_false, forall_eq_or_imp, forall_eq, hg, and_self])) rfl rfl ?_; clear hC a; intro a hC
        exact L.nil ⟨⟨_, [], hC⟩, Frm.refl _ _⟩
      apply DRN.cons (.det _ _) rfl
      · intro a w hC
        refine L.pu hC rfl rfl (fun _ => All.nil) rfl rfl ?_; clear hC a; intro a hC
        exact L.nil ⟨⟨_, [], hC⟩, Frm.refl _ _⟩
      apply DRN.cons (.det _ _) rfl
      · intro a w hC
        refine L.pu hC rfl rfl (fun _ => All.nil) rfl rfl ?_; clear hC a; intro a hC
        exact L.nil ⟨⟨_, [], hC⟩, Frm.refl _ _⟩
      apply DRN.cons (.det _ _) rfl
      · intro a w hC
        refine L.ixr hC rfl rfl rfl rfl m0 (fun hg => by first | (simp only [Gt, Bool.and_eq_true] at hg; simp only [All, List.cons_append, List.nil_append, List.append_nil, List.mem_cons, List.not_mem_nil, or_false, forall_eq_or_imp, forall_eq, Bool.and_eq_true, hg, Bool.not_false, Bool.not_true, and_self]; done) | (simp only [Gt] at hg; simp only [All, List.cons_append, List.nil_append, List.append_nil, List.mem_cons, List.not_mem_nil, or_false, forall_eq_or_imp, forall_eq, hg, and_self])) (fun hg => by first | (simp only [Gt, Bool.and_eq_true] at hg; simp only [All, List.cons_append, List.nil_append, List.append_nil, List.mem_cons, List.not_mem_nil, or_false, forall_eq_or_imp, forall_eq, Bool.and_eq_true, hg, Bool.not_false, Bool.not_true, and_self]; done) | (simp only [Gt] at hg; simp only [All, List.cons_append, List.nil_append, List.append_nil, List.mem_cons, List.not_mem_nil, or_false, forall_eq_or_imp, forall_eq, hg, and_self])) Try.underlying37 Try.sizeOf3 (fun _ => by omega) rfl rfl ?_; clear hC a; intro a hC
        exact L.nil ⟨⟨_, [], hC⟩, Frm.refl _ _⟩
      apply DRN.cons (.det _ _) rfl
      · intro a w hC
        refine L.ldx hC rfl rfl rfl rfl (fun hg => by first | (simp only [Gt, Bool.and_eq_true] at hg; simp only [All, List.cons_append, List.nil_append, List.append_nil, List.mem_cons, List.not_mem_nil, or_false, forall_eq_or_imp, forall_eq, Bool.and_eq_true, hg, Bool.not_false, Bool.not_true, and_self]; done) | (simp only [Gt] at hg; simp only [All, List.cons_append, List.nil_append, List.append_nil, List.mem_cons, List.not_mem_nil, or_false, forall_eq_or_imp, forall_eq, hg, and_self])) (fun hg => rd_bang hC m0 (by omega) _) Try.isAgg3 rfl rfl rfl ?_; clear hC a; intro a hC
        exact L.nil ⟨⟨_, [], hC⟩, Frm.refl _ _⟩
      apply DRN.cons (.det _ _) rfl
      · intro a w hC
        refine L.pu hC rfl rfl (fun _ => All.nil) rfl rfl ?_; clear hC a; intro a hC
        exact L.nil ⟨⟨_, [], hC⟩, Frm.refl _ _⟩
      apply DRN.cons (.det _ _) rfl
      · intro a w hC
        refine L.pu hC rfl rfl (fun _ => All.nil) rfl rfl ?_; clear hC a; intro a hC
        exact L.nil ⟨⟨_, [], hC⟩, Frm.refl _ _⟩
      apply DRN.cons (.det _ _) rfl
      · intro a w hC
        refine L.pu hC rfl rfl (fun hg => by first | (simp only [Gt, Bool.and_eq_true] at hg; simp only [All, List.cons_append, List.nil_append, List.append_nil, List.mem_cons, List.not_mem_nil, or_false, forall_eq_or_imp, forall_eq, Bool.and_eq_true, hg, Bool.not_false, Bool.not_true, and_self]; done) | (simp only [Gt] at hg; simp only [All, List.cons_append, List.nil_append, List.append_nil, List.mem_cons, List.not_mem_nil, or_false, forall_eq_or_imp, forall_eq, hg, and_self])) rfl rfl ?_; clear hC a; intro a hC
        exact L.nil ⟨⟨_, [], hC⟩, Frm.refl _ _⟩
      apply DRN.cons (.det _ _) rfl
      · intro a w hC
        refine L.ixr hC rfl rfl rfl rfl m0 (fun hg => by first | (simp only [Gt, Bool.and_eq_true] at hg; simp only [All, List.cons_append, List.nil_append, List.append_nil, List.mem_cons, List.not_mem_nil, or_false, forall_eq_or_imp, forall_eq, Bool.and_eq_true, hg, Bool.not_false, Bool.not_true, and_self]; done) | (simp only [Gt] at hg; simp only [All, List.cons_append, List.nil_append, List.append_nil, List.mem_cons, List.not_mem_nil, or_false, forall_eq_or_imp, forall_eq, hg, and_self])) (fun hg => by first | (simp only [Gt, Bool.and_eq_true] at hg; simp only [All, List.cons_append, List.nil_append, List.append_nil, List.mem_cons, List.not_mem_nil, or_false, forall_eq_or_imp, forall_eq, Bool.and_eq_true, hg, Bool.not_false, Bool.not_true, and_self]; done) | (simp only [Gt] at hg; simp only [All, List.cons_append, List.nil_append, List.append_nil, List.mem_cons, List.not_mem_nil, or_false, forall_eq_or_imp, forall_eq, hg, and_self])) Try.underlying37 Try.sizeOf3 (fun hg => by have hj1 := guard_pos hg; rw [w64 (by omega)]; omega) rfl rfl ?_; clear hC a; intro a hC
        exact L.nil ⟨⟨_, [], hC⟩, Frm.refl _ _⟩
      apply DRN.cons (.det _ _) rfl
      · intro a w hC
        refine L.ldx hC rfl rfl rfl rfl (fun hg => by first | (simp only [Gt, Bool.and_eq_true] at hg; simp only [All, List.cons_append, List.nil_append, List.append_nil, List.mem_cons, List.not_mem_nil, or_false, forall_eq_or_imp, forall_eq, Bool.and_eq_true, hg, Bool.not_false, Bool.not_true, and_self]; done) | (simp only [Gt] at hg; simp only [All, List.cons_append, List.nil_append, List.append_nil, List.mem_cons, List.not_mem_nil, or_false, forall_eq_or_imp, forall_eq, hg, and_self])) (fun hg => rd_bang hC m0 (by have hj1 := guard_pos hg; rw [w64 (by omega)]; omega) _) Try.isAgg3 rfl rfl rfl ?_; clear hC a; intro a hC
        exact L.nil ⟨⟨_, [], hC⟩, Frm.refl _ _⟩
      apply DRN.cons (.det _ _) rfl
      · intro a w hC
        refine L.pu hC rfl rfl (fun hg => by first | (simp only [Gt, Bool.and_eq_true] at hg; simp only [All, List.cons_append, List.nil_append, List.append_nil, List.mem_cons, List.not_mem_nil, or_false, forall_eq_or_imp, forall_eq, Bool.and_eq_true, hg, Bool.not_false, Bool.not_true, and_self]; done) | (simp only [Gt] at hg; simp only [All, List.cons_append, List.nil_append, List.append_nil, List.mem_cons, List.not_mem_nil, or_false, forall_eq_or_imp, forall_eq, hg, and_self])) rfl rfl ?_; clear hC a; intro a hC
        exact L.nil ⟨⟨_, [], hC⟩, Frm.refl _ _⟩
      apply DRN.cons (.det _ _) rfl
      · intro a w hC
        refine L.and hC rfl rfl rfl rfl (fun hg => by first | (simp only [Gt, Bool.and_eq_true] at hg; simp only [All, List.cons_append, List.nil_append, List.append_nil, List.mem_cons, List.not_mem_nil, or_false, forall_eq_or_imp, forall_eq, Bool.and_eq_true, hg, Bool.not_false, Bool.not_true, and_self]; done) | (simp only [Gt] at hg; simp only [All, List.cons_append, List.nil_append, List.append_nil, List.mem_cons, List.not_mem_nil, or_false, forall_eq_or_imp, forall_eq, hg, and_self])) (fun hg hp => by first | (simp only [Gt, Bool.and_eq_true] at hg; simp only [All, List.cons_append, List.nil_append, List.append_nil, List.mem_cons, List.not_mem_nil, or_false, forall_eq_or_imp, forall_eq, Bool.and_eq_true, hg, hp, Bool.not_false, Bool.not_true, and_self]; done) | (simp only [Gt] at hg; simp only [All, List.cons_append, List.nil_append, List.append_nil, List.mem_cons, List.not_mem_nil, or_false, forall_eq_or_imp, forall_eq, Bool.and_eq_true]; exact ⟨hg, by simp only [hp, Bool.not_false]⟩)) rfl rfl ?_; clear hC a; intro a hC
        exact L.nil ⟨⟨_, [], hC⟩, Frm.refl _ _⟩
      apply DRN.cons (.det _ _) rfl
      · intro a w hC
        refine L.or hC rfl rfl rfl rfl (fun _ => All.nil) (fun _ hp => by first | (simp only [All, List.cons_append, List.nil_append, List.append_nil, List.mem_cons, List.not_mem_nil, or_false, forall_eq_or_imp, forall_eq, Bool.and_eq_true, hp, Bool.not_false, Bool.not_true, and_self]; done) | simp [All, hp]) rfl rfl ?_; clear hC a; intro a hC
        exact L.nil ⟨⟨_, [], hC⟩, Frm.refl _ _⟩
      refine DRN.nil (fun w' hF => ?_)
      intro a w hC hw
      subst hw
      refine hk7 _ _ ?_; clear hk7; try clear k7
      refine W.cond hC rfl (fun h2 => ?_) (fun h2 => ?_)
      ·
        rw [Int.toNat_natCast, ris_form (by omega) hb (by omega)] at h2
        refine W.seqk fun k8 hk8 => ?_
        refine W.region ?_
        refine L.pu hC rfl rfl (fun _ => All.nil) rfl rfl ?_; clear hC a; intro a hC
        refine L.nil ?_
        refine hk8 _ _ ?_; clear hk8; try clear k8
        refine W.ret ?_
        refine rets hC rfl (.tmp rfl .nil) ?_
        refine ⟨?_, hC.frm⟩
        refine rb ?_
        rw [← hs]; exact (ris_here (by omega) h2).symm
      ·
        rw [Int.toNat_natCast, ris_form (by omega) hb (by omega)] at h2
        refine W.skip ?_
        refine hk6 _ _ ?_; clear hk6; try clear k6
        refine W.region ?_
        refine L.pu hC rfl rfl (fun _ => All.nil) rfl rfl ?_; clear hC a; intro a hC
        refine L.pu hC rfl rfl (fun _ => All.nil) rfl rfl ?_; clear hC a; intro a hC
        refine L.pu hC rfl rfl (fun _ => All.nil) rfl rfl ?_; clear hC a; intro a hC
        refine L.nil ?_
        exact ⟨j + 1, ⟨by omega, by rw [← hs]; exact (ris_step (by omega) h2).symm, ris_ge hb h2, hC.keep ⟨geti rfl (w64 (by omega)), rfl, trivial⟩⟩, by first | omega | (dsimp only; omega)⟩
    ·
      have h1 := of_decide_eq_false h1
      refine W.exit ?_
      refine Kb.here ?_
      refine hk2 _ _ ?_; clear hk2; try clear k2
      refine W.seqk fun k9 hk9 => ?_
      refine W.region ?_
      refine L.pu hC rfl rfl (fun _ => All.nil) rfl rfl ?_; clear hC a; intro a hC
      refine L.nil ?_
      refine hk9 _ _ ?_; clear hk9; try clear k9
      refine W.ret ?_
      refine rets hC rfl (.tmp rfl .nil) ?_
      refine ⟨?_, hC.frm⟩
      refine rb ?_
      rw [← hs, List.drop_of_length_le (by omega)]; rfl

theorem roundr_ok (n c s : Int) (w0 : World) : Calls Try.prog 94 #[.int .i64 n, .int .i64 c, .int .i64 s] w0 fun e w' => e = .returned (.tuple #[.int .i64 (roundR n c s).1, .int .i64 (roundR n c s).2.1, .int .i64 (roundR n c s).2.2]) ∧ Frm Nob w0 w' := by
  refine enter (μ := []) (S := Nob) (vs := [.int .i64 n, .int .i64 c, .int .i64 s]) Try.func94 rfl Try.ntmps94 rfl (Mem.nil _) (by simp) (fun a hC => ?_)
  refine W.seqk fun k1 hk1 => ?_
  refine W.region ?_
  refine L.pu hC rfl rfl (fun _ => All.nil) rfl rfl ?_; clear hC a; intro a hC
  refine L.pu hC rfl rfl (fun _ => All.nil) rfl rfl ?_; clear hC a; intro a hC
  refine L.pu hC rfl rfl (fun _ => All.nil) rfl rfl ?_; clear hC a; intro a hC
  refine L.nil ?_
  refine hk1 _ _ ?_; clear hk1; try clear k1
  refine W.seqk fun k2 hk2 => ?_
  refine W.seqk fun k3 hk3 => ?_
  refine W.region ?_
  refine L.pu hC rfl rfl (fun _ => All.nil) rfl rfl ?_; clear hC a; intro a hC
  refine L.pu hC rfl rfl (fun _ => All.nil) rfl rfl ?_; clear hC a; intro a hC
  refine L.pu hC rfl rfl (fun _ => All.nil) rfl rfl ?_; clear hC a; intro a hC
  refine L.pu hC rfl rfl (fun _ => All.nil) rfl rfl ?_; clear hC a; intro a hC
  refine L.pu hC rfl rfl (fun hg => by first | (simp only [Gt, Bool.and_eq_true] at hg; simp only [All, List.cons_append, List.nil_append, List.append_nil, List.mem_cons, List.not_mem_nil, or_false, forall_eq_or_imp, forall_eq, Bool.and_eq_true, hg, Bool.not_false, Bool.not_true, and_self]; done) | (simp only [Gt] at hg; simp only [All, List.cons_append, List.nil_append, List.append_nil, List.mem_cons, List.not_mem_nil, or_false, forall_eq_or_imp, forall_eq, hg, and_self])) rfl rfl ?_; clear hC a; intro a hC
  refine L.or hC rfl rfl rfl rfl (fun _ => All.nil) (fun _ hp => by first | (simp only [All, List.cons_append, List.nil_append, List.append_nil, List.mem_cons, List.not_mem_nil, or_false, forall_eq_or_imp, forall_eq, Bool.and_eq_true, hp, Bool.not_false, Bool.not_true, and_self]; done) | simp [All, hp]) rfl rfl ?_; clear hC a; intro a hC
  refine L.pu hC rfl rfl (fun _ => All.nil) rfl rfl ?_; clear hC a; intro a hC
  refine L.pu hC rfl rfl (fun _ => All.nil) rfl rfl ?_; clear hC a; intro a hC
  refine L.pu hC rfl rfl (fun hg => by first | (simp only [Gt, Bool.and_eq_true] at hg; simp only [All, List.cons_append, List.nil_append, List.append_nil, List.mem_cons, List.not_mem_nil, or_false, forall_eq_or_imp, forall_eq, Bool.and_eq_true, hg, Bool.not_false, Bool.not_true, and_self]; done) | (simp only [Gt] at hg; simp only [All, List.cons_append, List.nil_append, List.append_nil, List.mem_cons, List.not_mem_nil, or_false, forall_eq_or_imp, forall_eq, hg, and_self])) rfl rfl ?_; clear hC a; intro a hC
  refine L.or hC rfl rfl rfl rfl (fun _ => All.nil) (fun _ hp => by first | (simp only [All, List.cons_append, List.nil_append, List.append_nil, List.mem_cons, List.not_mem_nil, or_false, forall_eq_or_imp, forall_eq, Bool.and_eq_true, hp, Bool.not_false, Bool.not_true, and_self]; done) | simp [All, hp]) rfl rfl ?_; clear hC a; intro a hC
  refine L.pu hC rfl rfl (fun _ => All.nil) rfl rfl ?_; clear hC a; intro a hC
  refine L.pu hC rfl rfl (fun _ => All.nil) rfl rfl ?_; clear hC a; intro a hC
  refine L.pu hC rfl rfl (fun hg => by first | (simp only [Gt, Bool.and_eq_true] at hg; simp only [All, List.cons_append, List.nil_append, List.append_nil, List.mem_cons, List.not_mem_nil, or_false, forall_eq_or_imp, forall_eq, Bool.and_eq_true, hg, Bool.not_false, Bool.not_true, and_self]; done) | (simp only [Gt] at hg; simp only [All, List.cons_append, List.nil_append, List.append_nil, List.mem_cons, List.not_mem_nil, or_false, forall_eq_or_imp, forall_eq, hg, and_self])) rfl rfl ?_; clear hC a; intro a hC
  refine L.or hC rfl rfl rfl rfl (fun _ => All.nil) (fun _ hp => by first | (simp only [All, List.cons_append, List.nil_append, List.append_nil, List.mem_cons, List.not_mem_nil, or_false, forall_eq_or_imp, forall_eq, Bool.and_eq_true, hp, Bool.not_false, Bool.not_true, and_self]; done) | simp [All, hp]) rfl rfl ?_; clear hC a; intro a hC
  refine L.pu hC rfl rfl (fun _ => All.nil) rfl rfl ?_; clear hC a; intro a hC
  refine L.pu hC rfl rfl (fun _ => All.nil) rfl rfl ?_; clear hC a; intro a hC
  refine L.pu hC rfl rfl (fun hg => by first | (simp only [Gt, Bool.and_eq_true] at hg; simp only [All, List.cons_append, List.nil_append, List.append_nil, List.mem_cons, List.not_mem_nil, or_false, forall_eq_or_imp, forall_eq, Bool.and_eq_true, hg, Bool.not_false, Bool.not_true, and_self]; done) | (simp only [Gt] at hg; simp only [All, List.cons_append, List.nil_append, List.append_nil, List.mem_cons, List.not_mem_nil, or_false, forall_eq_or_imp, forall_eq, hg, and_self])) rfl rfl ?_; clear hC a; intro a hC
  refine L.or hC rfl rfl rfl rfl (fun _ => All.nil) (fun _ hp => by first | (simp only [All, List.cons_append, List.nil_append, List.append_nil, List.mem_cons, List.not_mem_nil, or_false, forall_eq_or_imp, forall_eq, Bool.and_eq_true, hp, Bool.not_false, Bool.not_true, and_self]; done) | simp [All, hp]) rfl rfl ?_; clear hC a; intro a hC
  refine L.pu hC rfl rfl (fun _ => All.nil) rfl rfl ?_; clear hC a; intro a hC
  refine L.pu hC rfl rfl (fun _ => All.nil) rfl rfl ?_; clear hC a; intro a hC
  refine L.pu hC rfl rfl (fun hg => by first | (simp only [Gt, Bool.and_eq_true] at hg; simp only [All, List.cons_append, List.nil_append, List.append_nil, List.mem_cons, List.not_mem_nil, or_false, forall_eq_or_imp, forall_eq, Bool.and_eq_true, hg, Bool.not_false, Bool.not_true, and_self]; done) | (simp only [Gt] at hg; simp only [All, List.cons_append, List.nil_append, List.append_nil, List.mem_cons, List.not_mem_nil, or_false, forall_eq_or_imp, forall_eq, hg, and_self])) rfl rfl ?_; clear hC a; intro a hC
  refine L.or hC rfl rfl rfl rfl (fun _ => All.nil) (fun _ hp => by first | (simp only [All, List.cons_append, List.nil_append, List.append_nil, List.mem_cons, List.not_mem_nil, or_false, forall_eq_or_imp, forall_eq, Bool.and_eq_true, hp, Bool.not_false, Bool.not_true, and_self]; done) | simp [All, hp]) rfl rfl ?_; clear hC a; intro a hC
  refine L.nil ?_
  refine hk3 _ _ ?_; clear hk3; try clear k3
  refine W.cond hC rfl (fun h1 => ?_) (fun h1 => ?_)
  ·
    refine W.seqk fun k4 hk4 => ?_
    refine W.region ?_
    refine L.pu hC rfl rfl (fun _ => All.nil) rfl rfl ?_; clear hC a; intro a hC
    refine L.pu hC rfl rfl (fun _ => All.nil) rfl rfl ?_; clear hC a; intro a hC
    refine L.pu hC rfl rfl (fun _ => All.nil) rfl rfl ?_; clear hC a; intro a hC
    refine L.nil ?_
    refine hk4 _ _ ?_; clear hk4; try clear k4
    refine W.ret ?_
    refine retl hC rfl (.tmp rfl (.tmp rfl (.tmp rfl .nil))) rfl ?_
    exact ⟨(by unfold roundR; rw [if_pos h1]; try rfl), hC.frm⟩
  ·
    refine W.skip ?_
    refine hk2 _ _ ?_; clear hk2; try clear k2
    refine W.seqk fun k5 hk5 => ?_
    refine W.seqk fun k6 hk6 => ?_
    refine W.region ?_
    refine L.pu hC rfl rfl (fun _ => All.nil) rfl rfl ?_; clear hC a; intro a hC
    refine L.pu hC rfl rfl (fun _ => All.nil) rfl rfl ?_; clear hC a; intro a hC
    refine L.pu hC rfl rfl (fun _ => All.nil) rfl rfl ?_; clear hC a; intro a hC
    refine L.nil ?_
    refine hk6 _ _ ?_; clear hk6; try clear k6
    refine W.cond hC rfl (fun h2 => ?_) (fun h2 => ?_)
    ·
      refine W.seqk fun k7 hk7 => ?_
      refine W.region ?_
      refine L.pu hC rfl rfl (fun _ => All.nil) rfl rfl ?_; clear hC a; intro a hC
      refine L.pu hC rfl rfl (fun _ => All.nil) rfl rfl ?_; clear hC a; intro a hC
      refine L.pu hC rfl rfl (fun _ => All.nil) rfl rfl ?_; clear hC a; intro a hC
      refine L.nil ?_
      refine hk7 _ _ ?_; clear hk7; try clear k7
      refine W.ret ?_
      refine retl hC rfl (.tmp rfl (.tmp rfl (.tmp rfl .nil))) rfl ?_
      exact ⟨(by unfold roundR; rw [if_neg (nt h1), if_pos h2]; try rfl), hC.frm⟩
    ·
      have he := round_each h1 h2
      have hs0 := round_size h1
      refine W.skip ?_
      refine hk5 _ _ ?_; clear hk5; try clear k5
      refine W.seqk fun k8 hk8 => ?_
      replace hC := hC.del 6
      replace hC := hC.del 7
      replace hC := hC.del 8
      refine W.drawD hC Try.mixed rfl rfl ?_
      apply DRN.cons (.det _ _) rfl
      · intro a w hC
        refine L.pu hC rfl rfl (fun _ => All.nil) rfl rfl ?_; clear hC a; intro a hC
        exact L.nil ⟨⟨_, [], hC⟩, Frm.refl _ _⟩
      apply DRN.cons (.det _ _) rfl
      · intro a w hC
        refine L.pu hC rfl rfl (fun _ => All.nil) rfl rfl ?_; clear hC a; intro a hC
        exact L.nil ⟨⟨_, [], hC⟩, Frm.refl _ _⟩
      apply DRN.cons (.det _ _) rfl
      · intro a w hC
        refine L.pu hC rfl rfl (fun _ => All.nil) rfl rfl ?_; clear hC a; intro a hC
        exact L.nil ⟨⟨_, [], hC⟩, Frm.refl _ _⟩
      apply DRN.cons (.det _ _) rfl
      · intro a w hC
        refine L.bin hC rfl rfl rfl rfl (fun _ => All.nil) (fun _ => All.nil) (fun hg => run_quo hs0 _) rfl rfl ?_; clear hC a; intro a hC
        exact L.nil ⟨⟨_, [], hC⟩, Frm.refl _ _⟩
      apply DRN.cons (.det _ _) rfl
      · intro a w hC
        refine L.bin hC rfl rfl rfl rfl (fun _ => All.nil) (fun _ => All.nil) (fun hg => run_quo he _) rfl rfl ?_; clear hC a; intro a hC
        exact L.nil ⟨⟨_, [], hC⟩, Frm.refl _ _⟩
      apply DRN.cons (.det _ _) rfl
      · intro a w hC
        refine L.pu hC rfl rfl (fun _ => All.nil) rfl rfl ?_; clear hC a; intro a hC
        exact L.nil ⟨⟨_, [], hC⟩, Frm.refl _ _⟩
      apply DRN.cons (.det _ _) rfl
      · intro a w hC
        refine L.pu hC rfl rfl (fun _ => All.nil) rfl rfl ?_; clear hC a; intro a hC
        exact L.nil ⟨⟨_, [], hC⟩, Frm.refl _ _⟩
      apply DRN.cons (.det _ _) rfl
      · intro a w hC
        refine L.pu hC rfl rfl (fun _ => All.nil) rfl rfl ?_; clear hC a; intro a hC
        exact L.nil ⟨⟨_, [], hC⟩, Frm.refl _ _⟩
      apply DRN.cons (.det _ _) rfl
      · intro a w hC
        refine L.bin hC rfl rfl rfl rfl (fun _ => All.nil) (fun _ => All.nil) (fun hg => run_quo hs0 _) rfl rfl ?_; clear hC a; intro a hC
        exact L.nil ⟨⟨_, [], hC⟩, Frm.refl _ _⟩
      apply DRN.cons (.det _ _) rfl
      · intro a w hC
        refine L.bin hC rfl rfl rfl rfl (fun _ => All.nil) (fun _ => All.nil) (fun hg => run_rem he _) rfl rfl ?_; clear hC a; intro a hC
        exact L.nil ⟨⟨_, [], hC⟩, Frm.refl _ _⟩
      apply DRN.cons (.det _ _) rfl
      · intro a w hC
        refine L.pu hC rfl rfl (fun _ => All.nil) rfl rfl ?_; clear hC a; intro a hC
        exact L.nil ⟨⟨_, [], hC⟩, Frm.refl _ _⟩
      apply DRN.cons (.det _ _) rfl
      · intro a w hC
        refine L.pu hC rfl rfl (fun _ => All.nil) rfl rfl ?_; clear hC a; intro a hC
        exact L.nil ⟨⟨_, [], hC⟩, Frm.refl _ _⟩
      apply DRN.cons (.det _ _) rfl
      · intro a w hC
        refine L.pu hC rfl rfl (fun _ => All.nil) rfl rfl ?_; clear hC a; intro a hC
        exact L.nil ⟨⟨_, [], hC⟩, Frm.refl _ _⟩
      refine DRN.nil (fun w' hF => ?_)
      intro a w hC hw
      subst hw
      refine hk8 _ _ ?_; clear hk8; try clear k8
      refine W.ret ?_
      refine retl hC rfl (.tmp rfl (.tmp rfl (.tmp rfl .nil))) rfl ?_
      exact ⟨(by unfold roundR; rw [if_neg (nt h1), if_neg (nt h2)]; try rfl), hC.frm⟩

theorem Of13_ok (v : Value) (ids : List Int) (client size seed : Int) (w0 : World) (hr : (rdR v intE ids).ok w0) : Calls Try.prog 48 #[v, .int .i64 client, .int .i64 size, .int .u64 seed] w0 fun e w' => ∃ r : Value, e = .returned (.tuple #[r, .int .i64 (ofR ids client size seed).2]) ∧ True ∧ Post Nob [ownR r 3 intE (ofR ids client size seed).1] w0 w' := by
  refine enter (μ := [rdR v intE ids]) (S := Nob) (vs := [v, .int .i64 client, .int .i64 size, .int .u64 seed]) Try.func48 rfl Try.ntmps48 rfl ⟨by simpa using hr, by simp⟩ (by simp [rdR]) (fun a hC => ?_)
  refine W.seqk fun k1 hk1 => ?_
  refine W.region ?_
  refine L.pu hC rfl rfl (fun _ => All.nil) rfl rfl ?_; clear hC a; intro a hC
  refine L.pu hC rfl rfl (fun _ => All.nil) rfl rfl ?_; clear hC a; intro a hC
  refine L.nil ?_
  refine hk1 _ _ ?_; clear hk1; try clear k1
  refine W.seqk fun k2 hk2 => ?_
  refine W.block ?_
  refine W.seqk fun k3 hk3 => ?_
  refine W.region ?_
  refine L.pu hC rfl rfl (fun _ => All.nil) rfl rfl ?_; clear hC a; intro a hC
  refine L.len hC rfl rfl rfl (fun _ => All.nil) (rd_form (hC.at m0)) Try.underlying37 rfl rfl ?_; clear hC a; intro a hC
  refine L.pu hC rfl rfl (fun _ => All.nil) rfl rfl ?_; clear hC a; intro a hC
  refine L.pu hC rfl rfl (fun _ => All.nil) rfl rfl ?_; clear hC a; intro a hC
  refine L.nil ?_
  refine hk3 _ _ ?_; clear hk3; try clear k3
  refine W.cond hC rfl (fun h1 => ?_) (fun h1 => ?_)
  ·
    refine W.seqk fun k4 hk4 => ?_
    refine W.region ?_
    refine L.pu hC rfl rfl (fun _ => All.nil) rfl rfl ?_; clear hC a; intro a hC
    refine L.pu hC rfl rfl (fun _ => All.nil) rfl rfl ?_; clear hC a; intro a hC
    refine L.nil ?_
    refine hk4 _ _ ?_; clear hk4; try clear k4
    refine W.ret ?_
    refine retl hC rfl (.tmp rfl (.tmp rfl .nil)) rfl ?_
    replace hC := (hC.drop).nilown (ty := 3) (E := intE)
    exact ⟨_, (by rw [ofr_a h1]; try rfl), trivial, by rw [ofr_a h1]; exact hC.toPost (by simp [ownR])⟩
  ·
    have h1' := of_decide_eq_false h1
    refine W.seqk fun k5 hk5 => ?_
    refine W.region ?_
    refine L.pu hC rfl rfl (fun _ => All.nil) rfl rfl ?_; clear hC a; intro a hC
    refine L.call hC rfl rfl Try.call93 rfl (fun _ => All.nil) (fun hg => rising13_ok _ _ _ (hC.at m0)) rfl rfl ?_; clear hC a; intro a w hF hC
    refine L.pu hC rfl rfl (fun _ => All.nil) rfl rfl ?_; clear hC a; intro a hC
    refine L.pu hC rfl rfl (fun _ => All.nil) rfl rfl ?_; clear hC a; intro a hC
    refine L.nil ?_
    refine hk5 _ _ ?_; clear hk5; try clear k5
    refine W.cond hC rfl (fun h2 => ?_) (fun h2 => ?_)
    ·
      refine W.seqk fun k6 hk6 => ?_
      refine W.region ?_
      refine L.pu hC rfl rfl (fun _ => All.nil) rfl rfl ?_; clear hC a; intro a hC
      refine L.pu hC rfl rfl (fun _ => All.nil) rfl rfl ?_; clear hC a; intro a hC
      refine L.nil ?_
      refine hk6 _ _ ?_; clear hk6; try clear k6
      refine W.ret ?_
      refine retl hC rfl (.tmp rfl (.tmp rfl .nil)) rfl ?_
      replace hC := (hC.drop).nilown (ty := 3) (E := intE)
      exact ⟨_, (by rw [ofr_b h1 h2]; try rfl), trivial, by rw [ofr_b h1 h2]; exact hC.toPost (by simp [ownR])⟩
    ·
      refine W.skip ?_
      refine hk2 _ _ ?_; clear hk2; try clear k2
      refine W.seqk fun k7 hk7 => ?_
      refine W.region ?_
      refine L.pu hC rfl rfl (fun _ => All.nil) rfl rfl ?_; clear hC a; intro a hC
      refine L.len hC rfl rfl rfl (fun _ => All.nil) (rd_form (hC.at m0)) Try.underlying37 rfl rfl ?_; clear hC a; intro a hC
      refine L.pu hC rfl rfl (fun _ => All.nil) rfl rfl ?_; clear hC a; intro a hC
      refine L.pu hC rfl rfl (fun _ => All.nil) rfl rfl ?_; clear hC a; intro a hC
      refine L.call hC rfl rfl Try.call94 rfl (fun _ => All.nil) (fun hg => roundr_ok _ _ _ _) rfl rfl ?_; clear hC a; intro a w hF hC
      refine L.pu hC rfl rfl (fun _ => All.nil) rfl rfl ?_; clear hC a; intro a hC
      refine L.pu hC rfl rfl (fun _ => All.nil) rfl rfl ?_; clear hC a; intro a hC
      refine L.pu hC rfl rfl (fun _ => All.nil) rfl rfl ?_; clear hC a; intro a hC
      refine L.pu hC rfl rfl (fun _ => All.nil) rfl rfl ?_; clear hC a; intro a hC
      refine L.pu hC rfl rfl (fun _ => All.nil) rfl rfl ?_; clear hC a; intro a hC
      refine L.pu hC rfl rfl (fun _ => All.nil) rfl rfl ?_; clear hC a; intro a hC
      refine L.pu hC rfl rfl (fun _ => All.nil) rfl rfl ?_; clear hC a; intro a hC
      refine L.nil ?_
      refine hk7 _ _ ?_; clear hk7; try clear k7
      refine W.seqk fun k8 hk8 => ?_
      refine W.seqk fun k9 hk9 => ?_
      refine W.region ?_
      refine L.pu hC rfl rfl (fun _ => All.nil) rfl rfl ?_; clear hC a; intro a hC
      refine L.pu hC rfl rfl (fun _ => All.nil) rfl rfl ?_; clear hC a; intro a hC
      refine L.nil ?_
      refine hk9 _ _ ?_; clear hk9; try clear k9
      refine W.cond hC rfl (fun h3 => ?_) (fun h3 => ?_)
      ·
        refine W.seqk fun k10 hk10 => ?_
        refine W.region ?_
        refine L.pu hC rfl rfl (fun _ => All.nil) rfl rfl ?_; clear hC a; intro a hC
        refine L.pu hC rfl rfl (fun _ => All.nil) rfl rfl ?_; clear hC a; intro a hC
        refine L.pu hC rfl rfl (fun _ => All.nil) rfl rfl ?_; clear hC a; intro a hC
        refine L.nil ?_
        refine hk10 _ _ ?_; clear hk10; try clear k10
        refine W.ret ?_
        refine retl hC rfl (.tmp rfl (.tmp rfl .nil)) rfl ?_
        replace hC := (hC.drop).nilown (ty := 3) (E := intE)
        exact ⟨_, (by rw [ofr_c h1 h2 h3]; try rfl), trivial, by rw [ofr_c h1 h2 h3]; exact hC.toPost (by simp [ownR])⟩
      ·
        have hf := of_facts (chk_good h1 h2) h3
        refine W.skip ?_
        refine hk8 _ _ ?_; clear hk8; try clear k8
        refine W.seqk fun k11 hk11 => ?_
        refine W.seqk fun k12 hk12 => ?_
        refine W.region ?_
        refine L.pu hC rfl rfl (fun _ => All.nil) rfl rfl ?_; clear hC a; intro a hC
        refine L.len hC rfl rfl rfl (fun _ => All.nil) (rd_form (hC.at m0)) Try.underlying37 rfl rfl ?_; clear hC a; intro a hC
        refine L.pu hC rfl rfl (fun _ => All.nil) rfl rfl ?_; clear hC a; intro a hC
        refine L.pu hC rfl rfl (fun _ => All.nil) rfl rfl ?_; clear hC a; intro a hC
        refine L.nil ?_
        refine hk12 _ _ ?_; clear hk12; try clear k12
        refine W.cond hC rfl (fun h4 => ?_) (fun h4 => ?_)
        ·
          refine W.seqk fun k13 hk13 => ?_
          refine W.region ?_
          refine L.pu hC rfl rfl (fun _ => All.nil) rfl rfl ?_; clear hC a; intro a hC
          refine L.nil ?_
          refine hk13 _ _ ?_; clear hk13; try clear k13
          refine W.seqk fun k14 hk14 => ?_
          refine W.region ?_
          refine L.pu hC rfl rfl (fun _ => All.nil) rfl rfl ?_; clear hC a; intro a hC
          refine L.pu hC rfl rfl (fun _ => All.nil) rfl rfl ?_; clear hC a; intro a hC
          replace hC := hC.nilown (ty := 3) (E := intE)
          refine L.appr hC rfl rfl rfl rfl (hC.at m1) Try.underlying37 Try.infoI3 rfl (by simp; omega) (by simp; omega) rfl rfl ?_; clear hC a; intro v1 a w hF hC
          refine L.pu hC rfl rfl (fun _ => All.nil) rfl rfl ?_; clear hC a; intro a hC
          refine L.pu hC rfl rfl (fun _ => All.nil) rfl rfl ?_; clear hC a; intro a hC
          refine L.nil ?_
          refine hk14 _ _ ?_; clear hk14; try clear k14
          refine W.ret ?_
          refine retl hC rfl (.tmp rfl (.tmp rfl .nil)) rfl ?_
          replace hC := hC.subl (.cons_cons _ (.cons _ .slnil))
          exact ⟨_, (by rw [ofr_d h1 h2 h3 h4]; try rfl), trivial, by rw [ofr_d h1 h2 h3 h4]; exact hC.toPost (by simp [ownR])⟩
        ·
          have h4' := of_decide_eq_false h4
          obtain ⟨hf1, hf2, hf3, hf4, hf5, hf6⟩ := hf
          have hmul : ((roundR (ids.length : Int) client size).2.1 + 1) * size = (roundR (ids.length : Int) client size).2.1 * size + size := by rw [Int.add_mul, Int.one_mul]
          obtain ⟨O, hO⟩ : ∃ x, (shufR (hints seed [(roundR (ids.length : Int) client size).1]) (ids.length : Int)).2.1 = x := ⟨_, rfl⟩
          have hOm := shuf_mem (hints seed [(roundR (ids.length : Int) client size).1]) (n := ids.length) (by omega)
          have hOl : O.length = ids.length := by have := (shufR_perm (hints seed [(roundR (ids.length : Int) client size).1]) (n := ids.length) (by omega)).length_eq; rw [hO, upI_len] at this; exact this
          rw [hO] at hOm
          obtain ⟨p, hp⟩ := Int.eq_ofNat_of_zero_le hf4
          have hf6' := hf6 (by omega)
          refine W.skip ?_
          refine hk11 _ _ ?_; clear hk11; try clear k11
          refine W.seqk fun k15 hk15 => ?_
          refine W.region ?_
          refine L.pu hC rfl rfl (fun _ => All.nil) rfl rfl ?_; clear hC a; intro a hC
          refine L.pu hC rfl rfl (fun _ => All.nil) rfl rfl ?_; clear hC a; intro a hC
          refine L.litsP hC rfl rfl rfl (fun _ => All.nil) Try.underlying37 Try.infoI3 rfl rfl rfl rfl rfl rfl rfl rfl ?_; clear hC a; intro a w v2 hF hC
          refine L.call hC rfl rfl Try.call96 rfl (fun _ => All.nil) (fun hg => hintsr_ok _ _ _ _ (hC.at m0 trivial)) rfl rfl ?_; clear hC a; intro a w hF hC
          refine L.pu hC rfl rfl (fun _ => All.nil) rfl rfl ?_; clear hC a; intro a hC
          refine L.len hC rfl rfl rfl (fun _ => All.nil) (rd_form (hC.at m1)) Try.underlying37 rfl rfl ?_; clear hC a; intro a hC
          refine L.callg [] hC rfl rfl Try.call95 rfl (shuffler_ok _ _ _) (fun b h => h.elim) rfl rfl ?_; clear hC a; intro rv a w hQ hC
          rw [hO] at hC
          refine L.pu hC rfl rfl (fun _ => All.nil) rfl rfl ?_; clear hC a; intro a hC
          refine L.pu hC rfl rfl (fun _ => All.nil) rfl rfl ?_; clear hC a; intro a hC
          refine L.pu hC rfl rfl (fun _ => All.nil) rfl rfl ?_; clear hC a; intro a hC
          refine L.pu hC rfl rfl (fun _ => All.nil) rfl rfl ?_; clear hC a; intro a hC
          refine L.pu hC rfl rfl (fun _ => All.nil) rfl rfl ?_; clear hC a; intro a hC
          refine L.pu hC rfl rfl (fun _ => All.nil) rfl rfl ?_; clear hC a; intro a hC
          refine L.pu hC rfl rfl (fun _ => All.nil) rfl rfl ?_; clear hC a; intro a hC
          refine L.nil ?_
          refine hk15 _ _ ?_; clear hk15; try clear k15
          refine W.seqk fun k16 hk16 => ?_
          refine W.region ?_
          refine L.pu hC rfl rfl (fun _ => All.nil) rfl rfl ?_; clear hC a; intro a hC
          refine L.nil ?_
          refine hk16 _ _ ?_; clear hk16; try clear k16
          refine W.seqk fun k17 hk17 => ?_
          refine W.seqk fun k18 hk18 => ?_
          refine W.region ?_
          refine L.pu hC rfl rfl (fun _ => All.nil) rfl rfl ?_; clear hC a; intro a hC
          refine L.nil ?_
          refine hk18 _ _ ?_; clear hk18; try clear k18
          refine W.block ?_
          replace hC := hC.nilown (ty := 3) (E := intE)
          replace hC := hC.subl (.cons_cons _ (.cons_cons _ (.cons _ (.cons_cons _ .slnil))))
          replace hC := hC.fr2
          replace hC := hC.fr2
          replace hC := hC.fr2
          refine W.loop (fun (gst : Nat × Value × List Int) a w' => match gst with | ⟨j, ov, outs⟩ => ((j : Int) ≤ size) ∧ (outs = ((O.drop p).take j).map fun i => ids[i.toNat]!) ∧ Conf 78 Nob w0 [(18, (none, .int .i64 (j : Int))), (17, (none, ov)), (0, (none, v)), (15, (none, rv)), (11, (none, .int .i64 (roundR (ids.length : Int) client size).2.1)), (2, (none, .int .i64 size))] [ownR ov 3 intE outs, ownR rv 3 intE O, rdR v intE ids] a w') (fun (gst : Nat × Value × List Int) => match gst with | ⟨j, ov, outs⟩ => size.toNat - j) (0, .slice none 0 0, []) ?_ ?_
          · exact ⟨by simp; omega, rfl, hC.keep ⟨rfl, rfl, rfl, rfl, rfl, rfl, trivial⟩⟩
          · rintro ⟨j, ov, outs⟩ a w ⟨hj, ho, hC⟩
            have hol : outs.length = j := by rw [ho]; simp; omega
            refine W.seqk fun k19 hk19 => ?_
            refine W.seqk fun k20 hk20 => ?_
            refine W.region ?_
            refine L.pu hC rfl rfl (fun _ => All.nil) rfl rfl ?_; clear hC a; intro a hC
            refine L.pu hC rfl rfl (fun _ => All.nil) rfl rfl ?_; clear hC a; intro a hC
            refine L.pu hC rfl rfl (fun _ => All.nil) rfl rfl ?_; clear hC a; intro a hC
            refine L.nil ?_
            refine hk20 _ _ ?_; clear hk20; try clear k20
            refine W.cond hC rfl (fun h5 => ?_) (fun h5 => ?_)
            ·
              have h5 := of_decide_eq_true h5
              refine W.skip ?_
              refine hk19 _ _ ?_; clear hk19; try clear k19
              refine W.seqk fun k21 hk21 => ?_
              refine W.block ?_
              refine W.region ?_
              refine L.pu hC rfl rfl (fun _ => All.nil) rfl rfl ?_; clear hC a; intro a hC
              refine L.pu hC rfl rfl (fun _ => All.nil) rfl rfl ?_; clear hC a; intro a hC
              refine L.pu hC rfl rfl (fun _ => All.nil) rfl rfl ?_; clear hC a; intro a hC
              refine L.pu hC rfl rfl (fun _ => All.nil) rfl rfl ?_; clear hC a; intro a hC
              refine L.pu hC rfl rfl (fun _ => All.nil) rfl rfl ?_; clear hC a; intro a hC
              refine L.pu hC rfl rfl (fun _ => All.nil) rfl rfl ?_; clear hC a; intro a hC
              refine L.pu hC rfl rfl (fun _ => All.nil) rfl rfl ?_; clear hC a; intro a hC
              refine L.pu hC rfl rfl (fun _ => All.nil) rfl rfl ?_; clear hC a; intro a hC
              replace hC := hC.slot (d := 69) (geti (b := ((p + j : Nat) : Int)) rfl (by rw [hp, w64 (x := (p : Int)) (by omega), w64 (by omega)]; rfl))
              have hmm := hOm _ (bang_mem' (l := O) (j := p + j) (by omega))
              refine L.ixo hC rfl rfl rfl rfl m1 (fun _ => All.nil) (fun _ => All.nil) Try.underlying37 Try.sizeOf3 (fun _ => by omega) rfl rfl ?_; clear hC a; intro a hC
              refine L.ldx hC rfl rfl rfl rfl (fun _ => All.nil) (fun hg => own_bang hC m1 (by omega) _) Try.isAgg3 rfl rfl rfl ?_; clear hC a; intro a hC
              refine L.ixr hC rfl rfl rfl rfl m2 (fun _ => All.nil) (fun _ => All.nil) Try.underlying37 Try.sizeOf3 (fun _ => hmm) rfl rfl ?_; clear hC a; intro a hC
              refine L.ldx hC rfl rfl rfl rfl (fun _ => All.nil) (fun hg => rd_bang hC m2 (by simp only [Int.toNat_natCast]; omega) _) Try.isAgg3 rfl rfl rfl ?_; clear hC a; intro a hC
              refine L.litsP hC rfl rfl rfl (fun _ => All.nil) Try.underlying37 Try.infoI3 rfl rfl rfl rfl rfl rfl rfl rfl ?_; clear hC a; intro a w v12 hF hC
              replace hC := hC.fr1
              refine L.appr hC rfl rfl rfl rfl (hC.at m1 trivial) Try.underlying37 Try.infoI3 rfl (by simp; omega) (by simp; omega) rfl rfl ?_; clear hC a; intro v4 a w hF hC
              refine L.pu hC rfl rfl (fun _ => All.nil) rfl rfl ?_; clear hC a; intro a hC
              refine L.nil ?_
              refine hk21 _ _ ?_; clear hk21; try clear k21
              refine W.region ?_
              refine L.pu hC rfl rfl (fun _ => All.nil) rfl rfl ?_; clear hC a; intro a hC
              refine L.pu hC rfl rfl (fun _ => All.nil) rfl rfl ?_; clear hC a; intro a hC
              refine L.pu hC rfl rfl (fun _ => All.nil) rfl rfl ?_; clear hC a; intro a hC
              refine L.nil ?_
              replace hC := hC.subl (.cons_cons _ (.cons _ (.cons_cons _ (.cons_cons _ .slnil))))
              replace hC := hC.fr2
              replace hC := hC.fr2
              replace hC := hC.fr2
              exact ⟨(j + 1, v4, outs ++ [ids[(O[p + j]!).toNat]!]), ⟨by omega, by rw [ho, ofx_step (by omega)], hC.keep ⟨geti rfl (w64 (by omega)), rfl, rfl, rfl, rfl, rfl, trivial⟩⟩, by first | omega | (dsimp only; omega)⟩
            ·
              have h5 := of_decide_eq_false h5
              refine W.exit ?_
              refine Kb.here ?_
              refine hk17 _ _ ?_; clear hk17; try clear k17
              refine W.seqk fun k22 hk22 => ?_
              refine W.region ?_
              refine L.pu hC rfl rfl (fun _ => All.nil) rfl rfl ?_; clear hC a; intro a hC
              refine L.callg [] hC rfl rfl Try.call97 rfl (sorted13_ok _ outs _ (own_rd (hC.at m0)) (by omega)) (fun b h => h.elim) rfl rfl ?_; clear hC a; intro sv a w hQ hC
              refine L.pu hC rfl rfl (fun _ => All.nil) rfl rfl ?_; clear hC a; intro a hC
              refine L.pu hC rfl rfl (fun _ => All.nil) rfl rfl ?_; clear hC a; intro a hC
              refine L.nil ?_
              refine hk22 _ _ ?_; clear hk22; try clear k22
              refine W.ret ?_
              have e : ofR ids client size seed = (sortI outs, 0) := ofr_e h1 h2 h3 h4 hp hO (by omega) ho
              refine retl hC rfl (.tmp rfl (.tmp rfl .nil)) rfl ?_
              replace hC := hC.subl (.cons_cons _ (.cons _ (.cons _ (.cons _ .slnil))))
              exact ⟨_, (by rw [e]; try rfl), trivial, by rw [e]; exact hC.toPost (by simp [ownR])⟩

theorem copyI_ok (v : Value) (l : List Int) (w0 : World) (hr : (rdR v intE l).ok w0) (hl : l.length * 8 ≤ 140737488355328) : Calls Try.prog 47 #[v] w0 fun e w' => ∃ r : Value, e = .returned r ∧ True ∧ Post Nob [ownR r 3 intE l] w0 w' := by
  have hlen := rd_lt hr
  refine enter (μ := [rdR v intE l]) (S := Nob) (vs := [v]) Try.func47 rfl Try.ntmps47 rfl ⟨by simpa using hr, by simp⟩ (by simp [rdR]) (fun a hC => ?_)
  refine W.seqk fun k1 hk1 => ?_
  refine W.region ?_
  refine L.pu hC rfl rfl (fun _ => All.nil) rfl rfl ?_; clear hC a; intro a hC
  refine L.nil ?_
  refine hk1 _ _ ?_; clear hk1; try clear k1
  refine W.seqk fun k2 hk2 => ?_
  refine W.region ?_
  refine L.pu hC rfl rfl (fun _ => All.nil) rfl rfl ?_; clear hC a; intro a hC
  refine L.nil ?_
  refine hk2 _ _ ?_; clear hk2; try clear k2
  refine W.seqk fun k3 hk3 => ?_
  refine W.region ?_
  refine L.pu hC rfl rfl (fun _ => All.nil) rfl rfl ?_; clear hC a; intro a hC
  refine L.pu hC rfl rfl (fun _ => All.nil) rfl rfl ?_; clear hC a; intro a hC
  replace hC := hC.nilown (ty := 3) (E := intE)
  refine L.appr hC rfl rfl rfl rfl (hC.at m1) Try.underlying37 Try.infoI3 rfl (by simp; omega) (by simp; omega) rfl rfl ?_; clear hC a; intro v1 a w hF hC
  refine L.pu hC rfl rfl (fun _ => All.nil) rfl rfl ?_; clear hC a; intro a hC
  refine L.nil ?_
  refine hk3 _ _ ?_; clear hk3; try clear k3
  refine W.ret ?_
  refine rets hC rfl (.tmp rfl .nil) ?_
  replace hC := hC.subl (.cons_cons _ (.cons _ .slnil))
  exact ⟨_, rfl, trivial, hC.toPost (by simp [ownR])⟩

theorem own13_law (v : Value) (ids : List Int) (client size seed : Int) (w0 : World) (hr : (rdR v intE ids).ok w0) (hz : ids.length * 8 ≤ 140737488355328) : Calls Try.prog 11 #[v, .int .i64 client, .int .i64 size, .int .u64 seed] w0 fun e w' => e = .returned (.bool true) ∧ Frm Nob w0 w' := by
  have hlen := rd_lt hr
  refine enter (μ := [rdR v intE ids]) (S := Nob) (vs := [v, .int .i64 client, .int .i64 size, .int .u64 seed]) Try.func11 rfl Try.ntmps11 rfl ⟨by simpa using hr, by simp⟩ (by simp [rdR]) (fun a hC => ?_)
  refine W.seqk fun k1 hk1 => ?_
  refine W.region ?_
  refine L.pu hC rfl rfl (fun _ => All.nil) rfl rfl ?_; clear hC a; intro a hC
  refine L.nil ?_
  refine hk1 _ _ ?_; clear hk1; try clear k1
  refine W.seqk fun k2 hk2 => ?_
  refine W.seqk fun k3 hk3 => ?_
  refine W.region ?_
  refine L.call hC rfl rfl Try.call42 rfl (fun _ => All.nil) (fun hg => alive13_ok _) rfl rfl ?_; clear hC a; intro a w hF hC
  refine L.pu hC rfl rfl (fun _ => All.nil) rfl rfl ?_; clear hC a; intro a hC
  refine L.nil ?_
  refine hk3 _ _ ?_; clear hk3; try clear k3
  refine W.cond hC rfl (fun h1 => ?_) (fun h1 => ?_)
  ·
    exact absurd h1 (by simp)
  ·
    refine W.skip ?_
    refine hk2 _ _ ?_; clear hk2; try clear k2
    refine W.seqk fun k4 hk4 => ?_
    refine W.region ?_
    refine L.pu hC rfl rfl (fun _ => All.nil) rfl rfl ?_; clear hC a; intro a hC
    refine L.callg [] hC rfl rfl Try.call47 rfl (copyI_ok v ids _ (hC.at m0) hz) (fun b h => h.elim) rfl rfl ?_; clear hC a; intro cv a w hQ hC
    refine L.pu hC rfl rfl (fun _ => All.nil) rfl rfl ?_; clear hC a; intro a hC
    refine L.nil ?_
    refine hk4 _ _ ?_; clear hk4; try clear k4
    refine W.seqk fun k5 hk5 => ?_
    refine W.region ?_
    refine L.pu hC rfl rfl (fun _ => All.nil) rfl rfl ?_; clear hC a; intro a hC
    refine L.pu hC rfl rfl (fun _ => All.nil) rfl rfl ?_; clear hC a; intro a hC
    refine L.pu hC rfl rfl (fun _ => All.nil) rfl rfl ?_; clear hC a; intro a hC
    refine L.pu hC rfl rfl (fun _ => All.nil) rfl rfl ?_; clear hC a; intro a hC
    refine L.callg [] hC rfl rfl Try.call43 rfl (Of_ok cv ids client size seed _ (own_rd (hC.at m0))) (fun b h => h.elim) rfl rfl ?_; clear hC a; intro ov a w hQ hC
    refine L.pu hC rfl rfl (fun _ => All.nil) rfl rfl ?_; clear hC a; intro a hC
    refine L.pu hC rfl rfl (fun _ => All.nil) rfl rfl ?_; clear hC a; intro a hC
    refine L.pu hC rfl rfl (fun _ => All.nil) rfl rfl ?_; clear hC a; intro a hC
    refine L.pu hC rfl rfl (fun _ => All.nil) rfl rfl ?_; clear hC a; intro a hC
    refine L.pu hC rfl rfl (fun _ => All.nil) rfl rfl ?_; clear hC a; intro a hC
    refine L.nil ?_
    refine hk5 _ _ ?_; clear hk5; try clear k5
    refine W.seqk fun k6 hk6 => ?_
    refine W.seqk fun k7 hk7 => ?_
    refine W.region ?_
    refine L.pu hC rfl rfl (fun _ => All.nil) rfl rfl ?_; clear hC a; intro a hC
    refine L.nil ?_
    refine hk7 _ _ ?_; clear hk7; try clear k7
    refine W.block ?_
    replace hC := hC.fr2
    replace hC := hC.fr2
    replace hC := hC.fr2
    refine W.loop (fun (gst : Nat × List Int) a w' => match gst with | ⟨j, m⟩ => (j ≤ m.length) ∧ (m.length = ids.length) ∧ Conf 53 Nob w0 [(12, (none, .int .i64 (j : Int))), (9, (none, cv)), (10, (none, ov)), (11, (none, .int .i64 (ofR ids client size seed).2)), (0, (none, v)), (1, (none, .int .i64 client)), (2, (none, .int .i64 size)), (3, (none, .int .u64 seed))] [ownR ov 3 intE (ofR ids client size seed).1, ownR cv 3 intE m, rdR v intE ids] a w') (fun (gst : Nat × List Int) => match gst with | ⟨j, m⟩ => ids.length - j) (0, ids) ?_ ?_
    · exact ⟨Nat.zero_le _, rfl, hC.keep ⟨rfl, rfl, rfl, rfl, rfl, rfl, rfl, rfl, trivial⟩⟩
    · rintro ⟨j, m⟩ a w ⟨hj, hm, hC⟩
      refine W.seqk fun k8 hk8 => ?_
      refine W.seqk fun k9 hk9 => ?_
      refine W.region ?_
      refine L.pu hC rfl rfl (fun _ => All.nil) rfl rfl ?_; clear hC a; intro a hC
      refine L.pu hC rfl rfl (fun _ => All.nil) rfl rfl ?_; clear hC a; intro a hC
      refine L.len hC rfl rfl rfl (fun _ => All.nil) (own_form (hC.at m1)) Try.underlying37 rfl rfl ?_; clear hC a; intro a hC
      refine L.pu hC rfl rfl (fun _ => All.nil) rfl rfl ?_; clear hC a; intro a hC
      refine L.nil ?_
      refine hk9 _ _ ?_; clear hk9; try clear k9
      refine W.cond hC rfl (fun h2 => ?_) (fun h2 => ?_)
      ·
        have h2 := of_decide_eq_true h2
        refine W.skip ?_
        refine hk8 _ _ ?_; clear hk8; try clear k8
        refine W.seqk fun k10 hk10 => ?_
        refine W.block ?_
        refine W.region ?_
        refine L.pu hC rfl rfl (fun _ => All.nil) rfl rfl ?_; clear hC a; intro a hC
        refine L.pu hC rfl rfl (fun _ => All.nil) rfl rfl ?_; clear hC a; intro a hC
        refine L.ixo hC rfl rfl rfl rfl m1 (fun _ => All.nil) (fun _ => All.nil) Try.underlying37 Try.sizeOf3 (fun _ => by omega) rfl rfl ?_; clear hC a; intro a hC
        replace hC := hC.fr1
        refine L.ste hC rfl rfl rfl rfl rfl Try.sizeOf3 rfl rfl rfl (by simp only [Int.toNat_natCast]; omega) (Nat.le_of_ble_eq_true rfl) (x' := (77 : Int)) rfl rfl ?_; clear hC a; intro a w hF hC
        refine L.nil ?_
        refine hk10 _ _ ?_; clear hk10; try clear k10
        refine W.region ?_
        refine L.pu hC rfl rfl (fun _ => All.nil) rfl rfl ?_; clear hC a; intro a hC
        refine L.pu hC rfl rfl (fun _ => All.nil) rfl rfl ?_; clear hC a; intro a hC
        refine L.pu hC rfl rfl (fun _ => All.nil) rfl rfl ?_; clear hC a; intro a hC
        refine L.nil ?_
        replace hC := hC.fr2
        replace hC := hC.fr1
        replace hC := hC.fr2
        exact ⟨(j + 1, m.set j 77), ⟨by simp only [List.length_set]; omega, by simp only [List.length_set]; omega, hC.keep ⟨geti rfl (w64 (by omega)), rfl, rfl, rfl, rfl, rfl, rfl, rfl, trivial⟩⟩, by first | omega | (dsimp only; omega)⟩
      ·
        have h2 := of_decide_eq_false h2
        refine W.exit ?_
        refine Kb.here ?_
        refine hk6 _ _ ?_; clear hk6; try clear k6
        refine W.seqk fun k11 hk11 => ?_
        refine W.region ?_
        refine L.pu hC rfl rfl (fun _ => All.nil) rfl rfl ?_; clear hC a; intro a hC
        refine L.pu hC rfl rfl (fun _ => All.nil) rfl rfl ?_; clear hC a; intro a hC
        refine L.pu hC rfl rfl (fun _ => All.nil) rfl rfl ?_; clear hC a; intro a hC
        refine L.pu hC rfl rfl (fun _ => All.nil) rfl rfl ?_; clear hC a; intro a hC
        refine L.callg [] hC rfl rfl Try.call48 rfl (Of13_ok v ids client size seed _ (hC.at m2)) (fun b h => h.elim) rfl rfl ?_; clear hC a; intro pv a w hQ hC
        refine L.pu hC rfl rfl (fun _ => All.nil) rfl rfl ?_; clear hC a; intro a hC
        refine L.pu hC rfl rfl (fun _ => All.nil) rfl rfl ?_; clear hC a; intro a hC
        refine L.pu hC rfl rfl (fun _ => All.nil) rfl rfl ?_; clear hC a; intro a hC
        refine L.pu hC rfl rfl (fun _ => All.nil) rfl rfl ?_; clear hC a; intro a hC
        refine L.pu hC rfl rfl (fun _ => All.nil) rfl rfl ?_; clear hC a; intro a hC
        refine L.nil ?_
        refine hk11 _ _ ?_; clear hk11; try clear k11
        refine W.seqk fun k12 hk12 => ?_
        refine W.region ?_
        refine L.pu hC rfl rfl (fun _ => All.nil) rfl rfl ?_; clear hC a; intro a hC
        refine L.pu hC rfl rfl (fun _ => All.nil) rfl rfl ?_; clear hC a; intro a hC
        refine L.call hC rfl rfl Try.call19 rfl (fun _ => All.nil) (fun hg => sameI_ok ov pv _ _ _ (own_rd (hC.at m1)) (own_rd (hC.at m0))) rfl rfl ?_; clear hC a; intro a w hF hC
        refine L.pu hC rfl rfl (fun _ => All.nil) rfl rfl ?_; clear hC a; intro a hC
        refine L.pu hC rfl rfl (fun _ => All.nil) rfl rfl ?_; clear hC a; intro a hC
        refine L.call hC rfl rfl Try.call44 rfl (fun hg => by first | (simp only [Gt, Bool.and_eq_true] at hg; simp only [All, List.cons_append, List.nil_append, List.append_nil, List.mem_cons, List.not_mem_nil, or_false, forall_eq_or_imp, forall_eq, Bool.and_eq_true, hg, Bool.not_false, Bool.not_true, and_self]; done) | (simp only [Gt] at hg; simp only [All, List.cons_append, List.nil_append, List.append_nil, List.mem_cons, List.not_mem_nil, or_false, forall_eq_or_imp, forall_eq, hg, and_self])) (fun hg => num13_ok _ _) rfl rfl ?_; clear hC a; intro a w hF hC
        refine L.pu hC rfl rfl (fun _ => All.nil) rfl rfl ?_; clear hC a; intro a hC
        refine L.pu hC rfl rfl (fun hg => by first | (simp only [Gt, Bool.and_eq_true] at hg; simp only [All, List.cons_append, List.nil_append, List.append_nil, List.mem_cons, List.not_mem_nil, or_false, forall_eq_or_imp, forall_eq, Bool.and_eq_true, hg, Bool.not_false, Bool.not_true, and_self]; done) | (simp only [Gt] at hg; simp only [All, List.cons_append, List.nil_append, List.append_nil, List.mem_cons, List.not_mem_nil, or_false, forall_eq_or_imp, forall_eq, hg, and_self])) rfl rfl ?_; clear hC a; intro a hC
        refine L.and hC rfl rfl rfl rfl (fun _ => All.nil) (fun _ hp => by first | (simp only [All, List.cons_append, List.nil_append, List.append_nil, List.mem_cons, List.not_mem_nil, or_false, forall_eq_or_imp, forall_eq, Bool.and_eq_true, hp, Bool.not_false, Bool.not_true, and_self]; done) | simp [All, hp]) rfl rfl ?_; clear hC a; intro a hC
        refine L.pu hC rfl rfl (fun _ => All.nil) rfl rfl ?_; clear hC a; intro a hC
        refine L.nil ?_
        refine hk12 _ _ ?_; clear hk12; try clear k12
        refine W.ret ?_
        refine rets hC rfl (.tmp rfl .nil) ?_
        refine ⟨?_, hC.frm⟩
        refine rb ?_
        simp

end Go.Proofs.E
