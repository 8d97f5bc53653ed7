/- The page's ring is built. -/
import Derived.Test.YtgekiiildobfkabbQ6
set_option linter.unusedVariables false
set_option linter.unusedSimpArgs false
namespace Go.Proofs.E
open Go.RowKit Go.Sort Go.Proofs
section
variable {P : Program} {ops : Array Oper} {o : Oper} {rest : List Oper} {K : Kn} {a : Act} {w : World} {n : Nat} {S : Nat → Prop} {w0 : World} {ρ : Env} {μ : List Res}
/-- A new variable: its block stands behind all others. -/
theorem L.allocN (hC : Conf n S w0 ρ μ a w) (hg : o.guard = none) {t : TypeId} (ho : o.op = .alloc t) {v : Value} (hz : ∀ w, (zeroValue t).run P w = .ok v w) {us : List Value} (hu : cellsL v = us) {d : Nat} (hd : o.dst = some d) (hn : Nat.blt d n = true)
    (k : ∀ a w', Frm Nob w w' → Conf n S w0 ((d, (none, .pointer (some ⟨w.heap.size, 0, none⟩))) :: ρ) (blkR w.heap.size us t :: μ) a w' → L P ops rest K a w') : L P ops (o :: rest) K a w := by
  subst hu
  refine L.value (by unfold Region.wanted; rw [hg]) (v := .pointer (some ⟨w.heap.size, 0, none⟩)) (w' := w.alloc (.cells (cellsL v).toArray t)) ?_ ?_
  · unfold execOp
    simp [ho, Instr.alloc, hz, newVar, newRow, ← cellsL_eq]
  · rw [hd]
    have hC' := hC.new (cellsL v) t
    exact k _ _ (Frm.alloc _ _) ⟨hC'.env.slot hn (none, _) rfl, hC'.mem, hC'.frm, hC'.own⟩
theorem FrmF.new {r : Res} {μ : List Res} {w w' : World} (h : Frm Nob w w') (hb : ∀ b, r.fp b → w.heap.size ≤ b) : FrmF μ (r :: μ) w w' :=
  ⟨h.mono (fun _ _ hf => hf.elim), fun b hlt hn s hs hf => by
    rcases List.mem_cons.1 hs with rfl | hs
    · exact absurd (hb b hf) (by omega)
    · exact hn s hs hf⟩
end
/-- What cannot be. -/
def noB : Res where
  fp := Nob
  rp := Nob
  ok _ := False
  st := fun _ _ h _ => h
  bd := fun _ h _ _ => h.elim
def ptrR (γ : Value) (vs : List Value) (ty : TypeId) : Res := match γ with
  | .pointer (some ⟨b, 0, none⟩) => blkR b vs ty
  | _ => noB
theorem ptrR_form {γ : Value} {vs : List Value} {ty : TypeId} {w : World} (h : (ptrR γ vs ty).ok w) : ∃ b, γ = .pointer (some ⟨b, 0, none⟩) := by
  unfold ptrR at h
  split at h
  · exact ⟨_, rfl⟩
  · exact h.elim
section
variable {p : Int} {l m : List (Int × Int)} {x : Int × Int} {i k q : Nat}
theorem tot_step (hk : Fine l) (hp : 1 ≤ p ∧ p ≤ 64) (hi : i < l.length) : IntKind.i64.wrap (((allP p (l.take i)).length : Int) + IntKind.i64.wrap (p * l[i]!.2)) = ((allP p (l.take (i + 1))).length : Int) := by
  obtain ⟨N, hN, hN2⟩ := wide_N hk hp hi
  have h1 := allP_len hk hp (l := l) (i := i)
  rw [hN, ← allP_step hi hN, List.length_append, ptsN_len, w64 (by omega)]
  omega
theorem wq (h : 0 < q) (hb : q ≤ 1000000) : (IntKind.i64.wrap ((q : Int) - 1)).toNat = q - 1 := by
  rw [w64 (by omega)]; omega
theorem beh_at (h : (decide ((q : Int) > 0) && behR m[(IntKind.i64.wrap ((q : Int) - 1)).toNat]! x) = true) (hb : q ≤ 1000000) : 0 < q ∧ behR m[q - 1]! x = true := by
  rw [Bool.and_eq_true, decide_eq_true_eq] at h
  have h0 : 0 < q := by omega
  rw [wq h0 hb] at h
  exact ⟨h0, h.2⟩
theorem beh_not (h : (decide ((q : Int) > 0) && behR m[(IntKind.i64.wrap ((q : Int) - 1)).toNat]! x) = false) (hb : q ≤ 1000000) : q = 0 ∨ behR m[q - 1]! x = false := by
  rw [Bool.and_eq_false_iff, decide_eq_false_iff_not] at h
  by_cases h0 : 0 < q
  · rw [wq h0 hb] at h
    rcases h with h | h
    · omega
    · exact .inr h
  · exact .inl (by omega)
def shiftS (m : List (Int × Int)) (x : Int × Int) (k : Nat) : List (Int × Int) := m.take k ++ (if k < m.length then m[k]! else x) :: m.drop k
theorem shift_top : m ++ [x] = shiftS m x m.length := by
  unfold shiftS
  rw [List.take_length, if_neg (by omega), List.drop_length]
theorem shift_len (hk : k ≤ m.length) : (shiftS m x k).length = m.length + 1 := by
  unfold shiftS
  simp; omega
theorem shift_end (hk : k ≤ m.length) : (shiftS m x k).set k x = m.take k ++ x :: m.drop k := by
  unfold shiftS
  rw [List.set_append_right _ _ (by rw [List.length_take]; omega)]
  have : k - (m.take k).length = 0 := by rw [List.length_take]; omega
  rw [this]; rfl
theorem shift_step (h0 : 0 < k) (hk : k ≤ m.length) (hb : k ≤ 1000000) : (shiftS m x k).set k (shiftS m x k)[(IntKind.i64.wrap ((k : Int) - 1)).toNat]! = shiftS m x (k - 1) := by
  rw [wq h0 hb]
  have hk1 : k - 1 < m.length := by omega
  have e1 : (shiftS m x k)[k - 1]! = m[k - 1]! := by
    have hl := shift_len (x := x) hk
    rw [bang (by omega), bang hk1]
    unfold shiftS
    rw [List.getElem_append_left (by simp; omega), List.getElem_take]
  rw [e1]
  have e2 := shift_end (x := m[k - 1]!) hk
  unfold shiftS at e2 ⊢
  rw [List.set_append_right _ _ (by rw [List.length_take]; omega)]
  have : k - (m.take k).length = 0 := by rw [List.length_take]; omega
  rw [this]
  rw [if_pos hk1]
  have e3 : m.take k = m.take (k - 1) ++ [m[k - 1]!] := by
    have : k = k - 1 + 1 := by omega
    conv => lhs; rw [this]
    rw [List.take_add_one, List.getElem?_eq_getElem hk1, bang hk1]; rfl
  have e4 : m.drop (k - 1) = m[k - 1]! :: m.drop k := by
    rw [List.drop_eq_getElem_cons hk1, bang hk1]
    congr 2; omega
  rw [e3, e4, List.append_assoc]
  rfl
theorem beh_lt (x y : Int × Int) : behR x y = ltOf ordI y x := by
  rw [lt_ord]
  unfold behR
  rw [Bool.eq_iff_iff]
  simp only [Bool.or_eq_true, Bool.and_eq_true, decide_eq_true_eq, beq_iff_eq]
  constructor
  · rintro (h | ⟨h1, h2⟩)
    · exact .inl h
    · exact .inr ⟨h1.symm, h2⟩
  · rintro (h | ⟨h1, h2⟩)
    · exact .inl h
    · exact .inr ⟨h1.symm, h2⟩
theorem sortP_pw (q : List (Int × Int)) : (sortP q).Pairwise fun a b => (!(ltOf ordI) b a) = true :=
  List.pairwise_mergeSort (le := fun x y : Int × Int => !(ltOf ordI) y x)
    (fun a b c h1 h2 => by
      rw [lt_ord] at *
      simp only [Bool.not_eq_true', decide_eq_false_iff_not] at *
      omega)
    (fun a b => by
      rw [lt_ord, lt_ord]
      simp only [Bool.or_eq_true, Bool.not_eq_true', decide_eq_false_iff_not]
      omega) q
theorem sortP_one {q m' : List (Int × Int)} (hp : m'.Perm q) (hs : m'.Pairwise fun a b => (!(ltOf ordI) b a) = true) : m' = sortP q := by
  refine List.Perm.eq_of_pairwise (le := fun x y => (!(ltOf ordI) y x) = true) ?_ hs (sortP_pw q) (hp.trans (sortP_perm q).symm)
  intro a b _ _ h1 h2
  simp only [Bool.not_eq_true'] at h1 h2
  exact tot_ord a b h2 h1
theorem ins_ok {t : List (Int × Int)} (hm : sortP t = m) (hq : q ≤ m.length) (h1 : ∀ k, q ≤ k → k < m.length → behR m[k]! x = true) (h2 : q = 0 ∨ behR m[q - 1]! x = false) : m.take q ++ x :: m.drop q = sortP (t ++ [x]) := by
  have hpm : m.Perm t := hm ▸ sortP_perm t
  have hpw : m.Pairwise fun a b => (!(ltOf ordI) b a) = true := hm ▸ sortP_pw t
  refine sortP_one ?_ ?_
  · refine (List.perm_middle).trans ?_
    rw [List.take_append_drop]
    exact ((List.perm_append_singleton x m).symm).trans (hpm.append_right [x])
  · have hpw' := hpw
    rw [← List.take_append_drop q m, List.pairwise_append] at hpw'
    obtain ⟨p1, p2, p3⟩ := hpw'
    rw [List.pairwise_append]
    refine ⟨p1, ?_, ?_⟩
    · rw [List.pairwise_cons]
      refine ⟨fun b hb => ?_, p2⟩
      obtain ⟨k, hk, rfl⟩ := List.getElem_of_mem hb
      have hk' : q + k < m.length := by simp at hk; omega
      have := h1 (q + k) (by omega) hk'
      rw [beh_lt, bang hk'] at this
      rw [List.getElem_drop, Bool.not_eq_true']
      rw [lt_ord] at *
      simp only [decide_eq_true_eq, decide_eq_false_iff_not] at *
      omega
    · intro a ha b hb
      rcases List.mem_cons.1 hb with rfl | hb
      · obtain ⟨k, hk, rfl⟩ := List.getElem_of_mem ha
        have hk' : k < q ∧ k < m.length := by simp at hk; omega
        rcases h2 with h2 | h2
        · omega
        · have hq1 : q - 1 < m.length := by omega
          rw [beh_lt, bang hq1] at h2
          rw [List.getElem_take, Bool.not_eq_true']
          by_cases he : k = q - 1
          · subst he; exact h2
          · have h3 := List.pairwise_iff_getElem.1 hpw k (q - 1) hk'.2 hq1 (by omega)
            rw [Bool.not_eq_true'] at h3
            exact swo_ord.ntrans _ _ _ h2 h3
      · exact p3 a ha b hb
end
theorem buildr_ok (p : Int) (v : Value) (l : List (Int × Int)) (w0 : World) (hr : (rdR v timE l).ok w0) : Calls Try.prog 8 #[.int .i64 p, v] w0 fun e w' => ∃ r : Value, e = .returned (.tuple #[r, .int .i64 (buildR p l).2]) ∧ True ∧ Post Nob [ownR r 30 pntE (buildR p l).1] w0 w' := by
  have hlen := rd_lt hr
  refine enter (μ := [rdR v timE l]) (S := Nob) (vs := [.int .i64 p, v]) Try.func8 rfl Try.ntmps8 rfl ⟨by simpa using hr, by simp⟩ (by simp [rdR]) (fun a hC => ?_)
  refine W.seqk fun k1 hk1 => ?_
  refine W.region ?_
  refine L.pu hC rfl rfl (fun _ => All.nil) rfl rfl ?_; clear hC a; intro a hC
  refine L.pu hC rfl rfl (fun _ => All.nil) rfl rfl ?_; clear hC a; intro a hC
  refine L.nil ?_
  refine hk1 _ _ ?_; clear hk1; try clear k1
  refine W.seqk fun k2 hk2 => ?_
  refine W.region ?_
  refine L.pu hC rfl rfl (fun _ => All.nil) rfl rfl ?_; clear hC a; intro a hC
  refine L.call hC rfl rfl Try.call14 rfl (fun _ => All.nil) (fun hg => chkr12_ok v l _ (hC.at m0)) rfl rfl ?_; clear hC a; intro a w hF hC
  refine L.pu hC rfl rfl (fun _ => All.nil) rfl rfl ?_; clear hC a; intro a hC
  refine L.nil ?_
  refine hk2 _ _ ?_; clear hk2; try clear k2
  refine W.seqk fun k3 hk3 => ?_
  refine W.block ?_
  refine W.seqk fun k4 hk4 => ?_
  refine W.region ?_
  refine L.pu hC rfl rfl (fun _ => All.nil) rfl rfl ?_; clear hC a; intro a hC
  refine L.pu hC rfl rfl (fun _ => All.nil) rfl rfl ?_; clear hC a; intro a hC
  refine L.pu hC rfl rfl (fun _ => All.nil) rfl rfl ?_; clear hC a; intro a hC
  refine L.nil ?_
  refine hk4 _ _ ?_; clear hk4; try clear k4
  refine W.cond hC rfl (fun h1 => ?_) (fun h1 => ?_)
  ·
    refine W.seqk fun k5 hk5 => ?_
    refine W.region ?_
    refine L.pu hC rfl rfl (fun _ => All.nil) rfl rfl ?_; clear hC a; intro a hC
    refine L.pu hC rfl rfl (fun _ => All.nil) rfl rfl ?_; clear hC a; intro a hC
    refine L.pu hC rfl rfl (fun _ => All.nil) rfl rfl ?_; clear hC a; intro a hC
    refine L.nil ?_
    refine hk5 _ _ ?_; clear hk5; try clear k5
    refine W.ret ?_
    refine retl hC rfl (.tmp rfl (.tmp rfl .nil)) rfl ?_
    replace hC := (hC.drop).nilown (ty := 30) (E := pntE)
    exact ⟨_, (by rw [build_a h1]; try rfl), trivial, by rw [build_a h1]; exact hC.toPost (by simp [ownR])⟩
  ·
    refine W.seqk fun k6 hk6 => ?_
    refine W.region ?_
    refine L.pu hC rfl rfl (fun _ => All.nil) rfl rfl ?_; clear hC a; intro a hC
    refine L.pu hC rfl rfl (fun _ => All.nil) rfl rfl ?_; clear hC a; intro a hC
    refine L.pu hC rfl rfl (fun _ => All.nil) rfl rfl ?_; clear hC a; intro a hC
    refine L.pu hC rfl rfl (fun _ => All.nil) rfl rfl ?_; clear hC a; intro a hC
    refine L.pu hC rfl rfl (fun hg => by first | (simp only [Gt, Bool.and_eq_true] at hg; simp only [All, List.cons_append, List.nil_append, List.append_nil, List.mem_cons, List.not_mem_nil, or_false, forall_eq_or_imp, forall_eq, Bool.and_eq_true, hg, Bool.not_false, Bool.not_true, and_self]; done) | (simp only [Gt] at hg; simp only [All, List.cons_append, List.nil_append, List.append_nil, List.mem_cons, List.not_mem_nil, or_false, forall_eq_or_imp, forall_eq, hg, and_self])) rfl rfl ?_; clear hC a; intro a hC
    refine L.or hC rfl rfl rfl rfl (fun _ => All.nil) (fun _ hp => by first | (simp only [All, List.cons_append, List.nil_append, List.append_nil, List.mem_cons, List.not_mem_nil, or_false, forall_eq_or_imp, forall_eq, Bool.and_eq_true, hp, Bool.not_false, Bool.not_true, and_self]; done) | simp [All, hp]) rfl rfl ?_; clear hC a; intro a hC
    refine L.pu hC rfl rfl (fun _ => All.nil) rfl rfl ?_; clear hC a; intro a hC
    refine L.nil ?_
    refine hk6 _ _ ?_; clear hk6; try clear k6
    refine W.cond hC rfl (fun h2 => ?_) (fun h2 => ?_)
    ·
      refine W.seqk fun k7 hk7 => ?_
      refine W.region ?_
      refine L.pu hC rfl rfl (fun _ => All.nil) rfl rfl ?_; clear hC a; intro a hC
      refine L.pu hC rfl rfl (fun _ => All.nil) rfl rfl ?_; clear hC a; intro a hC
      refine L.nil ?_
      refine hk7 _ _ ?_; clear hk7; try clear k7
      refine W.ret ?_
      refine retl hC rfl (.tmp rfl (.tmp rfl .nil)) rfl ?_
      replace hC := (hC.drop).nilown (ty := 30) (E := pntE)
      exact ⟨_, (by rw [build_b h1 h2]; try rfl), trivial, by rw [build_b h1 h2]; exact hC.toPost (by simp [ownR])⟩
    ·
      have hk := chkw_facts (l := l) (by simpa using h1)
      have hp : 1 ≤ p ∧ p ≤ 64 := by simp only [Bool.or_eq_false_iff, decide_eq_false_iff_not] at h2; omega
      refine W.skip ?_
      refine hk3 _ _ ?_; clear hk3; try clear k3
      refine W.seqk fun k8 hk8 => ?_
      refine W.region ?_
      refine L.pu hC rfl rfl (fun _ => All.nil) rfl rfl ?_; clear hC a; intro a hC
      refine L.nil ?_
      refine hk8 _ _ ?_; clear hk8; try clear k8
      refine W.seqk fun k9 hk9 => ?_
      refine W.seqk fun k10 hk10 => ?_
      refine W.region ?_
      refine L.pu hC rfl rfl (fun _ => All.nil) rfl rfl ?_; clear hC a; intro a hC
      refine L.nil ?_
      refine hk10 _ _ ?_; clear hk10; try clear k10
      refine W.block ?_
      refine W.loop (fun (i : Nat) a w' => (i ≤ l.length) ∧ Conf 116 Nob w0 [(8, (none, .int .i64 (i : Int))), (7, (none, .int .i64 ((allP p (l.take i)).length : Int))), (1, (none, v)), (0, (none, .int .i64 p))] [rdR v timE l] a w') (fun (i : Nat) => l.length - i) 0 ?_ ?_
      · exact ⟨Nat.zero_le _, hC.keep ⟨rfl, rfl, rfl, rfl, trivial⟩⟩
      · rintro i a w ⟨hi, hC⟩
        refine W.seqk fun k11 hk11 => ?_
        refine W.seqk fun k12 hk12 => ?_
        refine W.region ?_
        refine L.pu hC rfl rfl (fun _ => All.nil) rfl rfl ?_; clear hC a; intro a hC
        refine L.pu hC rfl rfl (fun _ => All.nil) rfl rfl ?_; clear hC a; intro a hC
        refine L.len hC rfl rfl rfl (fun _ => All.nil) (rd_form (hC.at m0)) Try.underlying22 rfl rfl ?_; clear hC a; intro a hC
        refine L.pu hC rfl rfl (fun _ => All.nil) rfl rfl ?_; clear hC a; intro a hC
        refine L.nil ?_
        refine hk12 _ _ ?_; clear hk12; try clear k12
        refine W.cond hC rfl (fun h3 => ?_) (fun h3 => ?_)
        ·
          have h3 := of_decide_eq_true h3
          refine W.skip ?_
          refine hk11 _ _ ?_; clear hk11; try clear k11
          refine W.seqk fun k13 hk13 => ?_
          refine W.block ?_
          refine W.region ?_
          refine L.pu hC rfl rfl (fun _ => All.nil) rfl rfl ?_; clear hC a; intro a hC
          refine L.pu hC rfl rfl (fun _ => All.nil) rfl rfl ?_; clear hC a; intro a hC
          refine L.pu hC rfl rfl (fun _ => All.nil) rfl rfl ?_; clear hC a; intro a hC
          refine L.pu hC rfl rfl (fun _ => All.nil) rfl rfl ?_; clear hC a; intro a hC
          refine L.ixr hC rfl rfl rfl rfl m0 (fun _ => All.nil) (fun _ => All.nil) Try.underlying22 Try.sizeOf54 (fun _ => by omega) rfl rfl ?_; clear hC a; intro a hC
          refine L.fae hC rfl rfl rfl (fun _ => All.nil) Try.underlying54 rfl Try.sizeOf3 rfl (fun hg => rd_some (hC.at m0) (by omega)) rfl rfl ?_; clear hC a; intro a hC
          refine L.ldx hC rfl rfl rfl rfl (fun _ => All.nil) (fun hg => rd_bang hC m0 (by omega) _) Try.isAgg3 rfl rfl rfl ?_; clear hC a; intro a hC
          refine L.pu hC rfl rfl (fun _ => All.nil) rfl rfl ?_; clear hC a; intro a hC
          refine L.pu hC rfl rfl (fun _ => All.nil) rfl rfl ?_; clear hC a; intro a hC
          refine L.pu hC rfl rfl (fun _ => All.nil) rfl rfl ?_; clear hC a; intro a hC
          refine L.nil ?_
          refine hk13 _ _ ?_; clear hk13; try clear k13
          refine W.region ?_
          refine L.pu hC rfl rfl (fun _ => All.nil) rfl rfl ?_; clear hC a; intro a hC
          refine L.pu hC rfl rfl (fun _ => All.nil) rfl rfl ?_; clear hC a; intro a hC
          refine L.pu hC rfl rfl (fun _ => All.nil) rfl rfl ?_; clear hC a; intro a hC
          refine L.nil ?_
          exact ⟨i + 1, ⟨by omega, hC.keep ⟨geti rfl (w64 (by omega)), geti rfl (tot_step hk hp (by omega)), rfl, rfl, trivial⟩⟩, by first | omega | (dsimp only; omega)⟩
        ·
          have h3 := of_decide_eq_false h3
          obtain rfl : i = l.length := by omega
          refine W.exit ?_
          refine Kb.here ?_
          refine hk9 _ _ ?_; clear hk9; try clear k9
          refine W.seqk fun k14 hk14 => ?_
          refine W.seqk fun k15 hk15 => ?_
          refine W.region ?_
          refine L.pu hC rfl rfl (fun _ => All.nil) rfl rfl ?_; clear hC a; intro a hC
          refine L.pu hC rfl rfl (fun _ => All.nil) rfl rfl ?_; clear hC a; intro a hC
          refine L.nil ?_
          refine hk15 _ _ ?_; clear hk15; try clear k15
          refine W.cond hC rfl (fun h4 => ?_) (fun h4 => ?_)
          ·
            refine W.seqk fun k16 hk16 => ?_
            refine W.region ?_
            refine L.pu hC rfl rfl (fun _ => All.nil) rfl rfl ?_; clear hC a; intro a hC
            refine L.pu hC rfl rfl (fun _ => All.nil) rfl rfl ?_; clear hC a; intro a hC
            refine L.nil ?_
            refine hk16 _ _ ?_; clear hk16; try clear k16
            refine W.ret ?_
            refine retl hC rfl (.tmp rfl (.tmp rfl .nil)) rfl ?_
            replace hC := (hC.drop).nilown (ty := 30) (E := pntE)
            exact ⟨_, (by rw [build_c h1 h2 h4]; try rfl), trivial, by rw [build_c h1 h2 h4]; exact hC.toPost (by simp [ownR])⟩
          ·
            refine W.skip ?_
            refine hk14 _ _ ?_; clear hk14; try clear k14
            refine W.seqk fun k17 hk17 => ?_
            refine W.region ?_
            refine L.pu hC rfl rfl (fun _ => All.nil) rfl rfl ?_; clear hC a; intro a hC
            refine L.nil ?_
            refine hk17 _ _ ?_; clear hk17; try clear k17
            refine W.seqk fun k18 hk18 => ?_
            refine W.seqk fun k19 hk19 => ?_
            refine W.region ?_
            refine L.pu hC rfl rfl (fun _ => All.nil) rfl rfl ?_; clear hC a; intro a hC
            refine L.nil ?_
            refine hk19 _ _ ?_; clear hk19; try clear k19
            refine W.block ?_
            replace hC := hC.nilown (ty := 30) (E := pntE)
            replace hC := hC.hd (r' := ownR (.slice none 0 0) 30 pntE (sortP (allP p (l.take 0)))) (by simp [allP, sortP])
            replace hC := hC.fr1
            replace hC := hC.fr1
            refine W.loop (fun (gst : Nat × Value) a w' => match gst with | ⟨i, ov⟩ => (i ≤ l.length) ∧ Conf 116 Nob w0 [(10, (none, .int .i64 (i : Int))), (9, (none, ov)), (1, (none, v)), (0, (none, .int .i64 p))] [ownR ov 30 pntE (sortP (allP p (l.take i))), rdR v timE l] a w') (fun (gst : Nat × Value) => match gst with | ⟨i, ov⟩ => l.length - i) (0, .slice none 0 0) ?_ ?_
            · exact ⟨Nat.zero_le _, hC.keep ⟨rfl, rfl, rfl, rfl, trivial⟩⟩
            · rintro ⟨i, ov⟩ a w ⟨hi, hC⟩
              refine W.seqk fun k20 hk20 => ?_
              refine W.seqk fun k21 hk21 => ?_
              refine W.region ?_
              refine L.pu hC rfl rfl (fun _ => All.nil) rfl rfl ?_; clear hC a; intro a hC
              refine L.pu hC rfl rfl (fun _ => All.nil) rfl rfl ?_; clear hC a; intro a hC
              refine L.len hC rfl rfl rfl (fun _ => All.nil) (rd_form (hC.at m1)) Try.underlying22 rfl rfl ?_; clear hC a; intro a hC
              refine L.pu hC rfl rfl (fun _ => All.nil) rfl rfl ?_; clear hC a; intro a hC
              refine L.nil ?_
              refine hk21 _ _ ?_; clear hk21; try clear k21
              refine W.cond hC rfl (fun h5 => ?_) (fun h5 => ?_)
              ·
                have h5 := of_decide_eq_true h5
                refine W.skip ?_
                refine hk20 _ _ ?_; clear hk20; try clear k20
                refine W.seqk fun k22 hk22 => ?_
                refine W.block ?_
                refine W.seqk fun k23 hk23 => ?_
                refine W.region ?_
                refine L.pu hC rfl rfl (fun _ => All.nil) rfl rfl ?_; clear hC a; intro a hC
                obtain ⟨N, hN, hN2⟩ := wide_N (p := p) hk hp (show i < l.length by omega)
                replace hC := hC.hd (r' := ownR ov 30 pntE (sortP (allP p (l.take i) ++ ptsN l[i]! 0))) (by rw [ptsN_zero, List.append_nil])
                refine L.nil ?_
                refine hk23 _ _ ?_; clear hk23; try clear k23
                refine W.block ?_
                replace hC := hC.fr1
                replace hC := hC.fr1
                refine W.loop (fun (gst : Nat × Value) a w' => match gst with | ⟨j, ov⟩ => (j ≤ N) ∧ Conf 116 Nob w0 [(11, (none, .int .i64 (j : Int))), (10, (none, .int .i64 (i : Int))), (9, (none, ov)), (1, (none, v)), (0, (none, .int .i64 p))] [ownR ov 30 pntE (sortP (allP p (l.take i) ++ ptsN l[i]! j)), rdR v timE l] a w') (fun (gst : Nat × Value) => match gst with | ⟨j, ov⟩ => N - j) (0, ov) ?_ ?_
                · exact ⟨Nat.zero_le _, hC.keep ⟨rfl, rfl, rfl, rfl, rfl, trivial⟩⟩
                · rintro ⟨j, ov⟩ a w ⟨hj, hC⟩
                  have hAl := allP_len hk hp (l := l) (i := i)
                  refine W.seqk fun k24 hk24 => ?_
                  refine W.seqk fun k25 hk25 => ?_
                  refine W.region ?_
                  refine L.pu hC rfl rfl (fun _ => All.nil) rfl rfl ?_; clear hC a; intro a hC
                  refine L.pu hC rfl rfl (fun _ => All.nil) rfl rfl ?_; clear hC a; intro a hC
                  refine L.pu hC rfl rfl (fun _ => All.nil) rfl rfl ?_; clear hC a; intro a hC
                  refine L.pu hC rfl rfl (fun _ => All.nil) rfl rfl ?_; clear hC a; intro a hC
                  refine L.ixr hC rfl rfl rfl rfl m1 (fun _ => All.nil) (fun _ => All.nil) Try.underlying22 Try.sizeOf54 (fun _ => by omega) rfl rfl ?_; clear hC a; intro a hC
                  refine L.fae hC rfl rfl rfl (fun _ => All.nil) Try.underlying54 rfl Try.sizeOf3 rfl (fun hg => rd_some (hC.at m1) (by omega)) rfl rfl ?_; clear hC a; intro a hC
                  refine L.ldx hC rfl rfl rfl rfl (fun _ => All.nil) (fun hg => rd_bang hC m1 (by omega) _) Try.isAgg3 rfl rfl rfl ?_; clear hC a; intro a hC
                  refine L.pu hC rfl rfl (fun _ => All.nil) rfl rfl ?_; clear hC a; intro a hC
                  refine L.pu hC rfl rfl (fun _ => All.nil) rfl rfl ?_; clear hC a; intro a hC
                  refine L.nil ?_
                  refine hk25 _ _ ?_; clear hk25; try clear k25
                  refine W.cond hC rfl (fun h6 => ?_) (fun h6 => ?_)
                  ·
                    have h6 : (j : Int) < IntKind.i64.wrap (p * l[i]!.2) := of_decide_eq_true h6
                    rw [hN] at h6
                    refine W.skip ?_
                    refine hk24 _ _ ?_; clear hk24; try clear k24
                    refine W.seqk fun k26 hk26 => ?_
                    refine W.block ?_
                    refine W.seqk fun k27 hk27 => ?_
                    obtain ⟨m, hm⟩ : ∃ m, sortP (allP p (l.take i) ++ ptsN l[i]! j) = m := ⟨_, rfl⟩
                    rw [hm] at hC
                    have hml : m.length ≤ 33792 := by rw [← hm, sortP_len, List.length_append, ptsN_len]; omega
                    obtain ⟨x, hx⟩ : ∃ x, ptB l[i]! j = x := ⟨_, rfl⟩
                    replace hC := hC.fr1
                    replace hC := hC.fr1
                    refine W.drawL (fun c' γ => match c' with | 0 => [ownR ov 30 pntE m, rdR v timE l] | _ => [ownR ov 30 pntE m, rdR v timE l, ptrR γ [.int .u64 0, .int .i64 0] 30]) undef hC Try.mixed rfl rfl rfl rfl rfl ?_
                    apply ERN.q (.det _ _) 1 rfl rfl
                    · intro c' γ hle
                      obtain rfl | rfl := (by omega : c' = 0 ∨ c' = 1)
                      · intro a w hC
                        refine L.pu hC rfl rfl (fun _ => All.nil) rfl rfl ?_; clear hC a; intro a hC
                        exact L.nil ⟨⟨_, [], hC⟩, Frm.refl _ _⟩
                      · intro a w hC
                        refine L.pu hC rfl rfl (fun _ => All.nil) rfl rfl ?_; clear hC a; intro a hC
                        exact L.nil ⟨⟨_, [], hC⟩, Frm.refl _ _⟩
                    apply ERN.q (.det _ _) 1 rfl rfl
                    · intro c' γ hle
                      obtain rfl | rfl := (by omega : c' = 0 ∨ c' = 1)
                      · intro a w hC
                        refine L.pu hC rfl rfl (fun _ => All.nil) rfl rfl ?_; clear hC a; intro a hC
                        exact L.nil ⟨⟨_, [], hC⟩, Frm.refl _ _⟩
                      · intro a w hC
                        refine L.pu hC rfl rfl (fun _ => All.nil) rfl rfl ?_; clear hC a; intro a hC
                        exact L.nil ⟨⟨_, [], hC⟩, Frm.refl _ _⟩
                    apply ERN.q (.det _ _) 1 rfl rfl
                    · intro c' γ hle
                      obtain rfl | rfl := (by omega : c' = 0 ∨ c' = 1)
                      · intro a w hC
                        refine L.ixr hC rfl rfl rfl rfl m1 (fun _ => All.nil) (fun _ => All.nil) Try.underlying22 Try.sizeOf54 (fun _ => by omega) rfl rfl ?_; clear hC a; intro a hC
                        exact L.nil ⟨⟨_, [], hC⟩, Frm.refl _ _⟩
                      · intro a w hC
                        refine L.ixr hC rfl rfl rfl rfl m1 (fun _ => All.nil) (fun _ => All.nil) Try.underlying22 Try.sizeOf54 (fun _ => by omega) rfl rfl ?_; clear hC a; intro a hC
                        exact L.nil ⟨⟨_, [], hC⟩, Frm.refl _ _⟩
                    apply ERN.q (.det _ _) 1 rfl rfl
                    · intro c' γ hle
                      obtain rfl | rfl := (by omega : c' = 0 ∨ c' = 1)
                      · intro a w hC
                        refine L.fae hC rfl rfl rfl (fun _ => All.nil) Try.underlying54 rfl Try.sizeOf3 rfl (fun hg => rd_some (hC.at m1) (by omega)) rfl rfl ?_; clear hC a; intro a hC
                        exact L.nil ⟨⟨_, [], hC⟩, Frm.refl _ _⟩
                      · intro a w hC
                        refine L.fae hC rfl rfl rfl (fun _ => All.nil) Try.underlying54 rfl Try.sizeOf3 rfl (fun hg => rd_some (hC.at m1) (by omega)) rfl rfl ?_; clear hC a; intro a hC
                        exact L.nil ⟨⟨_, [], hC⟩, Frm.refl _ _⟩
                    apply ERN.q (.det _ _) 1 rfl rfl
                    · intro c' γ hle
                      obtain rfl | rfl := (by omega : c' = 0 ∨ c' = 1)
                      · intro a w hC
                        refine L.ldx hC rfl rfl rfl rfl (fun _ => All.nil) (fun hg => rd_bang hC m1 (by omega) _) Try.isAgg3 rfl rfl rfl ?_; clear hC a; intro a hC
                        exact L.nil ⟨⟨_, [], hC⟩, Frm.refl _ _⟩
                      · intro a w hC
                        refine L.ldx hC rfl rfl rfl rfl (fun _ => All.nil) (fun hg => rd_bang hC m1 (by omega) _) Try.isAgg3 rfl rfl rfl ?_; clear hC a; intro a hC
                        exact L.nil ⟨⟨_, [], hC⟩, Frm.refl _ _⟩
                    apply ERN.q (.det _ _) 1 rfl rfl
                    · intro c' γ hle
                      obtain rfl | rfl := (by omega : c' = 0 ∨ c' = 1)
                      · intro a w hC
                        refine L.pu hC rfl rfl (fun _ => All.nil) rfl rfl ?_; clear hC a; intro a hC
                        exact L.nil ⟨⟨_, [], hC⟩, Frm.refl _ _⟩
                      · intro a w hC
                        refine L.pu hC rfl rfl (fun _ => All.nil) rfl rfl ?_; clear hC a; intro a hC
                        exact L.nil ⟨⟨_, [], hC⟩, Frm.refl _ _⟩
                    apply ERN.q (.lit _ _ fun v => rdR v intE _) 1 rfl rfl
                    · intro c' γ hle
                      obtain rfl | rfl := (by omega : c' = 0 ∨ c' = 1)
                      · intro a w hC
                        refine L.bsP hC rfl rfl rfl Try.underlying81 Try.infoI3 rfl rfl rfl rfl rfl rfl rfl ?_; clear hC a; intro b5 a w hF hC
                        replace hC := hC.litrd (E := intE) [l[i]!.1, (j : Int)] rfl (Nat.le_of_ble_eq_true rfl)
                        exact L.nil ⟨⟨_, _, [], fun _ h => h.2, hC⟩, hF⟩
                      · intro a w hC
                        refine L.bsP hC rfl rfl rfl Try.underlying81 Try.infoI3 rfl rfl rfl rfl rfl rfl rfl ?_; clear hC a; intro b6 a w hF hC
                        replace hC := hC.litrd (E := intE) [l[i]!.1, (j : Int)] rfl (Nat.le_of_ble_eq_true rfl)
                        exact L.nil ⟨⟨_, _, [], fun _ h => h.2, hC⟩, hF⟩
                    apply ERN.q (.det _ _) 1 rfl rfl
                    · intro c' γ hle
                      obtain rfl | rfl := (by omega : c' = 0 ∨ c' = 1)
                      · intro v6 a w hC
                        refine L.call hC rfl rfl Try.call24 rfl (fun _ => All.nil) (fun hg => hintsr_ok _ _ _ _ (hC.at m0 trivial)) rfl rfl ?_; clear hC a; intro a w hF hC
                        exact L.nil ⟨⟨_, [_], hC⟩, hF⟩
                      · intro v6 a w hC
                        refine L.call hC rfl rfl Try.call24 rfl (fun _ => All.nil) (fun hg => hintsr_ok _ _ _ _ (hC.at m0 trivial)) rfl rfl ?_; clear hC a; intro a w hF hC
                        exact L.nil ⟨⟨_, [_], hC⟩, hF⟩
                    apply ERN.q (.det _ _) 1 rfl rfl
                    · intro c' γ hle
                      obtain rfl | rfl := (by omega : c' = 0 ∨ c' = 1)
                      · intro a w hC
                        refine L.pu hC rfl rfl (fun _ => All.nil) rfl rfl ?_; clear hC a; intro a hC
                        exact L.nil ⟨⟨_, [], hC⟩, Frm.refl _ _⟩
                      · intro a w hC
                        refine L.pu hC rfl rfl (fun _ => All.nil) rfl rfl ?_; clear hC a; intro a hC
                        exact L.nil ⟨⟨_, [], hC⟩, Frm.refl _ _⟩
                    apply ERN.q (.det _ _) 1 rfl rfl
                    · intro c' γ hle
                      obtain rfl | rfl := (by omega : c' = 0 ∨ c' = 1)
                      · intro a w hC
                        refine L.pu hC rfl rfl (fun _ => All.nil) rfl rfl ?_; clear hC a; intro a hC
                        exact L.nil ⟨⟨_, [], hC⟩, Frm.refl _ _⟩
                      · intro a w hC
                        refine L.pu hC rfl rfl (fun _ => All.nil) rfl rfl ?_; clear hC a; intro a hC
                        exact L.nil ⟨⟨_, [], hC⟩, Frm.refl _ _⟩
                    apply ERN.q (.det _ _) 1 rfl rfl
                    · intro c' γ hle
                      obtain rfl | rfl := (by omega : c' = 0 ∨ c' = 1)
                      · intro a w hC
                        refine L.ixr hC rfl rfl rfl rfl m1 (fun _ => All.nil) (fun _ => All.nil) Try.underlying22 Try.sizeOf54 (fun _ => by omega) rfl rfl ?_; clear hC a; intro a hC
                        exact L.nil ⟨⟨_, [], hC⟩, Frm.refl _ _⟩
                      · intro a w hC
                        refine L.ixr hC rfl rfl rfl rfl m1 (fun _ => All.nil) (fun _ => All.nil) Try.underlying22 Try.sizeOf54 (fun _ => by omega) rfl rfl ?_; clear hC a; intro a hC
                        exact L.nil ⟨⟨_, [], hC⟩, Frm.refl _ _⟩
                    apply ERN.q (.det _ _) 1 rfl rfl
                    · intro c' γ hle
                      obtain rfl | rfl := (by omega : c' = 0 ∨ c' = 1)
                      · intro a w hC
                        refine L.fae hC rfl rfl rfl (fun _ => All.nil) Try.underlying54 rfl Try.sizeOf3 rfl (fun hg => rd_some (hC.at m1) (by omega)) rfl rfl ?_; clear hC a; intro a hC
                        exact L.nil ⟨⟨_, [], hC⟩, Frm.refl _ _⟩
                      · intro a w hC
                        refine L.fae hC rfl rfl rfl (fun _ => All.nil) Try.underlying54 rfl Try.sizeOf3 rfl (fun hg => rd_some (hC.at m1) (by omega)) rfl rfl ?_; clear hC a; intro a hC
                        exact L.nil ⟨⟨_, [], hC⟩, Frm.refl _ _⟩
                    apply ERN.q (.det _ _) 1 rfl rfl
                    · intro c' γ hle
                      obtain rfl | rfl := (by omega : c' = 0 ∨ c' = 1)
                      · intro a w hC
                        refine L.ldx hC rfl rfl rfl rfl (fun _ => All.nil) (fun hg => rd_bang hC m1 (by omega) _) Try.isAgg3 rfl rfl rfl ?_; clear hC a; intro a hC
                        exact L.nil ⟨⟨_, [], hC⟩, Frm.refl _ _⟩
                      · intro a w hC
                        refine L.ldx hC rfl rfl rfl rfl (fun _ => All.nil) (fun hg => rd_bang hC m1 (by omega) _) Try.isAgg3 rfl rfl rfl ?_; clear hC a; intro a hC
                        exact L.nil ⟨⟨_, [], hC⟩, Frm.refl _ _⟩
                    apply ERN.q (.det _ _) 1 rfl rfl
                    · intro c' γ hle
                      obtain rfl | rfl := (by omega : c' = 0 ∨ c' = 1)
                      · intro a w hC
                        refine L.buildS (ps := [(0, 1), (1, 1)]) hC rfl rfl rfl (fun _ => All.nil) Try.zeroValue30 Try.underlying30 ⟨⟨rfl, Try.sizeOf28⟩, ⟨rfl, Try.sizeOf3⟩, trivial⟩ rfl rfl rfl ?_; clear hC a; intro a hC
                        exact L.nil ⟨⟨_, [], hC⟩, Frm.refl _ _⟩
                      · intro a w hC
                        refine L.buildS (ps := [(0, 1), (1, 1)]) hC rfl rfl rfl (fun _ => All.nil) Try.zeroValue30 Try.underlying30 ⟨⟨rfl, Try.sizeOf28⟩, ⟨rfl, Try.sizeOf3⟩, trivial⟩ rfl rfl rfl ?_; clear hC a; intro a hC
                        exact L.nil ⟨⟨_, [], hC⟩, Frm.refl _ _⟩
                    apply ERN.f true (fun h => rfl) rfl rfl
                    · intro γ a w hC
                      refine L.allocN hC rfl rfl Try.zeroValue30 rfl rfl rfl ?_; clear hC a; intro a w2 hF hC
                      exact L.nil ⟨(.pointer (some ⟨w.heap.size, 0, none⟩)), _, (fun h => by cases h), (hC.env.vals 12 (none, (.pointer (some ⟨w.heap.size, 0, none⟩))) rfl), (hC.perm (List.perm_append_comm (l₁ := [_]) (l₂ := [_, _]))), ((FrmF.new (r := blkR w.heap.size [.int .u64 0, .int .i64 0] 30) hF (fun b hb => Nat.le_of_eq (Eq.symm hb))).perm (List.Perm.refl _) (List.perm_append_comm (l₁ := [_]) (l₂ := [_, _])))⟩
                    refine ERN.nil ?_
                    intro γ w' v6 a w hC hw
                    subst hw
                    replace hC := hC.tail
                    obtain ⟨nb, rfl⟩ := ptrR_form (hC.at m2)
                    replace hC := hC.fr2
                    replace hC := hC.hd (r' := blkR nb [.int .u64 0, .int .i64 0] 30) rfl
                    refine L.st hC rfl rfl rfl rfl Try.sizeOf30 rfl rfl rfl rfl rfl ?_; clear hC a; intro a w hF hC
                    refine L.nil ?_
                    refine hk27 _ _ ?_; clear hk27; try clear k27
                    refine W.seqk fun k28 hk28 => ?_
                    refine W.region ?_
                    refine L.pu hC rfl rfl (fun _ => All.nil) rfl rfl ?_; clear hC a; intro a hC
                    replace hC := hC.hd (r' := blkR nb (pntE.enc x) 30) (by rw [← hx]; rfl)
                    refine L.len hC rfl rfl rfl (fun _ => All.nil) (own_form (hC.at m1)) Try.underlying24 rfl rfl ?_; clear hC a; intro a hC
                    refine L.pu hC rfl rfl (fun _ => All.nil) rfl rfl ?_; clear hC a; intro a hC
                    refine L.nil ?_
                    refine hk28 _ _ ?_; clear hk28; try clear k28
                    refine W.seqk fun k29 hk29 => ?_
                    refine W.block ?_
                    replace hC := hC.fr2
                    replace hC := hC.fr1
                    replace hC := hC.fr2
                    refine W.loop (fun (q : Nat) a w' => (q ≤ m.length) ∧ (∀ k, q ≤ k → k < m.length → behR m[k]! x = true) ∧ Conf 116 Nob w0 [(13, (none, .int .i64 (q : Int))), (12, (none, .pointer (some ⟨nb, 0, none⟩))), (11, (none, .int .i64 (j : Int))), (10, (none, .int .i64 (i : Int))), (9, (none, ov)), (1, (none, v)), (0, (none, .int .i64 p))] [ownR ov 30 pntE m, blkR nb (pntE.enc x) 30, rdR v timE l] a w') (fun (q : Nat) => q) m.length ?_ ?_
                    · exact ⟨Nat.le_refl _, fun k h1 h2 => by omega, hC.keep ⟨rfl, rfl, rfl, rfl, rfl, rfl, rfl, trivial⟩⟩
                    · rintro q a w ⟨hq, hbeh, hC⟩
                      refine W.seqk fun k30 hk30 => ?_
                      refine W.seqk fun k31 hk31 => ?_
                      refine W.drawD hC Try.mixed rfl rfl ?_
                      apply DRN.cons (.det _ _) rfl
                      · intro a w hC
                        refine L.pu hC rfl rfl (fun _ => All.nil) rfl rfl ?_; clear hC a; intro a hC
                        exact L.nil ⟨⟨_, [], hC⟩, Frm.refl _ _⟩
                      apply DRN.cons (.det _ _) rfl
                      · intro a w hC
                        refine L.pu hC rfl rfl (fun _ => All.nil) rfl rfl ?_; clear hC a; intro a hC
                        exact L.nil ⟨⟨_, [], hC⟩, Frm.refl _ _⟩
                      apply DRN.cons (.det _ _) rfl
                      · intro a w hC
                        refine L.pu hC rfl rfl (fun _ => All.nil) rfl rfl ?_; clear hC a; intro a hC
                        exact L.nil ⟨⟨_, [], hC⟩, Frm.refl _ _⟩
                      apply DRN.cons (.det _ _) rfl
                      · intro a w hC
                        refine L.pu hC rfl rfl (fun _ => All.nil) rfl rfl ?_; clear hC a; intro a hC
                        exact L.nil ⟨⟨_, [], hC⟩, Frm.refl _ _⟩
                      apply DRN.cons (.det _ _) rfl
                      · intro a w hC
                        refine L.pu hC rfl rfl (fun _ => All.nil) rfl rfl ?_; clear hC a; intro a hC
                        exact L.nil ⟨⟨_, [], hC⟩, Frm.refl _ _⟩
                      apply DRN.cons (.det _ _) rfl
                      · intro a w hC
                        refine L.pu hC rfl rfl (fun hg => by first | (simp only [Gt, Bool.and_eq_true] at hg; simp only [All, List.cons_append, List.nil_append, List.append_nil, List.mem_cons, List.not_mem_nil, or_false, forall_eq_or_imp, forall_eq, Bool.and_eq_true, hg, Bool.not_false, Bool.not_true, and_self]; done) | (simp only [Gt] at hg; simp only [All, List.cons_append, List.nil_append, List.append_nil, List.mem_cons, List.not_mem_nil, or_false, forall_eq_or_imp, forall_eq, hg, and_self])) rfl rfl ?_; clear hC a; intro a hC
                        exact L.nil ⟨⟨_, [], hC⟩, Frm.refl _ _⟩
                      apply DRN.cons (.det _ _) rfl
                      · intro a w hC
                        refine L.ixo hC rfl rfl rfl rfl m0 (fun hg => by first | (simp only [Gt, Bool.and_eq_true] at hg; simp only [All, List.cons_append, List.nil_append, List.append_nil, List.mem_cons, List.not_mem_nil, or_false, forall_eq_or_imp, forall_eq, Bool.and_eq_true, hg, Bool.not_false, Bool.not_true, and_self]; done) | (simp only [Gt] at hg; simp only [All, List.cons_append, List.nil_append, List.append_nil, List.mem_cons, List.not_mem_nil, or_false, forall_eq_or_imp, forall_eq, hg, and_self])) (fun hg => by first | (simp only [Gt, Bool.and_eq_true] at hg; simp only [All, List.cons_append, List.nil_append, List.append_nil, List.mem_cons, List.not_mem_nil, or_false, forall_eq_or_imp, forall_eq, Bool.and_eq_true, hg, Bool.not_false, Bool.not_true, and_self]; done) | (simp only [Gt] at hg; simp only [All, List.cons_append, List.nil_append, List.append_nil, List.mem_cons, List.not_mem_nil, or_false, forall_eq_or_imp, forall_eq, hg, and_self])) Try.underlying24 Try.sizeOf30 (fun hg => by have := of_decide_eq_true hg; rw [w64 (by omega)]; omega) rfl rfl ?_; clear hC a; intro a hC
                        exact L.nil ⟨⟨_, [], hC⟩, Frm.refl _ _⟩
                      apply DRN.cons (.det _ _) rfl
                      · intro a w hC
                        refine L.ldxa hC rfl rfl rfl rfl (fun hg => by first | (simp only [Gt, Bool.and_eq_true] at hg; simp only [All, List.cons_append, List.nil_append, List.append_nil, List.mem_cons, List.not_mem_nil, or_false, forall_eq_or_imp, forall_eq, Bool.and_eq_true, hg, Bool.not_false, Bool.not_true, and_self]; done) | (simp only [Gt] at hg; simp only [All, List.cons_append, List.nil_append, List.append_nil, List.mem_cons, List.not_mem_nil, or_false, forall_eq_or_imp, forall_eq, hg, and_self])) (fun hg => own_bang hC m0 (by first | omega | (have := of_decide_eq_true hg; rw [w64 (by omega)]; omega)) _) Try.isAgg30 Try.sizeOf30 rfl rfl rfl rfl ?_; clear hC a; intro a hC
                        exact L.nil ⟨⟨_, [], hC⟩, Frm.refl _ _⟩
                      apply DRN.cons (.det _ _) rfl
                      · intro a w hC
                        refine L.lda hC rfl rfl rfl (fun _ => All.nil) m1 Try.isAgg30 Try.sizeOf30 rfl rfl rfl rfl ?_; clear hC a; intro a hC
                        exact L.nil ⟨⟨_, [], hC⟩, Frm.refl _ _⟩
                      apply DRN.cons (.det _ _) rfl
                      · intro a w hC
                        refine L.call hC rfl rfl Try.call25 rfl (fun hg => by first | (simp only [Gt, Bool.and_eq_true] at hg; simp only [All, List.cons_append, List.nil_append, List.append_nil, List.mem_cons, List.not_mem_nil, or_false, forall_eq_or_imp, forall_eq, Bool.and_eq_true, hg, Bool.not_false, Bool.not_true, and_self]; done) | (simp only [Gt] at hg; simp only [All, List.cons_append, List.nil_append, List.append_nil, List.mem_cons, List.not_mem_nil, or_false, forall_eq_or_imp, forall_eq, hg, and_self])) (fun hg => behind_ok _ _ _) rfl rfl ?_; clear hC a; intro a w hF hC
                        exact L.nil ⟨⟨_, [], hC⟩, hF⟩
                      apply DRN.cons (.det _ _) rfl
                      · intro a w hC
                        refine L.and hC rfl rfl rfl rfl (fun _ => All.nil) (fun _ hp => by first | (simp only [All, List.cons_append, List.nil_append, List.append_nil, List.mem_cons, List.not_mem_nil, or_false, forall_eq_or_imp, forall_eq, Bool.and_eq_true, hp, Bool.not_false, Bool.not_true, and_self]; done) | simp [All, hp]) rfl rfl ?_; clear hC a; intro a hC
                        exact L.nil ⟨⟨_, [], hC⟩, Frm.refl _ _⟩
                      refine DRN.nil (fun w' hF => ?_)
                      intro a w hC hw
                      subst hw
                      refine hk31 _ _ ?_; clear hk31; try clear k31
                      refine W.cond hC rfl (fun h7 => ?_) (fun h7 => ?_)
                      ·
                        have h7' := beh_at h7 (by omega)
                        refine W.skip ?_
                        refine hk30 _ _ ?_; clear hk30; try clear k30
                        refine W.block ?_
                        refine W.region ?_
                        refine L.pu hC rfl rfl (fun _ => All.nil) rfl rfl ?_; clear hC a; intro a hC
                        refine L.pu hC rfl rfl (fun _ => All.nil) rfl rfl ?_; clear hC a; intro a hC
                        refine L.pu hC rfl rfl (fun _ => All.nil) rfl rfl ?_; clear hC a; intro a hC
                        refine L.nil ?_
                        replace hC := hC.fr2
                        replace hC := hC.fr2
                        replace hC := hC.fr2
                        exact ⟨q - 1, ⟨by omega, fun k hk1 hk2 => by
                          by_cases e : k = q - 1
                          · rw [e]; exact h7'.2
                          · exact hbeh k (by omega) hk2, hC.keep ⟨geti rfl (by rw [w64 (by omega)]; omega), rfl, rfl, rfl, rfl, rfl, rfl, trivial⟩⟩, by first | omega | (dsimp only; omega)⟩
                      ·
                        have h7' := beh_not h7 (by omega)
                        refine W.exit ?_
                        refine Kb.here ?_
                        refine hk29 _ _ ?_; clear hk29; try clear k29
                        refine W.seqk fun k32 hk32 => ?_
                        refine W.region ?_
                        refine L.pu hC rfl rfl (fun _ => All.nil) rfl rfl ?_; clear hC a; intro a hC
                        refine L.lda hC rfl rfl rfl (fun _ => All.nil) m1 Try.isAgg30 Try.sizeOf30 rfl rfl rfl rfl ?_; clear hC a; intro a hC
                        refine L.bsP hC rfl rfl rfl Try.underlying24 Try.infoI30 rfl rfl rfl rfl rfl rfl rfl ?_; clear hC a; intro b10 a w hF hC
                        replace hC := hC.fr1
                        refine L.app (xs := [x]) hC rfl rfl rfl rfl ⟨_, _, rfl, lit_cells (hC.at m1) rfl⟩ Try.underlying24 Try.infoI30 rfl (by simp; omega) (by simp; omega) rfl rfl ?_; clear hC a; intro v11 a w hF hC
                        obtain ⟨ov2, rfl⟩ : ∃ y, y = v11 := ⟨_, rfl⟩
                        refine L.pu hC rfl rfl (fun _ => All.nil) rfl rfl ?_; clear hC a; intro a hC
                        refine L.nil ?_
                        refine hk32 _ _ ?_; clear hk32; try clear k32
                        refine W.seqk fun k33 hk33 => ?_
                        refine W.seqk fun k34 hk34 => ?_
                        refine W.region ?_
                        refine L.pu hC rfl rfl (fun _ => All.nil) rfl rfl ?_; clear hC a; intro a hC
                        refine L.len hC rfl rfl rfl (fun _ => All.nil) (own_form (hC.at m0)) Try.underlying24 rfl rfl ?_; clear hC a; intro a hC
                        refine L.pu hC rfl rfl (fun _ => All.nil) rfl rfl ?_; clear hC a; intro a hC
                        refine L.pu hC rfl rfl (fun _ => All.nil) rfl rfl ?_; clear hC a; intro a hC
                        replace hC := hC.slot (d := 14) (geti (b := (m.length : Int)) rfl (by rw [List.length_append, w64 (by simp; omega)]; simp))
                        replace hC := hC.hd (r' := ownR ov2 30 pntE (shiftS m x m.length)) (by rw [shift_top])
                        refine L.nil ?_
                        refine hk34 _ _ ?_; clear hk34; try clear k34
                        refine W.block ?_
                        replace hC := hC.subl (.cons_cons _ (.cons _ (.cons_cons _ (.cons_cons _ .slnil))))
                        replace hC := hC.fr2
                        replace hC := hC.fr2
                        replace hC := hC.fr2
                        refine W.loop (fun (k : Nat) a w' => (q ≤ k) ∧ (k ≤ m.length) ∧ Conf 116 Nob w0 [(14, (none, .int .i64 (k : Int))), (13, (none, .int .i64 (q : Int))), (12, (none, .pointer (some ⟨nb, 0, none⟩))), (11, (none, .int .i64 (j : Int))), (10, (none, .int .i64 (i : Int))), (9, (none, ov2)), (1, (none, v)), (0, (none, .int .i64 p))] [ownR ov2 30 pntE (shiftS m x k), blkR nb (pntE.enc x) 30, rdR v timE l] a w') (fun (k : Nat) => k) m.length ?_ ?_
                        · exact ⟨hq, Nat.le_refl _, hC.keep ⟨rfl, rfl, rfl, rfl, rfl, rfl, rfl, rfl, trivial⟩⟩
                        · rintro k a w ⟨hqk, hkm, hC⟩
                          have hsl := shift_len (m := m) (x := x) (k := k) (by omega)
                          refine W.seqk fun k35 hk35 => ?_
                          refine W.seqk fun k36 hk36 => ?_
                          refine W.region ?_
                          refine L.pu hC rfl rfl (fun _ => All.nil) rfl rfl ?_; clear hC a; intro a hC
                          refine L.pu hC rfl rfl (fun _ => All.nil) rfl rfl ?_; clear hC a; intro a hC
                          refine L.pu hC rfl rfl (fun _ => All.nil) rfl rfl ?_; clear hC a; intro a hC
                          refine L.nil ?_
                          refine hk36 _ _ ?_; clear hk36; try clear k36
                          refine W.cond hC rfl (fun h8 => ?_) (fun h8 => ?_)
                          ·
                            have h8 := of_decide_eq_true h8
                            refine W.skip ?_
                            refine hk35 _ _ ?_; clear hk35; try clear k35
                            refine W.seqk fun k37 hk37 => ?_
                            refine W.block ?_
                            refine W.region ?_
                            refine L.pu hC rfl rfl (fun _ => All.nil) rfl rfl ?_; clear hC a; intro a hC
                            refine L.pu hC rfl rfl (fun _ => All.nil) rfl rfl ?_; clear hC a; intro a hC
                            refine L.pu hC rfl rfl (fun _ => All.nil) rfl rfl ?_; clear hC a; intro a hC
                            refine L.pu hC rfl rfl (fun _ => All.nil) rfl rfl ?_; clear hC a; intro a hC
                            refine L.pu hC rfl rfl (fun _ => All.nil) rfl rfl ?_; clear hC a; intro a hC
                            refine L.ixo hC rfl rfl rfl rfl m0 (fun _ => All.nil) (fun _ => All.nil) Try.underlying24 Try.sizeOf30 (fun _ => by rw [w64 (by omega)]; omega) rfl rfl ?_; clear hC a; intro a hC
                            refine L.ldxa hC rfl rfl rfl rfl (fun _ => All.nil) (fun hg => own_bang hC m0 (by first | omega | (rw [w64 (by omega)]; omega)) _) Try.isAgg30 Try.sizeOf30 rfl rfl rfl rfl ?_; clear hC a; intro a hC
                            refine L.ixo hC rfl rfl rfl rfl m0 (fun _ => All.nil) (fun _ => All.nil) Try.underlying24 Try.sizeOf30 (fun _ => by omega) rfl rfl ?_; clear hC a; intro a hC
                            refine L.ste hC rfl rfl rfl rfl rfl Try.sizeOf30 rfl rfl rfl (by omega) (Nat.le_of_ble_eq_true rfl) (x' := (shiftS m x k)[(IntKind.i64.wrap ((k : Int) - 1)).toNat]!) rfl rfl ?_; clear hC a; intro a w hF hC
                            refine L.nil ?_
                            refine hk37 _ _ ?_; clear hk37; try clear k37
                            refine W.region ?_
                            refine L.pu hC rfl rfl (fun _ => All.nil) rfl rfl ?_; clear hC a; intro a hC
                            refine L.pu hC rfl rfl (fun _ => All.nil) rfl rfl ?_; clear hC a; intro a hC
                            refine L.pu hC rfl rfl (fun _ => All.nil) rfl rfl ?_; clear hC a; intro a hC
                            refine L.nil ?_
                            replace hC := hC.fr2
                            replace hC := hC.fr2
                            replace hC := hC.fr2
                            replace hC := hC.hd (r' := ownR ov2 30 pntE (shiftS m x (k - 1))) (by rw [← shift_step (by omega) hkm (by omega)]; rfl)
                            exact ⟨k - 1, ⟨by omega, by omega, hC.keep ⟨geti rfl (by rw [w64 (by omega)]; omega), rfl, rfl, rfl, rfl, rfl, rfl, rfl, trivial⟩⟩, by first | omega | (dsimp only; omega)⟩
                          ·
                            have h8 := of_decide_eq_false h8
                            obtain rfl : k = q := by omega
                            refine W.exit ?_
                            refine Kb.here ?_
                            refine hk33 _ _ ?_; clear hk33; try clear k33
                            refine W.region ?_
                            refine L.pu hC rfl rfl (fun _ => All.nil) rfl rfl ?_; clear hC a; intro a hC
                            refine L.pu hC rfl rfl (fun _ => All.nil) rfl rfl ?_; clear hC a; intro a hC
                            refine L.lda hC rfl rfl rfl (fun _ => All.nil) m1 Try.isAgg30 Try.sizeOf30 rfl rfl rfl rfl ?_; clear hC a; intro a hC
                            refine L.ixo hC rfl rfl rfl rfl m0 (fun _ => All.nil) (fun _ => All.nil) Try.underlying24 Try.sizeOf30 (fun _ => by omega) rfl rfl ?_; clear hC a; intro a hC
                            refine L.ste hC rfl rfl rfl rfl rfl Try.sizeOf30 rfl rfl rfl (by omega) (Nat.le_of_ble_eq_true rfl) (x' := x) rfl rfl ?_; clear hC a; intro a w hF hC
                            refine L.nil ?_
                            refine hk26 _ _ ?_; clear hk26; try clear k26
                            refine W.region ?_
                            refine L.pu hC rfl rfl (fun _ => All.nil) rfl rfl ?_; clear hC a; intro a hC
                            refine L.pu hC rfl rfl (fun _ => All.nil) rfl rfl ?_; clear hC a; intro a hC
                            refine L.pu hC rfl rfl (fun _ => All.nil) rfl rfl ?_; clear hC a; intro a hC
                            refine L.nil ?_
                            replace hC := hC.subl (.cons_cons _ (.cons _ (.cons_cons _ .slnil)))
                            replace hC := hC.fr1
                            replace hC := hC.fr1
                            replace hC := hC.hd (r' := ownR ov2 30 pntE (sortP (allP p (l.take i) ++ ptsN l[i]! (j + 1)))) (by rw [ptsN_step, ← List.append_assoc, hx, ← ins_ok hm hq hbeh h7']; exact congrArg (fun z => ownR ov2 30 pntE z) (shift_end hq))
                            exact ⟨(j + 1, ov2), ⟨by omega, hC.keep ⟨geti rfl (w64 (by omega)), rfl, rfl, rfl, rfl, trivial⟩⟩, by first | omega | (dsimp only; omega)⟩
                  ·
                    have h6 : ¬ (j : Int) < IntKind.i64.wrap (p * l[i]!.2) := of_decide_eq_false h6
                    rw [hN] at h6
                    obtain rfl : j = N := by omega
                    refine W.exit ?_
                    refine Kb.here ?_
                    refine hk22 _ _ ?_; clear hk22; try clear k22
                    refine W.region ?_
                    refine L.pu hC rfl rfl (fun _ => All.nil) rfl rfl ?_; clear hC a; intro a hC
                    refine L.pu hC rfl rfl (fun _ => All.nil) rfl rfl ?_; clear hC a; intro a hC
                    refine L.pu hC rfl rfl (fun _ => All.nil) rfl rfl ?_; clear hC a; intro a hC
                    refine L.nil ?_
                    replace hC := hC.fr1
                    replace hC := hC.fr1
                    replace hC := hC.hd (r' := ownR ov 30 pntE (sortP (allP p (l.take (i + 1))))) (by rw [allP_step (by omega) hN])
                    exact ⟨(i + 1, ov), ⟨by omega, hC.keep ⟨geti rfl (w64 (by omega)), rfl, rfl, rfl, trivial⟩⟩, by first | omega | (dsimp only; omega)⟩
              ·
                have h5 := of_decide_eq_false h5
                obtain rfl : i = l.length := by omega
                refine W.exit ?_
                refine Kb.here ?_
                refine hk18 _ _ ?_; clear hk18; try clear k18
                refine W.seqk fun k38 hk38 => ?_
                refine W.region ?_
                refine L.pu hC rfl rfl (fun _ => All.nil) rfl rfl ?_; clear hC a; intro a hC
                refine L.pu hC rfl rfl (fun _ => All.nil) rfl rfl ?_; clear hC a; intro a hC
                refine L.pu hC rfl rfl (fun _ => All.nil) rfl rfl ?_; clear hC a; intro a hC
                refine L.nil ?_
                refine hk38 _ _ ?_; clear hk38; try clear k38
                refine W.ret ?_
                refine retl hC rfl (.tmp rfl (.tmp rfl .nil)) rfl ?_
                replace hC := hC.subl (.cons_cons _ (.cons _ .slnil))
                exact ⟨_, (by rw [build_d h1 h2 h4]; try rfl), trivial, by rw [build_d h1 h2 h4]; exact hC.toPost (by simp [ownR])⟩

end Go.Proofs.E
