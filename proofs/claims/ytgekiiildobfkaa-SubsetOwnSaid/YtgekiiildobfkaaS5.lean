/- A subset dealt. -/
import Derived.Test.YtgekiiildobfkaaS4
set_option linter.unusedVariables false
set_option linter.unusedSimpArgs false
namespace Go.Proofs.E
open Go.RowKit
theorem bang_mem' {α : Type _} [Inhabited α] {l : List α} {j : Nat} (h : j < l.length) : l[j]! ∈ l := by rw [bang h]; exact List.getElem_mem h
theorem take_snoc' {α : Type _} [Inhabited α] {l : List α} {j : Nat} (hj : j < l.length) : l.take (j + 1) = l.take j ++ [l[j]!] := by
  rw [List.take_add_one, List.getElem?_eq_getElem hj, bang hj]; rfl
theorem swpI_perm {l : List Int} {i k : Nat} (hi : i < l.length) (hk : k < l.length) : (swpI l i k).Perm l := by
  unfold swpI
  rw [bang hi, bang hk]
  exact List.set_set_perm hi hk
theorem shuf_perm : ∀ (m : Nat) (s : Int) (l : List Int), m ≤ l.length → l.length ≤ 1048576 → (shuf m s l).2.Perm l
  | 0, s, l, _, _ => List.Perm.refl _
  | m + 1, s, l, h, hb => by
    by_cases h1 : 1 < m + 1
    · have hk := drawK_lt s (n := m + 1) (by omega) (by omega)
      rw [shuf_step h1]
      have e : m + 1 - 1 = m := rfl
      rw [e]
      have hkm : (drawK s ((m + 1 : Nat) : Int)).toNat < l.length := by omega
      exact (shuf_perm m _ _ (by rw [swpI_len]; omega) (by rw [swpI_len]; omega)).trans (swpI_perm hkm (by omega))
    · rw [shuf_end h1]
theorem shufR_perm (s : Int) {n : Nat} (h : n ≤ 1024) : (shufR s (n : Int)).2.1.Perm (upI n) := by
  unfold shufR
  rw [if_neg (by simp; omega), Int.toNat_natCast]
  exact shuf_perm n s (upI n) (by rw [upI_len]; omega) (by rw [upI_len]; omega)
theorem shuf_mem (s : Int) {n : Nat} (h : n ≤ 1024) : ∀ x ∈ (shufR s (n : Int)).2.1, 0 ≤ x ∧ x < n := fun x hx => by
  have := (shufR_perm s h).mem_iff.1 hx
  simp only [upI, List.mem_map, List.mem_range] at this
  obtain ⟨i, hi, rfl⟩ := this
  omega
theorem shuf_take {seed : Int} {n q : Nat} (h : n ≤ 1024) (hq : q ≤ n) : q ≤ (shufR seed (n : Int)).2.1.length := by
  rw [(shufR_perm seed h).length_eq, upI_len]; exact hq
def pE (round at' : Int) : List Value := [.int .i64 round, .int .i64 at']
def handR (ids : List Int) (size seed round : Int) (p q : Nat) : List Int :=
  if decide ((ids.length : Int) ≤ size) = true then ids else sortI ((((shufR (hints seed [round]) (ids.length : Int)).2.1.drop p).take (q - p)).map fun i => ids[i.toNat]!)
theorem hand_ok (v : Value) (size seed round at' : Int) (ids : List Int) (w0 : World) (hr : (rdR v intE ids).ok w0) (hl : ids.length ≤ 32) (hs0 : 1 ≤ size ∧ size ≤ 32) (ha : 0 ≤ at' ∧ at' ≤ 1048576) (p q : Nat) (hp : at' * size = (p : Int)) (hq : (at' + 1) * size = (q : Int)) (hql' : size < ids.length → q ≤ ids.length) : Calls Try.prog 132 #[.agg (dE v size seed).toArray, .agg (pE round at').toArray] w0 fun e w' => ∃ r : Value, e = .returned r ∧ True ∧ Post Nob [ownR r 3 intE (handR ids size seed round p q)] w0 w' := by
  have hpq : p < q := by have h7 : (at' + 1) * size = at' * size + size := (by rw [Int.add_mul, Int.one_mul]); rw [hp, hq] at h7; omega
  refine enter (μ := [rdR v intE ids]) (S := Nob) (vs := [.agg (dE v size seed).toArray, .agg (pE round at').toArray]) Try.func132 rfl Try.ntmps132 rfl ⟨by simpa using hr, by simp⟩ (by simp [rdR]) (fun a hC => ?_)
  refine W.seqk fun k1 hk1 => ?_
  refine W.region ?_
  refine L.box hC rfl rfl rfl rfl rfl rfl ?_; clear hC a; intro db a w hF hC
  refine L.box hC rfl rfl rfl rfl rfl rfl ?_; clear hC a; intro pb a w hF hC
  refine L.pu hC rfl rfl (fun _ => All.nil) rfl rfl ?_; clear hC a; intro a hC
  refine L.nil ?_
  refine hk1 _ _ ?_; clear hk1; try clear k1
  refine W.seqk fun k2 hk2 => ?_
  refine W.seqk fun k3 hk3 => ?_
  refine W.region ?_
  refine L.fa hC rfl rfl rfl (fun _ => All.nil) Try.underlying157 rfl Try.sizeOf37 rfl rfl rfl ?_; clear hC a; intro a hC
  refine L.ld hC rfl rfl rfl (fun _ => All.nil) m1 Try.isAgg37 rfl rfl rfl ?_; clear hC a; intro a hC
  refine L.len hC rfl rfl rfl (fun _ => All.nil) (rd_form (hC.at m2)) Try.underlying37 rfl rfl ?_; clear hC a; intro a hC
  refine L.fa hC rfl rfl rfl (fun _ => All.nil) Try.underlying157 rfl Try.sizeOf3 rfl rfl rfl ?_; clear hC a; intro a hC
  refine L.ld hC rfl rfl rfl (fun _ => All.nil) m1 Try.isAgg3 rfl rfl rfl ?_; clear hC a; intro a hC
  refine L.pu hC rfl rfl (fun _ => All.nil) rfl rfl ?_; clear hC a; intro a hC
  refine L.nil ?_
  refine hk3 _ _ ?_; clear hk3; try clear k3
  refine W.cond hC rfl (fun h1 => ?_) (fun h1 => ?_)
  ·
    refine W.seqk fun k4 hk4 => ?_
    refine W.region ?_
    refine L.fa hC rfl rfl rfl (fun _ => All.nil) Try.underlying157 rfl Try.sizeOf37 rfl rfl rfl ?_; clear hC a; intro a hC
    refine L.ld hC rfl rfl rfl (fun _ => All.nil) m1 Try.isAgg37 rfl rfl rfl ?_; clear hC a; intro a hC
    refine L.callg [] hC rfl rfl Try.call156 rfl (cloneI_ok v ids _ (hC.at m2) (by omega)) (fun b h => h.elim) rfl rfl ?_; clear hC a; intro ov a w hQ hC
    refine L.pu hC rfl rfl (fun _ => All.nil) rfl rfl ?_; clear hC a; intro a hC
    refine L.nil ?_
    refine hk4 _ _ ?_; clear hk4; try clear k4
    refine W.ret ?_
    refine rets hC rfl (.tmp rfl .nil) ?_
    replace hC := hC.subl (.cons_cons _ (.cons _ (.cons _ (.cons _ .slnil))))
    exact ⟨_, rfl, trivial, by unfold handR; rw [if_pos h1]; exact hC.toPost (by simp [ownR])⟩
  ·
    have h1' := of_decide_eq_false h1
    have hql := shuf_take (seed := hints seed [round]) (n := ids.length) (by omega) (hql' (by omega))
    have hmem := shuf_mem (hints seed [round]) (n := ids.length) (by omega)
    have hqn := hql' (by omega)
    refine W.skip ?_
    refine hk2 _ _ ?_; clear hk2; try clear k2
    refine W.seqk fun k5 hk5 => ?_
    refine W.drawD hC Try.mixed rfl rfl ?_
    apply DRN.cons (.det _ _) rfl
    · intro a w hC
      refine L.fa hC rfl rfl rfl (fun _ => All.nil) Try.underlying157 rfl Try.sizeOf61 rfl rfl rfl ?_; clear hC a; intro a hC
      exact L.nil ⟨⟨_, [], hC⟩, Frm.refl _ _⟩
    apply DRN.cons (.det _ _) rfl
    · intro a w hC
      refine L.ld hC rfl rfl rfl (fun _ => All.nil) m1 Try.isAgg61 rfl rfl rfl ?_; clear hC a; intro a hC
      exact L.nil ⟨⟨_, [], hC⟩, Frm.refl _ _⟩
    apply DRN.cons (.det _ _) rfl
    · intro a w hC
      refine L.fa hC rfl rfl rfl (fun _ => All.nil) Try.underlying200 rfl Try.sizeOf3 rfl rfl rfl ?_; clear hC a; intro a hC
      exact L.nil ⟨⟨_, [], hC⟩, Frm.refl _ _⟩
    apply DRN.cons (.det _ _) rfl
    · intro a w hC
      refine L.ld hC rfl rfl rfl (fun _ => All.nil) m0 Try.isAgg3 rfl rfl rfl ?_; clear hC a; intro a hC
      exact L.nil ⟨⟨_, [], hC⟩, Frm.refl _ _⟩
    apply DRN.cons (.lit _ _ fun v => rdR v intE _) rfl
    · intro a w hC
      exact L.litsP hC rfl rfl rfl (fun _ => All.nil) Try.underlying37 Try.infoI3 rfl rfl rfl rfl rfl rfl rfl rfl (fun a w' v hF hC => L.nil ⟨⟨v, _, [], fun _ h => h.2, hC⟩, hF⟩)
    apply DRN.cons (.det _ _) rfl
    · intro v4 a w hC
      refine L.call hC rfl rfl Try.call100 rfl (fun _ => All.nil) (fun hg => hints_ok _ _ _ _ (hC.at m0 trivial)) rfl rfl ?_; clear hC a; intro a w hF hC
      exact L.nil ⟨⟨_, [_], hC⟩, hF⟩
    apply DRN.cons (.det _ _) rfl
    · intro a w hC
      refine L.fa hC rfl rfl rfl (fun _ => All.nil) Try.underlying157 rfl Try.sizeOf37 rfl rfl rfl ?_; clear hC a; intro a hC
      exact L.nil ⟨⟨_, [], hC⟩, Frm.refl _ _⟩
    apply DRN.cons (.det _ _) rfl
    · intro a w hC
      refine L.ld hC rfl rfl rfl (fun _ => All.nil) m1 Try.isAgg37 rfl rfl rfl ?_; clear hC a; intro a hC
      exact L.nil ⟨⟨_, [], hC⟩, Frm.refl _ _⟩
    apply DRN.cons (.det _ _) rfl
    · intro a w hC
      refine L.len hC rfl rfl rfl (fun _ => All.nil) (rd_form (hC.at m2)) Try.underlying37 rfl rfl ?_; clear hC a; intro a hC
      exact L.nil ⟨⟨_, [], hC⟩, Frm.refl _ _⟩
    apply DRN.cons (.lit _ _ fun tv => tupR tv (.int .u64 (shufR (hints seed [round]) (ids.length : Int)).1) (.int .i64 (shufR (hints seed [round]) (ids.length : Int)).2.2) intE (shufR (hints seed [round]) (ids.length : Int)).2.1) rfl
    · intro a w hC
      refine L.calln hC rfl rfl Try.call157 rfl (shuffle_ok _ _ _) rfl rfl ?_; clear hC a; intro r a w' hQ hF hC
      replace hC := hC.readT (x := (.int .u64 (shufR (hints seed [round]) (ids.length : Int)).1)) (y := (.int .i64 (shufR (hints seed [round]) (ids.length : Int)).2.2))
      exact L.nil ⟨⟨_, _, [], fun _ h => h.2, hC⟩, hF⟩
    apply DRN.cons (.lit _ _ fun tv => tupR tv (.int .u64 (shufR (hints seed [round]) (ids.length : Int)).1) (.int .i64 (shufR (hints seed [round]) (ids.length : Int)).2.2) intE (shufR (hints seed [round]) (ids.length : Int)).2.1) rfl
    · intro v9 a w hC
      refine L.pu hC rfl rfl (fun _ => All.nil) rfl rfl ?_; clear hC a; intro a hC
      exact L.nil ⟨⟨_, _, [], fun _ h => h.2, hC⟩, Frm.refl _ _⟩
    apply DRN.cons (.det _ _) rfl
    · intro v10 a w hC
      obtain ⟨r, hr, _⟩ := hC.at m0 trivial
      subst hr
      refine L.pu hC rfl rfl (fun _ => All.nil) rfl rfl ?_; clear hC a; intro a hC
      exact L.nil ⟨⟨_, [_], hC⟩, Frm.refl _ _⟩
    apply DRN.cons (.lit _ _ fun v' => rdR v' intE (shufR (hints seed [round]) (ids.length : Int)).2.1) rfl
    · intro v10 a w hC
      obtain ⟨r, hr, _⟩ := hC.at m0 trivial
      subst hr
      refine L.pu hC rfl rfl (fun _ => All.nil) rfl rfl ?_; clear hC a; intro a hC
      replace hC := hC.part
      exact L.nil ⟨⟨_, _, [_], fun _ h => h.2, hC⟩, Frm.refl _ _⟩
    apply DRN.cons (.det _ _) rfl
    · intro v10 a w hC
      obtain ⟨r, hr, _⟩ := hC.at m0 trivial
      subst hr
      refine L.pu hC rfl rfl (fun _ => All.nil) rfl rfl ?_; clear hC a; intro a hC
      exact L.nil ⟨⟨_, [_], hC⟩, Frm.refl _ _⟩
    apply DRN.cons (.det _ _) rfl
    · intro v9 v4 v9_2 v10 a w hC
      refine L.pu hC rfl rfl (fun _ => All.nil) rfl rfl ?_; clear hC a; intro a hC
      exact L.nil ⟨⟨_, [_, _, _, _], hC⟩, Frm.refl _ _⟩
    apply DRN.cons (.lit _ _ fun v' => rdR v' intE (shufR (hints seed [round]) (ids.length : Int)).2.1) rfl
    · intro v12 v4 v9 v10 v12_2 a w hC
      refine L.pu hC rfl rfl (fun _ => All.nil) rfl rfl ?_; clear hC a; intro a hC
      exact L.nil ⟨⟨_, _, [_, _, _, _], fun _ h => h.2, hC⟩, Frm.refl _ _⟩
    apply DRN.cons (.det _ _) rfl
    · intro v15 v4 v9 v10 v12 v15_2 a w hC
      refine L.pu hC rfl rfl (fun _ => All.nil) rfl rfl ?_; clear hC a; intro a hC
      exact L.nil ⟨⟨_, [_, _, _, _, _, _], hC⟩, Frm.refl _ _⟩
    refine DRN.nil (fun w' hF => ?_)
    intro v4 v9 v10 v12 v15 a w hC hw
    subst hw
    refine hk5 _ _ ?_; clear hk5; try clear k5
    refine W.seqk fun k6 hk6 => ?_
    refine W.region ?_
    refine L.pu hC rfl rfl (fun _ => All.nil) rfl rfl ?_; clear hC a; intro a hC
    refine L.nil ?_
    refine hk6 _ _ ?_; clear hk6; try clear k6
    refine W.seqk fun k7 hk7 => ?_
    refine W.seqk fun k8 hk8 => ?_
    refine W.region ?_
    refine L.pu hC rfl rfl (fun _ => All.nil) rfl rfl ?_; clear hC a; intro a hC
    refine L.fa hC rfl rfl rfl (fun _ => All.nil) Try.underlying200 rfl Try.sizeOf3 rfl rfl rfl ?_; clear hC a; intro a hC
    refine L.ld hC rfl rfl rfl (fun _ => All.nil) m5 Try.isAgg3 rfl rfl rfl ?_; clear hC a; intro a hC
    refine L.fa hC rfl rfl rfl (fun _ => All.nil) Try.underlying157 rfl Try.sizeOf3 rfl rfl rfl ?_; clear hC a; intro a hC
    refine L.ld hC rfl rfl rfl (fun _ => All.nil) m6 Try.isAgg3 rfl rfl rfl ?_; clear hC a; intro a hC
    refine L.pu hC rfl rfl (fun _ => All.nil) rfl rfl ?_; clear hC a; intro a hC
    refine L.fa hC rfl rfl rfl (fun _ => All.nil) Try.underlying200 rfl Try.sizeOf3 rfl rfl rfl ?_; clear hC a; intro a hC
    refine L.ld hC rfl rfl rfl (fun _ => All.nil) m5 Try.isAgg3 rfl rfl rfl ?_; clear hC a; intro a hC
    refine L.pu hC rfl rfl (fun _ => All.nil) rfl rfl ?_; clear hC a; intro a hC
    refine L.fa hC rfl rfl rfl (fun _ => All.nil) Try.underlying157 rfl Try.sizeOf3 rfl rfl rfl ?_; clear hC a; intro a hC
    refine L.ld hC rfl rfl rfl (fun _ => All.nil) m6 Try.isAgg3 rfl rfl rfl ?_; clear hC a; intro a hC
    refine L.pu hC rfl rfl (fun _ => All.nil) rfl rfl ?_; clear hC a; intro a hC
    replace hC := hC.subl (.cons_cons _ (.cons _ (.cons _ (.cons _ (.cons _ (.cons_cons _ (.cons_cons _ (.cons_cons _ .slnil))))))))
    replace hC := hC.fr3
    replace hC := hC.fr3
    replace hC := hC.fr3
    replace hC := hC.fr3
    replace hC := hC.dup (r' := rdR v15 intE (shufR (hints seed [round]) (ids.length : Int)).2.1) m0 (fun b h => h.2.elim) (hC.at m0 trivial) (fun b h => h.elim) (fun b h => ⟨trivial, h⟩)
    refine L.cutrd hC rfl rfl rfl m0 rfl rfl (p := p) (q := q) (by rw [hp, w64 (by omega)]) (by rw [w64 (x := at' + 1) (by omega), hq, w64 (by omega)]) hpq hql Try.underlying37 Try.sizeOf3 rfl rfl ?_; clear hC a; intro pv a hC
    refine L.len hC rfl rfl rfl (fun _ => All.nil) (rd_form (hC.at m0)) Try.underlying37 rfl rfl ?_; clear hC a; intro a hC
    refine L.pu hC rfl rfl (fun _ => All.nil) rfl rfl ?_; clear hC a; intro a hC
    refine L.nil ?_
    refine hk8 _ _ ?_; clear hk8; try clear k8
    refine W.block ?_
    replace hC := hC.nilown (ty := 3) (E := intE)
    obtain ⟨PT, hPT⟩ : ∃ x, (((shufR (hints seed [round]) (ids.length : Int)).2.1.drop p).take (q - p)) = x := ⟨_, rfl⟩
    have hPl : PT.length = q - p := by rw [← hPT, List.length_take, List.length_drop]; omega
    have hPm : ∀ x ∈ PT, 0 ≤ x ∧ x < ids.length := fun x hx => by rw [← hPT] at hx; exact hmem x (List.mem_of_mem_drop (List.mem_of_mem_take hx))
    rw [hPT] at hC
    replace hC := hC.subl (.cons_cons _ (.cons_cons _ (.cons _ (.cons _ (.cons _ (.cons_cons _ (.cons_cons _ .slnil)))))))
    replace hC := hC.fr3
    replace hC := hC.fr3
    replace hC := hC.fr3
    replace hC := hC.fr3
    refine W.loop (fun (gst : Nat × Value × List Int) a w' => match gst with | ⟨j, ov, outs⟩ => (j ≤ PT.length) ∧ (outs = (PT.take j).map fun i => ids[i.toNat]!) ∧ Conf 64 Nob w0 [(48, (none, .int .i64 (j : Int))), (47, (none, .int .i64 (PT.length : Int))), (46, (none, pv)), (8, (none, ov)), (2, (none, .pointer (some ⟨db, 0, none⟩)))] [ownR ov 3 intE outs, rdR pv intE PT, blkR db (dE v size seed) 157, rdR v intE ids] a w') (fun (gst : Nat × Value × List Int) => match gst with | ⟨j, ov, outs⟩ => PT.length - j) (0, .slice none 0 0, []) ?_ ?_
    · exact ⟨Nat.zero_le _, rfl, hC.keep ⟨rfl, rfl, rfl, rfl, rfl, trivial⟩⟩
    · rintro ⟨j, ov, outs⟩ a w ⟨hj, ho, hC⟩
      have hol : outs.length = j := by rw [ho]; simp; omega
      refine W.seqk fun k9 hk9 => ?_
      refine W.region ?_
      refine L.pu hC rfl rfl (fun _ => All.nil) rfl rfl ?_; clear hC a; intro a hC
      refine L.nil ?_
      refine hk9 _ _ ?_; clear hk9; try clear k9
      refine W.seqk fun k10 hk10 => ?_
      refine W.cond hC rfl (fun h2 => ?_) (fun h2 => ?_)
      ·
        have h2 := of_decide_eq_true h2
        refine W.skip ?_
        refine hk10 _ _ ?_; clear hk10; try clear k10
        refine W.seqk fun k11 hk11 => ?_
        refine W.block ?_
        refine W.seqk fun k12 hk12 => ?_
        refine W.region ?_
        refine L.ixr hC rfl rfl rfl rfl m1 (fun _ => All.nil) (fun _ => All.nil) Try.underlying37 Try.sizeOf3 (fun _ => by omega) rfl rfl ?_; clear hC a; intro a hC
        refine L.ldx hC rfl rfl rfl rfl (fun _ => All.nil) (fun hg => rd_bang hC m1 (by omega) _) Try.isAgg3 rfl rfl rfl ?_; clear hC a; intro a hC
        refine L.pu hC rfl rfl (fun _ => All.nil) rfl rfl ?_; clear hC a; intro a hC
        refine L.nil ?_
        refine hk12 _ _ ?_; clear hk12; try clear k12
        refine W.region ?_
        refine L.pu hC rfl rfl (fun _ => All.nil) rfl rfl ?_; clear hC a; intro a hC
        refine L.fa hC rfl rfl rfl (fun _ => All.nil) Try.underlying157 rfl Try.sizeOf37 rfl rfl rfl ?_; clear hC a; intro a hC
        refine L.ld hC rfl rfl rfl (fun _ => All.nil) m2 Try.isAgg37 rfl rfl rfl ?_; clear hC a; intro a hC
        refine L.pu hC rfl rfl (fun _ => All.nil) rfl rfl ?_; clear hC a; intro a hC
        refine L.ixr hC rfl rfl rfl rfl m3 (fun _ => All.nil) (fun _ => All.nil) Try.underlying37 Try.sizeOf3 (fun _ => hPm _ (bang_mem' (by omega))) rfl rfl ?_; clear hC a; intro a hC
        refine L.ldx hC rfl rfl rfl rfl (fun _ => All.nil) (fun hg => rd_bang hC m3 (by have := hPm _ (bang_mem' (l := PT) (j := j) (by omega)); simp only [Int.toNat_natCast]; omega) _) Try.isAgg3 rfl rfl rfl ?_; clear hC a; intro a hC
        refine L.litsP hC rfl rfl rfl (fun _ => All.nil) Try.underlying37 Try.infoI3 rfl rfl rfl rfl rfl rfl rfl rfl ?_; clear hC a; intro a w v6 hF hC
        replace hC := hC.fr1
        refine L.appr hC rfl rfl rfl rfl (hC.at m1 trivial) Try.underlying37 Try.infoI3 rfl (by simp; omega) (by simp; omega) rfl rfl ?_; clear hC a; intro v3 a w hF hC
        refine L.pu hC rfl rfl (fun _ => All.nil) rfl rfl ?_; clear hC a; intro a hC
        refine L.nil ?_
        refine hk11 _ _ ?_; clear hk11; try clear k11
        refine W.region ?_
        refine L.pu hC rfl rfl (fun _ => All.nil) rfl rfl ?_; clear hC a; intro a hC
        refine L.pu hC rfl rfl (fun _ => All.nil) rfl rfl ?_; clear hC a; intro a hC
        refine L.nil ?_
        replace hC := hC.subl (.cons_cons _ (.cons _ (.cons_cons _ (.cons_cons _ (.cons_cons _ .slnil)))))
        replace hC := hC.fr3
        replace hC := hC.fr3
        replace hC := hC.fr3
        replace hC := hC.fr3
        exact ⟨(j + 1, v3, outs ++ [ids[(PT[j]!).toNat]!]), ⟨by omega, by rw [ho, take_snoc' (by omega), List.map_append]; rfl, hC.keep ⟨geti rfl (w64 (by omega)), rfl, rfl, rfl, rfl, trivial⟩⟩, by first | omega | (dsimp only; omega)⟩
      ·
        have h2 := of_decide_eq_false h2
        refine W.exit ?_
        refine Kb.here ?_
        refine hk7 _ _ ?_; clear hk7; try clear k7
        refine W.seqk fun k13 hk13 => ?_
        refine W.region ?_
        refine L.pu hC rfl rfl (fun _ => All.nil) rfl rfl ?_; clear hC a; intro a hC
        refine L.callg [_] hC rfl rfl Try.call158 rfl (sort_ok _ _ _ (hC.at m0) (by omega)) (fun b h => ⟨_, m0, h⟩) rfl rfl ?_; clear hC a; intro _ a w hQ hC
        refine L.nil ?_
        refine hk13 _ _ ?_; clear hk13; try clear k13
        refine W.seqk fun k14 hk14 => ?_
        refine W.region ?_
        refine L.pu hC rfl rfl (fun _ => All.nil) rfl rfl ?_; clear hC a; intro a hC
        refine L.pu hC rfl rfl (fun _ => All.nil) rfl rfl ?_; clear hC a; intro a hC
        refine L.nil ?_
        refine hk14 _ _ ?_; clear hk14; try clear k14
        refine W.ret ?_
        refine rets hC rfl (.tmp rfl .nil) ?_
        replace hC := hC.subl (.cons_cons _ (.cons _ (.cons _ (.cons _ .slnil))))
        exact ⟨_, rfl, trivial, by unfold handR; rw [if_neg (nt h1), hPT]; rw [ho, List.take_of_length_le (by omega)] at hC; exact hC.toPost (by simp [ownR])⟩

end Go.Proofs.E
