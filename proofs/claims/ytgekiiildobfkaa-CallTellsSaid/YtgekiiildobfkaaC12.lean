/- CallOwn: the walk. -/
import Derived.Test.YtgekiiildobfkaaC11
set_option linter.unusedVariables false
set_option linter.unusedSimpArgs false
namespace Go.Proofs.E
open Go.RowKit
theorem own27_law (c : CallH) (v : Value) (s : CSet) (x : Att) (l : List Att) (tick : Int) (w0 : World) (hr : (rdR v attE l).ok w0) (hz : l.length * 48 ≤ 140737488355328) : Calls Try.prog 7 #[.agg (callE c v).toArray, .agg (csE s).toArray, .agg (attE.enc x).toArray, .int .i64 tick] w0 fun e w' => e = .returned (.bool true) ∧ Frm Nob w0 w' := by
  obtain ⟨vA, vc, hv, _, _⟩ := id hr
  subst hv
  have hlen := rd_lt hr
  refine enter (μ := [rdR (.slice vA l.length vc) attE l]) (S := Nob) (vs := [.agg (callE c (.slice vA l.length vc)).toArray, .agg (csE s).toArray, .agg (attE.enc x).toArray, .int .i64 tick]) Try.func7 rfl Try.ntmps7 rfl ⟨by simpa using hr, by simp⟩ (by simp [rdR]) (fun a hC => ?_)
  refine W.seqk fun k1 hk1 => ?_
  refine W.region ?_
  refine L.box hC rfl rfl rfl rfl rfl rfl ?_; clear hC a; intro cb a w hF hC
  refine L.box hC rfl rfl rfl rfl rfl rfl ?_; clear hC a; intro sb a w hF hC
  refine L.box hC rfl rfl rfl rfl rfl rfl ?_; clear hC a; intro ab a w hF hC
  refine L.pu hC rfl rfl (fun _ => All.nil) rfl rfl ?_; clear hC a; intro a hC
  refine L.nil ?_
  refine hk1 _ _ ?_; clear hk1; try clear k1
  refine W.seqk fun k2 hk2 => ?_
  refine W.seqk fun k3 hk3 => ?_
  refine W.region ?_
  refine L.call hC rfl rfl Try.call26 rfl (fun _ => All.nil) (fun hg => alive27_ok _) rfl rfl ?_; clear hC a; intro a w hF hC
  refine L.pu hC rfl rfl (fun _ => All.nil) rfl rfl ?_; clear hC a; intro a hC
  refine L.nil ?_
  refine hk3 _ _ ?_; clear hk3; try clear k3
  refine W.cond hC rfl (fun h1 => ?_) (fun h1 => ?_)
  ·
    exact absurd h1 (by simp)
  ·
    refine W.skip ?_
    refine hk2 _ _ ?_; clear hk2; try clear k2
    refine W.seqk fun k4 hk4 => ?_
    refine W.region ?_
    refine L.lda hC rfl rfl rfl (fun _ => All.nil) m2 Try.isAgg56 Try.sizeOf56 rfl rfl rfl rfl ?_; clear hC a; intro a hC
    refine L.callg [] hC rfl rfl Try.call30 rfl (Own_ok c _ l _ (hC.at m3) hz) (fun b h => h.elim) rfl rfl ?_; clear hC a; intro ov a w hQ hC
    refine L.alloc hC rfl rfl Try.zeroValue56 rfl rfl rfl ?_; clear hC a; intro nb a w hF hC
    refine L.st hC rfl rfl rfl rfl Try.sizeOf56 rfl rfl (by obtain ⟨oA, oc, hov⟩ := own_form (hC.at m1); rw [hov]; rfl) rfl rfl ?_; clear hC a; intro a w hF hC
    refine L.nil ?_
    refine hk4 _ _ ?_; clear hk4; try clear k4
    refine W.seqk fun k5 hk5 => ?_
    refine W.region ?_
    refine L.lda hC rfl rfl rfl (fun _ => All.nil) m0 Try.isAgg56 Try.sizeOf56 rfl rfl rfl rfl ?_; clear hC a; intro a hC
    refine L.lda hC rfl rfl rfl (fun _ => All.nil) m3 Try.isAgg60 Try.sizeOf60 rfl rfl rfl rfl ?_; clear hC a; intro a hC
    refine L.lda hC rfl rfl rfl (fun _ => All.nil) m2 Try.isAgg65 Try.sizeOf65 rfl rfl rfl rfl ?_; clear hC a; intro a hC
    refine L.bsP hC rfl rfl rfl Try.underlying54 Try.infoI65 rfl rfl rfl rfl rfl rfl rfl ?_; clear hC a; intro la a w hF hC
    replace hC := hC.litown (E := attE) [x] rfl (Nat.le_of_ble_eq_true rfl)
    refine L.callg [] hC rfl rfl Try.call31 rfl (Send_ok c ov _ s l [x] _ (own_rd (hC.at m2)) (own_rd (hC.at m0))) (fun b h => h.elim) rfl rfl ?_; clear hC a; intro v1 a w hQ hC
    refine L.pu hC rfl rfl (fun _ => All.nil) rfl rfl ?_; clear hC a; intro a hC
    refine L.pu hC rfl rfl (fun _ => All.nil) rfl rfl ?_; clear hC a; intro a hC
    refine L.pu hC rfl rfl (fun _ => All.nil) rfl rfl ?_; clear hC a; intro a hC
    refine L.alloc hC rfl rfl Try.zeroValue56 rfl rfl rfl ?_; clear hC a; intro s1b a w hF hC
    refine L.st hC rfl rfl rfl rfl Try.sizeOf56 rfl rfl (by obtain ⟨oA, oc, hov⟩ := own_form (hC.at m1); rw [hov]; rfl) rfl rfl ?_; clear hC a; intro a w hF hC
    refine L.pu hC rfl rfl (fun _ => All.nil) rfl rfl ?_; clear hC a; intro a hC
    refine L.nil ?_
    refine hk5 _ _ ?_; clear hk5; try clear k5
    refine W.seqk fun k6 hk6 => ?_
    refine W.region ?_
    refine L.lda hC rfl rfl rfl (fun _ => All.nil) m3 Try.isAgg56 Try.sizeOf56 rfl rfl rfl rfl ?_; clear hC a; intro a hC
    refine L.lda hC rfl rfl rfl (fun _ => All.nil) m6 Try.isAgg60 Try.sizeOf60 rfl rfl rfl rfl ?_; clear hC a; intro a hC
    refine L.pu hC rfl rfl (fun _ => All.nil) rfl rfl ?_; clear hC a; intro a hC
    refine L.callg [] hC rfl rfl Try.call29 rfl (Over_ok c ov (.slice none 0 0) s l tick 5 [] _ (own_rd (hC.at m4)) rd_nil) (fun b h => h.elim) rfl rfl ?_; clear hC a; intro v2 a w hQ hC
    refine L.pu hC rfl rfl (fun _ => All.nil) rfl rfl ?_; clear hC a; intro a hC
    refine L.pu hC rfl rfl (fun _ => All.nil) rfl rfl ?_; clear hC a; intro a hC
    refine L.pu hC rfl rfl (fun _ => All.nil) rfl rfl ?_; clear hC a; intro a hC
    refine L.alloc hC rfl rfl Try.zeroValue56 rfl rfl rfl ?_; clear hC a; intro o1b a w hF hC
    refine L.st hC rfl rfl rfl rfl Try.sizeOf56 rfl rfl (by obtain ⟨oA, oc, hov⟩ := own_form (hC.at m1); rw [hov]; rfl) rfl rfl ?_; clear hC a; intro a w hF hC
    refine L.pu hC rfl rfl (fun _ => All.nil) rfl rfl ?_; clear hC a; intro a hC
    refine L.nil ?_
    refine hk6 _ _ ?_; clear hk6; try clear k6
    refine W.seqk fun k7 hk7 => ?_
    refine W.seqk fun k8 hk8 => ?_
    refine W.region ?_
    refine L.pu hC rfl rfl (fun _ => All.nil) rfl rfl ?_; clear hC a; intro a hC
    refine L.nil ?_
    refine hk8 _ _ ?_; clear hk8; try clear k8
    refine W.block ?_
    replace hC := hC.subl (.cons_cons _ (.cons_cons _ (.cons_cons _ (.cons_cons _ (.cons _ (.cons_cons _ (.cons_cons _ (.cons_cons _ (.cons_cons _ (.cons_cons _ (.cons_cons _ .slnil)))))))))))
    replace hC := hC.fr9
    replace hC := hC.fr7
    replace hC := hC.fr8
    replace hC := hC.fr9
    replace hC := hC.fr5
    replace hC := hC.fr5
    replace hC := hC.fr7
    replace hC := hC.fr7
    replace hC := hC.fr9
    replace hC := hC.fr9
    refine W.loop (fun (gst : Nat × List Att) a w' => match gst with | ⟨j, m⟩ => (j ≤ l.length) ∧ (m.length = l.length) ∧ Conf 85 Nob w0 [(14, (none, .int .i64 (j : Int))), (9, (none, .pointer (some ⟨nb, 0, none⟩))), (10, (none, .pointer (some ⟨s1b, 0, none⟩))), (12, (none, .pointer (some ⟨o1b, 0, none⟩))), (4, (none, .pointer (some ⟨cb, 0, none⟩))), (5, (none, .pointer (some ⟨sb, 0, none⟩))), (6, (none, .pointer (some ⟨ab, 0, none⟩))), (3, (none, .int .i64 tick)), (11, (none, .int .i64 (sendR c s l [x]).2.2)), (13, (none, .int .i64 (overR c s l tick 5 []).2.2))] [blkR nb (callE c ov) 56, ownR ov 65 attE m, blkR s1b (callE (sendR c s l [x]).1 v1) 56, ownR v1 65 attE (sendR c s l [x]).2.1, blkR o1b (callE (overR c s l tick 5 []).1 v2) 56, ownR v2 65 attE (overR c s l tick 5 []).2.1, blkR cb (callE c (.slice vA l.length vc)) 56, blkR sb (csE s) 60, blkR ab (attE.enc x) 65, rdR (.slice vA l.length vc) attE l] a w') (fun (gst : Nat × List Att) => match gst with | ⟨j, m⟩ => l.length - j) (0, l) ?_ ?_
    · exact ⟨Nat.zero_le _, rfl, hC.keep ⟨rfl, rfl, rfl, rfl, rfl, rfl, rfl, rfl, rfl, rfl, trivial⟩⟩
    · rintro ⟨j, m⟩ a w ⟨hj, hml, hC⟩
      refine W.seqk fun k9 hk9 => ?_
      refine W.seqk fun k10 hk10 => ?_
      refine W.region ?_
      refine L.pu hC rfl rfl (fun _ => All.nil) rfl rfl ?_; clear hC a; intro a hC
      refine L.fa hC rfl rfl rfl (fun _ => All.nil) Try.underlying56 rfl Try.sizeOf54 rfl rfl rfl ?_; clear hC a; intro a hC
      refine L.ld hC rfl rfl rfl (fun _ => All.nil) m0 Try.isAgg54 rfl rfl rfl ?_; clear hC a; intro a hC
      refine L.len hC rfl rfl rfl (fun _ => All.nil) (own_form (hC.at m1)) Try.underlying54 rfl rfl ?_; clear hC a; intro a hC
      refine L.pu hC rfl rfl (fun _ => All.nil) rfl rfl ?_; clear hC a; intro a hC
      refine L.nil ?_
      refine hk10 _ _ ?_; clear hk10; try clear k10
      refine W.cond hC rfl (fun h2 => ?_) (fun h2 => ?_)
      ·
        have h2 := of_decide_eq_true h2
        refine W.skip ?_
        refine hk9 _ _ ?_; clear hk9; try clear k9
        refine W.seqk fun k11 hk11 => ?_
        refine W.block ?_
        refine W.region ?_
        refine L.fa hC rfl rfl rfl (fun _ => All.nil) Try.underlying56 rfl Try.sizeOf54 rfl rfl rfl ?_; clear hC a; intro a hC
        refine L.ld hC rfl rfl rfl (fun _ => All.nil) m0 Try.isAgg54 rfl rfl rfl ?_; clear hC a; intro a hC
        refine L.pu hC rfl rfl (fun _ => All.nil) rfl rfl ?_; clear hC a; intro a hC
        refine L.buildS (ps := [(0, 1), (1, 1), (2, 1), (3, 1), (4, 1), (5, 1), (6, 1), (7, 1)]) hC rfl rfl rfl (fun _ => All.nil) Try.zeroValue65 Try.underlying65 ⟨⟨rfl, Try.sizeOf3⟩, ⟨rfl, Try.sizeOf3⟩, ⟨rfl, Try.sizeOf3⟩, ⟨rfl, Try.sizeOf3⟩, ⟨rfl, Try.sizeOf3⟩, ⟨rfl, Try.sizeOf4⟩, ⟨rfl, Try.sizeOf4⟩, ⟨rfl, Try.sizeOf4⟩, trivial⟩ rfl rfl rfl ?_; clear hC a; intro a hC
        refine L.ixo hC rfl rfl rfl rfl m1 (fun _ => All.nil) (fun _ => All.nil) Try.underlying54 Try.sizeOf65 (fun _ => by omega) rfl rfl ?_; clear hC a; intro a hC
        replace hC := hC.fr1
        refine L.ste hC rfl rfl rfl rfl rfl Try.sizeOf65 rfl rfl rfl (by omega) (Nat.le_of_ble_eq_true rfl) (x' := default) rfl rfl ?_; clear hC a; intro a w hF hC
        refine L.nil ?_
        refine hk11 _ _ ?_; clear hk11; try clear k11
        refine W.region ?_
        refine L.pu hC rfl rfl (fun _ => All.nil) rfl rfl ?_; clear hC a; intro a hC
        refine L.pu hC rfl rfl (fun _ => All.nil) rfl rfl ?_; clear hC a; intro a hC
        refine L.pu hC rfl rfl (fun _ => All.nil) rfl rfl ?_; clear hC a; intro a hC
        refine L.nil ?_
        replace hC := hC.fr9
        replace hC := hC.fr9
        replace hC := hC.fr9
        replace hC := hC.fr9
        replace hC := hC.fr9
        replace hC := hC.fr9
        replace hC := hC.fr9
        replace hC := hC.fr9
        replace hC := hC.fr8
        replace hC := hC.fr9
        exact ⟨(j + 1, m.set j default), ⟨by omega, by rw [List.length_set]; exact hml, hC.keep ⟨geti rfl (w64 (by omega)), rfl, rfl, rfl, rfl, rfl, rfl, rfl, rfl, rfl, trivial⟩⟩, by first | omega | (dsimp only; omega)⟩
      ·
        have h2 := of_decide_eq_false h2
        refine W.exit ?_
        refine Kb.here ?_
        refine hk7 _ _ ?_; clear hk7; try clear k7
        refine W.seqk fun k12 hk12 => ?_
        refine W.region ?_
        refine L.lda hC rfl rfl rfl (fun _ => All.nil) m6 Try.isAgg56 Try.sizeOf56 rfl rfl rfl rfl ?_; clear hC a; intro a hC
        refine L.lda hC rfl rfl rfl (fun _ => All.nil) m7 Try.isAgg60 Try.sizeOf60 rfl rfl rfl rfl ?_; clear hC a; intro a hC
        refine L.lda hC rfl rfl rfl (fun _ => All.nil) (.tail _ m7) Try.isAgg65 Try.sizeOf65 rfl rfl rfl rfl ?_; clear hC a; intro a hC
        refine L.bsP hC rfl rfl rfl Try.underlying54 Try.infoI65 rfl rfl rfl rfl rfl rfl rfl ?_; clear hC a; intro lb a w hF hC
        replace hC := hC.litown (E := attE) [x] rfl (Nat.le_of_ble_eq_true rfl)
        refine L.callg [] hC rfl rfl Try.call32 rfl (Sendr_ok c _ _ s l [x] _ (hC.at (.tail _ (.tail _ (.tail _ m7)))) (own_rd (hC.at m0))) (fun b h => h.elim) rfl rfl ?_; clear hC a; intro v3 a w hQ hC
        refine L.pu hC rfl rfl (fun _ => All.nil) rfl rfl ?_; clear hC a; intro a hC
        refine L.pu hC rfl rfl (fun _ => All.nil) rfl rfl ?_; clear hC a; intro a hC
        refine L.pu hC rfl rfl (fun _ => All.nil) rfl rfl ?_; clear hC a; intro a hC
        refine L.alloc hC rfl rfl Try.zeroValue56 rfl rfl rfl ?_; clear hC a; intro s2b a w hF hC
        refine L.st hC rfl rfl rfl rfl Try.sizeOf56 rfl rfl (by obtain ⟨oA, oc, hov⟩ := own_form (hC.at m1); rw [hov]; rfl) rfl rfl ?_; clear hC a; intro a w hF hC
        refine L.pu hC rfl rfl (fun _ => All.nil) rfl rfl ?_; clear hC a; intro a hC
        refine L.nil ?_
        refine hk12 _ _ ?_; clear hk12; try clear k12
        refine W.seqk fun k13 hk13 => ?_
        refine W.region ?_
        refine L.lda hC rfl rfl rfl (fun _ => All.nil) (.tail _ (.tail _ m7)) Try.isAgg56 Try.sizeOf56 rfl rfl rfl rfl ?_; clear hC a; intro a hC
        refine L.lda hC rfl rfl rfl (fun _ => All.nil) (.tail _ (.tail _ (.tail _ m7))) Try.isAgg60 Try.sizeOf60 rfl rfl rfl rfl ?_; clear hC a; intro a hC
        refine L.pu hC rfl rfl (fun _ => All.nil) rfl rfl ?_; clear hC a; intro a hC
        refine L.callg [] hC rfl rfl Try.call33 rfl (Overr_ok c _ (.slice none 0 0) s l tick 5 (by decide) [] _ (hC.at (.tail _ (.tail _ (.tail _ (.tail _ (.tail _ m7)))))) rd_nil) (fun b h => h.elim) rfl rfl ?_; clear hC a; intro v4 a w hQ hC
        refine L.pu hC rfl rfl (fun _ => All.nil) rfl rfl ?_; clear hC a; intro a hC
        refine L.pu hC rfl rfl (fun _ => All.nil) rfl rfl ?_; clear hC a; intro a hC
        refine L.pu hC rfl rfl (fun _ => All.nil) rfl rfl ?_; clear hC a; intro a hC
        refine L.alloc hC rfl rfl Try.zeroValue56 rfl rfl rfl ?_; clear hC a; intro o2b a w hF hC
        refine L.st hC rfl rfl rfl rfl Try.sizeOf56 rfl rfl (by obtain ⟨oA, oc, hov⟩ := own_form (hC.at m1); rw [hov]; rfl) rfl rfl ?_; clear hC a; intro a w hF hC
        refine L.pu hC rfl rfl (fun _ => All.nil) rfl rfl ?_; clear hC a; intro a hC
        refine L.nil ?_
        refine hk13 _ _ ?_; clear hk13; try clear k13
        refine W.seqk fun k14 hk14 => ?_
        refine W.region ?_
        refine L.lda hC rfl rfl rfl (fun _ => All.nil) m7 Try.isAgg56 Try.sizeOf56 rfl rfl rfl rfl ?_; clear hC a; intro a hC
        refine L.lda hC rfl rfl rfl (fun _ => All.nil) m2 Try.isAgg56 Try.sizeOf56 rfl rfl rfl rfl ?_; clear hC a; intro a hC
        refine L.call hC rfl rfl Try.call34 rfl (fun _ => All.nil) (fun hg => sameC_ok (sendR c s l [x]).1 v1 v3 (sendR c s l [x]).2.1 _ (own_rd (hC.at (.tail _ m7))) (own_rd (hC.at m3))) rfl rfl ?_; clear hC a; intro a w hF hC
        refine L.pu hC rfl rfl (fun _ => All.nil) rfl rfl ?_; clear hC a; intro a hC
        refine L.pu hC rfl rfl (fun _ => All.nil) rfl rfl ?_; clear hC a; intro a hC
        refine L.call hC rfl rfl Try.call28 rfl (fun hg => by first | (simp only [Gt, Bool.and_eq_true] at hg; simp only [All, List.cons_append, List.nil_append, List.append_nil, List.mem_cons, List.not_mem_nil, or_false, forall_eq_or_imp, forall_eq, Bool.and_eq_true, hg, Bool.not_false, Bool.not_true, and_self]; done) | (simp only [Gt] at hg; simp only [All, List.cons_append, List.nil_append, List.append_nil, List.mem_cons, List.not_mem_nil, or_false, forall_eq_or_imp, forall_eq, hg, and_self])) (fun hg => num27_ok _ _) rfl rfl ?_; clear hC a; intro a w hF hC
        refine L.pu hC rfl rfl (fun _ => All.nil) rfl rfl ?_; clear hC a; intro a hC
        refine L.pu hC rfl rfl (fun hg => by first | (simp only [Gt, Bool.and_eq_true] at hg; simp only [All, List.cons_append, List.nil_append, List.append_nil, List.mem_cons, List.not_mem_nil, or_false, forall_eq_or_imp, forall_eq, Bool.and_eq_true, hg, Bool.not_false, Bool.not_true, and_self]; done) | (simp only [Gt] at hg; simp only [All, List.cons_append, List.nil_append, List.append_nil, List.mem_cons, List.not_mem_nil, or_false, forall_eq_or_imp, forall_eq, hg, and_self])) rfl rfl ?_; clear hC a; intro a hC
        refine L.and hC rfl rfl rfl rfl (fun _ => All.nil) (fun _ hp => by first | (simp only [All, List.cons_append, List.nil_append, List.append_nil, List.mem_cons, List.not_mem_nil, or_false, forall_eq_or_imp, forall_eq, Bool.and_eq_true, hp, Bool.not_false, Bool.not_true, and_self]; done) | simp [All, hp]) rfl rfl ?_; clear hC a; intro a hC
        refine L.pu hC rfl rfl (fun _ => All.nil) rfl rfl ?_; clear hC a; intro a hC
        refine L.lda hC rfl rfl rfl (fun _ => All.nil) (.tail _ (.tail _ m7)) Try.isAgg56 Try.sizeOf56 rfl rfl rfl rfl ?_; clear hC a; intro a hC
        refine L.lda hC rfl rfl rfl (fun _ => All.nil) m0 Try.isAgg56 Try.sizeOf56 rfl rfl rfl rfl ?_; clear hC a; intro a hC
        refine L.call hC rfl rfl Try.call34 rfl (fun hg => by first | (simp only [Gt, Bool.and_eq_true] at hg; simp only [All, List.cons_append, List.nil_append, List.append_nil, List.mem_cons, List.not_mem_nil, or_false, forall_eq_or_imp, forall_eq, Bool.and_eq_true, hg, Bool.not_false, Bool.not_true, and_self]; done) | (simp only [Gt] at hg; simp only [All, List.cons_append, List.nil_append, List.append_nil, List.mem_cons, List.not_mem_nil, or_false, forall_eq_or_imp, forall_eq, hg, and_self])) (fun hg => sameC_ok (overR c s l tick 5 []).1 v2 v4 (overR c s l tick 5 []).2.1 _ (own_rd (hC.at (.tail _ (.tail _ (.tail _ m7))))) (own_rd (hC.at m1))) rfl rfl ?_; clear hC a; intro a w hF hC
        refine L.and hC rfl rfl rfl rfl (fun _ => All.nil) (fun _ hp => by first | (simp only [All, List.cons_append, List.nil_append, List.append_nil, List.mem_cons, List.not_mem_nil, or_false, forall_eq_or_imp, forall_eq, Bool.and_eq_true, hp, Bool.not_false, Bool.not_true, and_self]; done) | simp [All, hp]) rfl rfl ?_; clear hC a; intro a hC
        refine L.pu hC rfl rfl (fun _ => All.nil) rfl rfl ?_; clear hC a; intro a hC
        refine L.pu hC rfl rfl (fun _ => All.nil) rfl rfl ?_; clear hC a; intro a hC
        refine L.call hC rfl rfl Try.call28 rfl (fun hg => by first | (simp only [Gt, Bool.and_eq_true] at hg; simp only [All, List.cons_append, List.nil_append, List.append_nil, List.mem_cons, List.not_mem_nil, or_false, forall_eq_or_imp, forall_eq, Bool.and_eq_true, hg, Bool.not_false, Bool.not_true, and_self]; done) | (simp only [Gt] at hg; simp only [All, List.cons_append, List.nil_append, List.append_nil, List.mem_cons, List.not_mem_nil, or_false, forall_eq_or_imp, forall_eq, hg, and_self])) (fun hg => num27_ok _ _) rfl rfl ?_; clear hC a; intro a w hF hC
        refine L.pu hC rfl rfl (fun _ => All.nil) rfl rfl ?_; clear hC a; intro a hC
        refine L.pu hC rfl rfl (fun hg => by first | (simp only [Gt, Bool.and_eq_true] at hg; simp only [All, List.cons_append, List.nil_append, List.append_nil, List.mem_cons, List.not_mem_nil, or_false, forall_eq_or_imp, forall_eq, Bool.and_eq_true, hg, Bool.not_false, Bool.not_true, and_self]; done) | (simp only [Gt] at hg; simp only [All, List.cons_append, List.nil_append, List.append_nil, List.mem_cons, List.not_mem_nil, or_false, forall_eq_or_imp, forall_eq, hg, and_self])) rfl rfl ?_; clear hC a; intro a hC
        refine L.and hC rfl rfl rfl rfl (fun _ => All.nil) (fun _ hp => by first | (simp only [All, List.cons_append, List.nil_append, List.append_nil, List.mem_cons, List.not_mem_nil, or_false, forall_eq_or_imp, forall_eq, Bool.and_eq_true, hp, Bool.not_false, Bool.not_true, and_self]; done) | simp [All, hp]) rfl rfl ?_; clear hC a; intro a hC
        refine L.pu hC rfl rfl (fun _ => All.nil) rfl rfl ?_; clear hC a; intro a hC
        refine L.nil ?_
        refine hk14 _ _ ?_; clear hk14; try clear k14
        refine W.ret ?_
        refine rets hC rfl (.tmp rfl .nil) ?_
        refine ⟨?_, hC.frm⟩
        refine rb ?_
        simp

end Go.Proofs.E
