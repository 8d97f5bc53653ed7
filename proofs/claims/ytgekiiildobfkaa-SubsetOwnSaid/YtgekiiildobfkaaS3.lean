/- Shuffles. -/
import Derived.Test.YtgekiiildobfkaaS2
set_option linter.unusedVariables false
set_option linter.unusedSimpArgs false
namespace Go.Proofs.E
open Go.RowKit
theorem own_cap {α : Type _} {v : Value} {ty : TypeId} {E : Enc α} {l : List α} {w : World} {A : Option Addr} {m c : Nat} (h : (ownR v ty E l).ok w) (hv : v = .slice A m c) : m ≤ c := by
  have hown : w.ownsRow 0 ty E.sz v l.length (E.flat l) := h
  rcases hown.2 with ⟨h1, h0⟩ | ⟨g, cap, cur, h1, _, _, hcap, _⟩
  · rw [h1] at hv; simp at hv; omega
  · rw [h1] at hv; simp only [Value.slice.injEq] at hv; omega
def upI (n : Nat) : List Int := (List.range n).map fun (i : Nat) => (i : Int)
theorem upI_len (n : Nat) : (upI n).length = n := by simp [upI]
theorem upI_snoc (n : Nat) : upI n ++ [(n : Int)] = upI (n + 1) := by simp [upI, List.range_succ]
def swpI (l : List Int) (i k : Nat) : List Int := (l.set i l[k]!).set k l[i]!
theorem swpI_len (l : List Int) (i k : Nat) : (swpI l i k).length = l.length := by simp [swpI]
def shuf : Nat → Int → List Int → Int × List Int
  | 0, s, l => (s, l)
  | m + 1, s, l => if 1 < m + 1 then shuf m (nextS s) (swpI l (drawK s ((m + 1 : Nat) : Int)).toNat m) else (s, l)
theorem shuf_step {m : Nat} {s : Int} {l : List Int} (h : 1 < m) : shuf m s l = shuf (m - 1) (nextS s) (swpI l (drawK s m).toNat (m - 1)) := by
  cases m with
  | zero => omega
  | succ m => rw [shuf, if_pos h]; rfl
theorem shuf_end {m : Nat} {s : Int} {l : List Int} (h : ¬ 1 < m) : shuf m s l = (s, l) := by
  cases m with
  | zero => rfl
  | succ m => rw [shuf, if_neg h]
def shufR (s n : Int) : Int × List Int × Int := if (decide (n < 0) || decide (n > 1024)) = true then (0, [], 4) else ((shuf n.toNat s (upI n.toNat)).1, (shuf n.toNat s (upI n.toNat)).2, 0)
theorem shuf_n {n0 : Int} (h : (decide (n0 < 0) || decide (n0 > 1024)) = false) : ∃ n : Nat, n0 = (n : Int) ∧ n ≤ 1024 := by
  rw [Bool.or_eq_false_iff, decide_eq_false_iff_not, decide_eq_false_iff_not] at h
  exact ⟨n0.toNat, by omega, by omega⟩
theorem shuffle_ok (s n0 : Int) (w0 : World) : Calls Try.prog 157 #[.int .u64 s, .int .i64 n0] w0 fun e w' => ∃ r : Value, e = .returned (.tuple #[.int .u64 (shufR s n0).1, r, .int .i64 (shufR s n0).2.2]) ∧ True ∧ Post Nob [ownR r 3 intE (shufR s n0).2.1] w0 w' := by
  refine enter (μ := []) (S := Nob) (vs := [.int .u64 s, .int .i64 n0]) Try.func157 rfl Try.ntmps157 rfl (Mem.nil _) (by simp) (fun a hC => ?_)
  refine W.seqk fun k1 hk1 => ?_
  refine W.region ?_
  refine L.pu hC rfl rfl (fun _ => All.nil) rfl rfl ?_; clear hC a; intro a hC
  refine L.pu hC rfl rfl (fun _ => All.nil) rfl rfl ?_; clear hC a; intro a hC
  refine L.pu hC rfl rfl (fun _ => All.nil) rfl rfl ?_; clear hC a; intro a hC
  refine L.nil ?_
  refine hk1 _ _ ?_; clear hk1; try clear k1
  refine W.seqk fun k2 hk2 => ?_
  refine W.seqk fun k3 hk3 => ?_
  refine W.region ?_
  refine L.pu hC rfl rfl (fun _ => All.nil) rfl rfl ?_; clear hC a; intro a hC
  refine L.pu hC rfl rfl (fun _ => All.nil) rfl rfl ?_; clear hC a; intro a hC
  refine L.pu hC rfl rfl (fun _ => All.nil) rfl rfl ?_; clear hC a; intro a hC
  refine L.pu hC rfl rfl (fun _ => All.nil) rfl rfl ?_; clear hC a; intro a hC
  refine L.pu hC rfl rfl (fun hg => by simp only [Gt, Bool.and_eq_true] at hg; simp only [All, List.cons_append, List.nil_append, List.append_nil, List.mem_cons, List.not_mem_nil, or_false, forall_eq_or_imp, forall_eq, Bool.and_eq_true, hg, Bool.not_false, Bool.not_true, and_self]) rfl rfl ?_; clear hC a; intro a hC
  refine L.or hC rfl rfl rfl rfl (fun _ => All.nil) (fun _ hp => by simp only [All, List.cons_append, List.nil_append, List.append_nil, List.mem_cons, List.not_mem_nil, or_false, forall_eq_or_imp, forall_eq, Bool.and_eq_true, hp, Bool.not_false, Bool.not_true, and_self]) rfl rfl ?_; clear hC a; intro a hC
  refine L.nil ?_
  refine hk3 _ _ ?_; clear hk3; try clear k3
  refine W.cond hC rfl (fun h1 => ?_) (fun h1 => ?_)
  ·
    refine W.seqk fun k4 hk4 => ?_
    refine W.region ?_
    refine L.pu hC rfl rfl (fun _ => All.nil) rfl rfl ?_; clear hC a; intro a hC
    refine L.pu hC rfl rfl (fun _ => All.nil) rfl rfl ?_; clear hC a; intro a hC
    refine L.pu hC rfl rfl (fun _ => All.nil) rfl rfl ?_; clear hC a; intro a hC
    refine L.nil ?_
    refine hk4 _ _ ?_; clear hk4; try clear k4
    refine W.ret ?_
    refine retl hC rfl (.tmp rfl (.tmp rfl (.tmp rfl .nil))) rfl ?_
    replace hC := (hC.drop).nilown (ty := 3) (E := intE)
    exact ⟨_, by unfold shufR; rw [if_pos h1], trivial, by unfold shufR; rw [if_pos h1]; exact hC.toPost (by simp [ownR])⟩
  ·
    obtain ⟨n, hn, hn2⟩ := shuf_n h1
    subst hn
    refine W.skip ?_
    refine hk2 _ _ ?_; clear hk2; try clear k2
    refine W.seqk fun k5 hk5 => ?_
    refine W.region ?_
    refine L.pu hC rfl rfl (fun _ => All.nil) rfl rfl ?_; clear hC a; intro a hC
    refine L.alloc hC rfl rfl Try.zeroValue248 rfl rfl rfl ?_; clear hC a; intro sb a w hF hC
    refine L.st hC rfl rfl rfl rfl Try.sizeOf248 rfl rfl rfl rfl rfl ?_; clear hC a; intro a w hF hC
    refine L.nil ?_
    refine hk5 _ _ ?_; clear hk5; try clear k5
    refine W.seqk fun k6 hk6 => ?_
    refine W.region ?_
    refine L.pu hC rfl rfl (fun _ => All.nil) rfl rfl ?_; clear hC a; intro a hC
    refine L.nil ?_
    refine hk6 _ _ ?_; clear hk6; try clear k6
    refine W.seqk fun k7 hk7 => ?_
    refine W.seqk fun k8 hk8 => ?_
    refine W.region ?_
    refine L.pu hC rfl rfl (fun _ => All.nil) rfl rfl ?_; clear hC a; intro a hC
    refine L.pu hC rfl rfl (fun _ => All.nil) rfl rfl ?_; clear hC a; intro a hC
    refine L.nil ?_
    refine hk8 _ _ ?_; clear hk8; try clear k8
    refine W.block ?_
    replace hC := hC.nilown (ty := 3) (E := intE)
    replace hC := hC.fr1
    replace hC := hC.fr1
    refine W.loop (fun (gst : Nat × Value) a w' => match gst with | ⟨j, ov⟩ => (j ≤ n) ∧ Conf 60 Nob w0 [(21, (none, .int .i64 (j : Int))), (20, (none, .int .i64 (n : Int))), (8, (none, ov)), (7, (none, .pointer (some ⟨sb, 0, none⟩)))] [ownR ov 3 intE (upI j), blkR sb [.int .u64 s] 248] a w') (fun (gst : Nat × Value) => match gst with | ⟨j, ov⟩ => n - j) (0, .slice none 0 0) ?_ ?_
    · exact ⟨Nat.zero_le _, hC.keep ⟨rfl, rfl, rfl, rfl, trivial⟩⟩
    · rintro ⟨j, ov⟩ a w ⟨hj, hC⟩
      refine W.seqk fun k9 hk9 => ?_
      refine W.region ?_
      refine L.pu hC rfl rfl (fun _ => All.nil) rfl rfl ?_; clear hC a; intro a hC
      refine L.nil ?_
      refine hk9 _ _ ?_; clear hk9; try clear k9
      refine W.seqk fun k10 hk10 => ?_
      refine W.cond hC rfl (fun h2 => ?_) (fun h2 => ?_)
      ·
        have h2 := of_decide_eq_true h2
        refine W.skip ?_
        refine hk10 _ _ ?_; clear hk10; try clear k10
        refine W.seqk fun k11 hk11 => ?_
        refine W.block ?_
        refine W.seqk fun k12 hk12 => ?_
        refine W.region ?_
        refine L.pu hC rfl rfl (fun _ => All.nil) rfl rfl ?_; clear hC a; intro a hC
        refine L.pu hC rfl rfl (fun _ => All.nil) rfl rfl ?_; clear hC a; intro a hC
        refine L.nil ?_
        refine hk12 _ _ ?_; clear hk12; try clear k12
        refine W.region ?_
        refine L.pu hC rfl rfl (fun _ => All.nil) rfl rfl ?_; clear hC a; intro a hC
        refine L.pu hC rfl rfl (fun _ => All.nil) rfl rfl ?_; clear hC a; intro a hC
        refine L.bsP hC rfl rfl rfl Try.underlying37 Try.infoI3 rfl rfl rfl rfl rfl rfl rfl ?_; clear hC a; intro b1 a w hF hC
        replace hC := hC.fr1
        refine L.app (xs := [(j : Int)]) hC rfl rfl rfl rfl ⟨_, _, rfl, lit_cells (hC.at m1) rfl⟩ Try.underlying37 Try.infoI3 rfl (by rw [upI_len]; simp; omega) (by rw [upI_len]; simp; omega) rfl rfl ?_; clear hC a; intro v2 a w hF hC
        refine L.pu hC rfl rfl (fun _ => All.nil) rfl rfl ?_; clear hC a; intro a hC
        refine L.nil ?_
        refine hk11 _ _ ?_; clear hk11; try clear k11
        refine W.region ?_
        refine L.pu hC rfl rfl (fun _ => All.nil) rfl rfl ?_; clear hC a; intro a hC
        refine L.pu hC rfl rfl (fun _ => All.nil) rfl rfl ?_; clear hC a; intro a hC
        refine L.nil ?_
        replace hC := hC.subl (.cons_cons _ (.cons _ (.cons_cons _ .slnil)))
        replace hC := hC.fr1
        replace hC := hC.fr1
        replace hC := hC.hd (r' := ownR v2 3 intE (upI (j + 1))) (by rw [upI_snoc])
        exact ⟨(j + 1, v2), ⟨by omega, hC.keep ⟨geti rfl (w64 (by omega)), rfl, rfl, rfl, trivial⟩⟩, by first | omega | (dsimp only; omega)⟩
      ·
        have h2 := of_decide_eq_false h2
        refine W.exit ?_
        refine Kb.here ?_
        refine hk7 _ _ ?_; clear hk7; try clear k7
        refine W.seqk fun k13 hk13 => ?_
        refine W.seqk fun k14 hk14 => ?_
        refine W.region ?_
        refine L.pu hC rfl rfl (fun _ => All.nil) rfl rfl ?_; clear hC a; intro a hC
        refine L.pu hC rfl rfl (fun _ => All.nil) rfl rfl ?_; clear hC a; intro a hC
        refine L.nil ?_
        refine hk14 _ _ ?_; clear hk14; try clear k14
        refine W.block ?_
        obtain ⟨A, c, hv⟩ := own_form (hC.at m0)
        have hcap := own_cap (hC.at m0) hv
        rw [upI_len] at hv hcap
        subst hv
        replace hC := hC.hd (r' := ownR (.slice A (upI j).length c) 3 intE (upI j)) (by rw [upI_len])
        replace hC := hC.fr1
        replace hC := hC.fr1
        refine W.loop (fun (gst : Nat × Int × List Int) a w' => match gst with | ⟨m, t, l⟩ => (m ≤ j) ∧ (l.length = j) ∧ (shuf m t l = shuf j s (upI j)) ∧ Conf 60 Nob w0 [(10, (none, .slice A m c)), (8, (none, .slice A j c)), (7, (none, .pointer (some ⟨sb, 0, none⟩)))] [ownR (.slice A l.length c) 3 intE l, blkR sb [.int .u64 t] 248] a w') (fun (gst : Nat × Int × List Int) => match gst with | ⟨m, t, l⟩ => m) (j, s, upI j) ?_ ?_
        · exact ⟨Nat.le_refl _, upI_len _, rfl, hC.keep ⟨rfl, rfl, rfl, trivial⟩⟩
        · rintro ⟨m, t, l⟩ a w ⟨hm, hl, hs, hC⟩
          refine W.seqk fun k15 hk15 => ?_
          refine W.seqk fun k16 hk16 => ?_
          refine W.region ?_
          refine L.pu hC rfl rfl (fun _ => All.nil) rfl rfl ?_; clear hC a; intro a hC
          refine L.len hC rfl rfl rfl (fun _ => All.nil) ⟨_, _, rfl⟩ Try.underlying37 rfl rfl ?_; clear hC a; intro a hC
          refine L.pu hC rfl rfl (fun _ => All.nil) rfl rfl ?_; clear hC a; intro a hC
          refine L.nil ?_
          refine hk16 _ _ ?_; clear hk16; try clear k16
          refine W.cond hC rfl (fun h3 => ?_) (fun h3 => ?_)
          ·
            have h3 := of_decide_eq_true h3
            refine W.skip ?_
            refine hk15 _ _ ?_; clear hk15; try clear k15
            refine W.seqk fun k17 hk17 => ?_
            refine W.block ?_
            refine W.seqk fun k18 hk18 => ?_
            refine W.region ?_
            refine L.pu hC rfl rfl (fun _ => All.nil) rfl rfl ?_; clear hC a; intro a hC
            refine L.len hC rfl rfl rfl (fun _ => All.nil) ⟨_, _, rfl⟩ Try.underlying37 rfl rfl ?_; clear hC a; intro a hC
            replace hC := hC.fr1
            refine L.callg [_] hC rfl rfl Try.call179 rfl (below_ok sb 248 t (m : Int) _ (hC.at m0)) (fun b h => ⟨_, m0, h⟩) rfl rfl ?_; clear hC a; intro _ a w hQ hC
            have hk := drawK_lt t (n := m) (by omega) (by omega)
            refine L.pu hC rfl rfl (fun _ => All.nil) rfl rfl ?_; clear hC a; intro a hC
            refine L.len hC rfl rfl rfl (fun _ => All.nil) ⟨_, _, rfl⟩ Try.underlying37 rfl rfl ?_; clear hC a; intro a hC
            refine L.pu hC rfl rfl (fun _ => All.nil) rfl rfl ?_; clear hC a; intro a hC
            refine L.pu hC rfl rfl (fun _ => All.nil) rfl rfl ?_; clear hC a; intro a hC
            refine L.pu hC rfl rfl (fun _ => All.nil) rfl rfl ?_; clear hC a; intro a hC
            replace hC := hC.slot (d := 12) (geti (b := ((m - 1 : Nat) : Int)) rfl (by rw [w64 (by omega)]; omega))
            replace hC := hC.slot (d := 11) (geti (b := ((drawK t m).toNat : Int)) rfl (by omega))
            have hkn : (drawK t m).toNat < m := by omega
            obtain ⟨kk, hkk⟩ : ∃ kk, (drawK t m).toNat = kk := ⟨_, rfl⟩
            rw [hkk] at hkn hC
            refine L.nil ?_
            refine hk18 _ _ ?_; clear hk18; try clear k18
            replace hC := hC.fr1
            refine W.drawN (fun c' _ => match c' with | 0 => [ownR (.slice A l.length c) 3 intE l, blkR sb [.int .u64 (nextS t)] 248] | 1 => [ownR (.slice A l.length c) 3 intE (l.set kk l[m - 1]!), blkR sb [.int .u64 (nextS t)] 248] | _ => [ownR (.slice A l.length c) 3 intE (swpI l kk (m - 1)), blkR sb [.int .u64 (nextS t)] 248]) undef hC Try.mixed rfl rfl ?_
            apply ERN.q (.det _ _) 0 rfl rfl
            · intro c' γ hle
              obtain rfl := (by omega : c' = 0)
              · intro a w hC
                refine L.pu hC rfl rfl (fun _ => All.nil) rfl rfl ?_; clear hC a; intro a hC
                exact L.nil ⟨⟨_, [], hC⟩, Frm.refl _ _⟩
            apply ERN.q (.det _ _) 0 rfl rfl
            · intro c' γ hle
              obtain rfl := (by omega : c' = 0)
              · intro a w hC
                refine L.pu hC rfl rfl (fun _ => All.nil) rfl rfl ?_; clear hC a; intro a hC
                exact L.nil ⟨⟨_, [], hC⟩, Frm.refl _ _⟩
            apply ERN.q (.det _ _) 1 rfl rfl
            · intro c' γ hle
              obtain rfl | rfl := (by omega : c' = 0 ∨ c' = 1)
              · intro a w hC
                refine L.pu hC rfl rfl (fun _ => All.nil) rfl rfl ?_; clear hC a; intro a hC
                exact L.nil ⟨⟨_, [], hC⟩, Frm.refl _ _⟩
              · intro a w hC
                refine L.pu hC rfl rfl (fun _ => All.nil) rfl rfl ?_; clear hC a; intro a hC
                exact L.nil ⟨⟨_, [], hC⟩, Frm.refl _ _⟩
            apply ERN.q (.det _ _) 1 rfl rfl
            · intro c' γ hle
              obtain rfl | rfl := (by omega : c' = 0 ∨ c' = 1)
              · intro a w hC
                refine L.pu hC rfl rfl (fun _ => All.nil) rfl rfl ?_; clear hC a; intro a hC
                exact L.nil ⟨⟨_, [], hC⟩, Frm.refl _ _⟩
              · intro a w hC
                refine L.pu hC rfl rfl (fun _ => All.nil) rfl rfl ?_; clear hC a; intro a hC
                exact L.nil ⟨⟨_, [], hC⟩, Frm.refl _ _⟩
            apply ERN.q (.det _ _) 0 rfl rfl
            · intro c' γ hle
              obtain rfl := (by omega : c' = 0)
              · intro a w hC
                refine L.pu hC rfl rfl (fun _ => All.nil) rfl rfl ?_; clear hC a; intro a hC
                exact L.nil ⟨⟨_, [], hC⟩, Frm.refl _ _⟩
            apply ERN.q (.det _ _) 0 rfl rfl
            · intro c' γ hle
              obtain rfl := (by omega : c' = 0)
              · intro a w hC
                refine L.pu hC rfl rfl (fun _ => All.nil) rfl rfl ?_; clear hC a; intro a hC
                exact L.nil ⟨⟨_, [], hC⟩, Frm.refl _ _⟩
            apply ERN.q (.det _ _) 0 rfl rfl
            · intro c' γ hle
              obtain rfl := (by omega : c' = 0)
              · intro a w hC
                refine L.ixp hC rfl rfl rfl rfl m0 rfl (by first | omega | (simp only [swpI, List.length_set]; omega)) (fun _ => All.nil) (fun _ => All.nil) Try.underlying37 Try.sizeOf3 (fun _ => by omega) rfl rfl ?_; clear hC a; intro a hC
                exact L.nil ⟨⟨_, [], hC⟩, Frm.refl _ _⟩
            apply ERN.q (.det _ _) 0 rfl rfl
            · intro c' γ hle
              obtain rfl := (by omega : c' = 0)
              · intro a w hC
                refine L.ldx hC rfl rfl rfl rfl (fun _ => All.nil) (fun hg => own_bang hC m0 (by first | omega | (simp only [List.length_set]; omega)) _) Try.isAgg3 rfl rfl rfl ?_; clear hC a; intro a hC
                exact L.nil ⟨⟨_, [], hC⟩, Frm.refl _ _⟩
            apply ERN.q (.det _ _) 1 rfl rfl
            · intro c' γ hle
              obtain rfl | rfl := (by omega : c' = 0 ∨ c' = 1)
              · intro a w hC
                refine L.pu hC rfl rfl (fun _ => All.nil) rfl rfl ?_; clear hC a; intro a hC
                exact L.nil ⟨⟨_, [], hC⟩, Frm.refl _ _⟩
              · intro a w hC
                refine L.pu hC rfl rfl (fun _ => All.nil) rfl rfl ?_; clear hC a; intro a hC
                exact L.nil ⟨⟨_, [], hC⟩, Frm.refl _ _⟩
            apply ERN.q (.det _ _) 1 rfl rfl
            · intro c' γ hle
              obtain rfl | rfl := (by omega : c' = 0 ∨ c' = 1)
              · intro a w hC
                refine L.pu hC rfl rfl (fun _ => All.nil) rfl rfl ?_; clear hC a; intro a hC
                exact L.nil ⟨⟨_, [], hC⟩, Frm.refl _ _⟩
              · intro a w hC
                refine L.pu hC rfl rfl (fun _ => All.nil) rfl rfl ?_; clear hC a; intro a hC
                exact L.nil ⟨⟨_, [], hC⟩, Frm.refl _ _⟩
            apply ERN.q (.det _ _) 1 rfl rfl
            · intro c' γ hle
              obtain rfl | rfl := (by omega : c' = 0 ∨ c' = 1)
              · intro a w hC
                refine L.ixp hC rfl rfl rfl rfl m0 rfl (by first | omega | (simp only [swpI, List.length_set]; omega)) (fun _ => All.nil) (fun _ => All.nil) Try.underlying37 Try.sizeOf3 (fun _ => by omega) rfl rfl ?_; clear hC a; intro a hC
                exact L.nil ⟨⟨_, [], hC⟩, Frm.refl _ _⟩
              · intro a w hC
                refine L.ixp hC rfl rfl rfl rfl m0 rfl (by first | omega | (simp only [swpI, List.length_set]; omega)) (fun _ => All.nil) (fun _ => All.nil) Try.underlying37 Try.sizeOf3 (fun _ => by omega) rfl rfl ?_; clear hC a; intro a hC
                exact L.nil ⟨⟨_, [], hC⟩, Frm.refl _ _⟩
            apply ERN.q (.det _ _) 0 rfl rfl
            · intro c' γ hle
              obtain rfl := (by omega : c' = 0)
              · intro a w hC
                refine L.ldx hC rfl rfl rfl rfl (fun _ => All.nil) (fun hg => own_bang hC m0 (by first | omega | (simp only [List.length_set]; omega)) _) Try.isAgg3 rfl rfl rfl ?_; clear hC a; intro a hC
                exact L.nil ⟨⟨_, [], hC⟩, Frm.refl _ _⟩
            apply ERN.q (.det _ _) 0 rfl rfl
            · intro c' γ hle
              obtain rfl := (by omega : c' = 0)
              · intro a w hC
                refine L.ixp hC rfl rfl rfl rfl m0 rfl (by first | omega | (simp only [swpI, List.length_set]; omega)) (fun _ => All.nil) (fun _ => All.nil) Try.underlying37 Try.sizeOf3 (fun _ => by omega) rfl rfl ?_; clear hC a; intro a hC
                exact L.nil ⟨⟨_, [], hC⟩, Frm.refl _ _⟩
            apply ERN.f false (fun h => by cases h) rfl rfl
            · intro γ a w hC
              refine L.ste hC rfl rfl rfl rfl rfl Try.sizeOf3 rfl rfl rfl (by first | omega | (simp only [List.length_set]; omega)) (Nat.le_of_ble_eq_true rfl) (x' := l[m - 1]!) rfl rfl ?_; clear hC a; intro a w hF hC
              exact L.nil ⟨γ, _, fun _ => rfl, trivial, hC, hF⟩
            apply ERN.q (.det _ _) 1 rfl rfl
            · intro c' γ hle
              obtain rfl | rfl := (by omega : c' = 0 ∨ c' = 1)
              · intro a w hC
                refine L.ixp hC rfl rfl rfl rfl m0 rfl (by first | omega | (simp only [swpI, List.length_set]; omega)) (fun _ => All.nil) (fun _ => All.nil) Try.underlying37 Try.sizeOf3 (fun _ => by omega) rfl rfl ?_; clear hC a; intro a hC
                exact L.nil ⟨⟨_, [], hC⟩, Frm.refl _ _⟩
              · intro a w hC
                refine L.ixp hC rfl rfl rfl rfl m0 rfl (by first | omega | (simp only [swpI, List.length_set]; omega)) (fun _ => All.nil) (fun _ => All.nil) Try.underlying37 Try.sizeOf3 (fun _ => by omega) rfl rfl ?_; clear hC a; intro a hC
                exact L.nil ⟨⟨_, [], hC⟩, Frm.refl _ _⟩
            apply ERN.f false (fun h => by cases h) rfl rfl
            · intro γ a w hC
              refine L.ste hC rfl rfl rfl rfl rfl Try.sizeOf3 rfl rfl rfl (by first | omega | (simp only [List.length_set]; omega)) (Nat.le_of_ble_eq_true rfl) (x' := l[kk]!) rfl rfl ?_; clear hC a; intro a w hF hC
              exact L.nil ⟨γ, _, fun _ => rfl, trivial, hC, hF⟩
            refine ERN.nil ?_
            intro γ w' a w hC hw
            subst hw
            refine hk17 _ _ ?_; clear hk17; try clear k17
            refine W.region ?_
            refine L.pu hC rfl rfl (fun _ => All.nil) rfl rfl ?_; clear hC a; intro a hC
            refine L.pu hC rfl rfl (fun _ => All.nil) rfl rfl ?_; clear hC a; intro a hC
            refine L.len hC rfl rfl rfl (fun _ => All.nil) ⟨_, _, rfl⟩ Try.underlying37 rfl rfl ?_; clear hC a; intro a hC
            refine L.pu hC rfl rfl (fun _ => All.nil) rfl rfl ?_; clear hC a; intro a hC
            refine L.cutv hC rfl rfl rfl rfl (fun _ => All.nil) (fun _ => All.nil) (m' := m - 1) (fun _ => by rw [w64 (by omega)]; omega) (fun _ => by omega) Try.underlying37 Try.sizeOf3 rfl rfl ?_; clear hC a; intro a hC
            refine L.pu hC rfl rfl (fun _ => All.nil) rfl rfl ?_; clear hC a; intro a hC
            refine L.nil ?_
            replace hC := hC.fr1
            replace hC := hC.fr1
            replace hC := hC.hd (r' := ownR (.slice A (swpI l kk (m - 1)).length c) 3 intE (swpI l kk (m - 1))) (by rw [swpI_len])
            exact ⟨(m - 1, nextS t, swpI l kk (m - 1)), ⟨by omega, by simp only [swpI, List.length_set]; exact hl, by rw [← hs, ← hkk]; exact (shuf_step (by omega)).symm, hC.keep ⟨rfl, rfl, rfl, trivial⟩⟩, by first | omega | (dsimp only; omega)⟩
          ·
            have h3 := of_decide_eq_false h3
            refine W.exit ?_
            refine Kb.here ?_
            refine hk13 _ _ ?_; clear hk13; try clear k13
            refine W.seqk fun k19 hk19 => ?_
            refine W.region ?_
            refine L.ld hC rfl rfl rfl (fun _ => All.nil) m1 Try.isAgg248 rfl rfl rfl ?_; clear hC a; intro a hC
            refine L.pu hC rfl rfl (fun _ => All.nil) rfl rfl ?_; clear hC a; intro a hC
            refine L.pu hC rfl rfl (fun _ => All.nil) rfl rfl ?_; clear hC a; intro a hC
            refine L.pu hC rfl rfl (fun _ => All.nil) rfl rfl ?_; clear hC a; intro a hC
            refine L.pu hC rfl rfl (fun _ => All.nil) rfl rfl ?_; clear hC a; intro a hC
            refine L.nil ?_
            refine hk19 _ _ ?_; clear hk19; try clear k19
            refine W.ret ?_
            have ejn : n = j := by omega
            have e : shufR s (n : Int) = (t, l, 0) := by
              unfold shufR; rw [if_neg (nt h1), Int.toNat_natCast, ejn, ← hs, shuf_end (by omega)]
            refine retl hC rfl (.tmp rfl (.tmp rfl (.tmp rfl .nil))) rfl ?_
            replace hC := hC.subl (.cons_cons _ (.cons _ .slnil))
            exact ⟨_, by rw [e]; try rfl, trivial, by rw [e]; rw [← hl]; exact hC.toPost (by simp [ownR])⟩

end Go.Proofs.E
