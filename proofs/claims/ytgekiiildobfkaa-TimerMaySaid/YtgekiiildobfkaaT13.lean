/- Part of the proof: what the functions of this program compute. -/
import Derived.Test.YtgekiiildobfkaaT12
set_option linter.unusedVariables false
set_option linter.unusedSimpArgs false
namespace Go.Proofs.E
open Go.RowKit
theorem Mem.rd3 {α β γ : Type _} {v u t : Value} {E : Enc α} {F : Enc β} {D : Enc γ} {l : List α} {m : List β} {k : List γ} {w : World} (h1 : (rdR v E l).ok w) (h2 : (rdR u F m).ok w) (h3 : (rdR t D k).ok w) : Mem [rdR v E l, rdR u F m, rdR t D k] w :=
  ⟨by simp [h1, h2, h3], by simp [apart, rdR]⟩
theorem may20_law (v vm vi : Value) (l more : List (Int × Int)) (tick : Int) (ids : List Int) (w0 : World) (hr : (rdR v timE l).ok w0) (hm : (rdR vm timE more).ok w0) (hi : (rdR vi intE ids).ok w0) : Calls Try.prog 5 #[v, vm, .int .i64 tick, vi] w0 fun e w' => e = .returned (.bool true) ∧ Frm Nob w0 w' := by
  refine enter (μ := [rdR v timE l, rdR vm timE more, rdR vi intE ids]) (S := Nob) (vs := [v, vm, .int .i64 tick, vi]) Try.func5 rfl Try.ntmps5 rfl (Mem.rd3 hr hm hi) (by simp [rdR]) (fun a hC => ?_)
  refine W.seqk fun k1 hk1 => ?_
  refine W.region ?_
  refine L.pu hC rfl rfl (fun _ => All.nil) rfl rfl ?_; clear hC a; intro a hC
  refine L.nil ?_
  refine hk1 _ _ ?_; clear hk1; try clear k1
  refine W.seqk fun k2 hk2 => ?_
  refine W.seqk fun k3 hk3 => ?_
  refine W.region ?_
  refine L.call hC rfl rfl Try.call13 rfl (fun _ => All.nil) (fun hg => alive20_ok _) rfl rfl ?_; clear hC a; intro a w hF hC
  refine L.pu hC rfl rfl (fun _ => All.nil) rfl rfl ?_; clear hC a; intro a hC
  refine L.nil ?_
  refine hk3 _ _ ?_; clear hk3; try clear k3
  refine W.cond hC rfl (fun h1 => ?_) (fun h1 => ?_)
  ·
    exact absurd h1 (by simp)
  ·
    refine W.skip ?_
    refine hk2 _ _ ?_; clear hk2; try clear k2
    refine W.seqk fun k4 hk4 => ?_
    refine W.region ?_
    refine L.pu hC rfl rfl (fun _ => All.nil) rfl rfl ?_; clear hC a; intro a hC
    refine L.pu hC rfl rfl (fun _ => All.nil) rfl rfl ?_; clear hC a; intro a hC
    refine L.callg [] hC rfl rfl Try.call22 rfl (add20_ok v vm l more _ (hC.at m0) (hC.at m1)) (fun b h => h.elim) rfl rfl ?_; clear hC a; intro av a w hQ hC
    refine L.pu hC rfl rfl (fun _ => All.nil) rfl rfl ?_; clear hC a; intro a hC
    refine L.pu hC rfl rfl (fun _ => All.nil) rfl rfl ?_; clear hC a; intro a hC
    refine L.pu hC rfl rfl (fun _ => All.nil) rfl rfl ?_; clear hC a; intro a hC
    refine L.pu hC rfl rfl (fun _ => All.nil) rfl rfl ?_; clear hC a; intro a hC
    refine L.pu hC rfl rfl (fun _ => All.nil) rfl rfl ?_; clear hC a; intro a hC
    refine L.nil ?_
    refine hk4 _ _ ?_; clear hk4; try clear k4
    refine W.seqk fun k5 hk5 => ?_
    refine W.region ?_
    refine L.pu hC rfl rfl (fun _ => All.nil) rfl rfl ?_; clear hC a; intro a hC
    refine L.pu hC rfl rfl (fun _ => All.nil) rfl rfl ?_; clear hC a; intro a hC
    refine L.callg [] hC rfl rfl Try.call23 rfl (due20_ok v l tick _ (hC.at m1)) (fun b h => h.elim) rfl rfl ?_; clear hC a; intro ⟨bv, biv⟩ a w hQ hC
    refine L.pu hC rfl rfl (fun _ => All.nil) rfl rfl ?_; clear hC a; intro a hC
    refine L.pu hC rfl rfl (fun _ => All.nil) rfl rfl ?_; clear hC a; intro a hC
    refine L.pu hC rfl rfl (fun _ => All.nil) rfl rfl ?_; clear hC a; intro a hC
    refine L.pu hC rfl rfl (fun _ => All.nil) rfl rfl ?_; clear hC a; intro a hC
    refine L.pu hC rfl rfl (fun _ => All.nil) rfl rfl ?_; clear hC a; intro a hC
    refine L.pu hC rfl rfl (fun _ => All.nil) rfl rfl ?_; clear hC a; intro a hC
    refine L.pu hC rfl rfl (fun _ => All.nil) rfl rfl ?_; clear hC a; intro a hC
    refine L.nil ?_
    refine hk5 _ _ ?_; clear hk5; try clear k5
    refine W.seqk fun k6 hk6 => ?_
    refine W.region ?_
    refine L.pu hC rfl rfl (fun _ => All.nil) rfl rfl ?_; clear hC a; intro a hC
    refine L.pu hC rfl rfl (fun _ => All.nil) rfl rfl ?_; clear hC a; intro a hC
    refine L.callg [] hC rfl rfl Try.call24 rfl (cancel20_ok v vi l ids _ (hC.at m3) (hC.at m5)) (fun b h => h.elim) rfl rfl ?_; clear hC a; intro cv a w hQ hC
    refine L.pu hC rfl rfl (fun _ => All.nil) rfl rfl ?_; clear hC a; intro a hC
    refine L.pu hC rfl rfl (fun _ => All.nil) rfl rfl ?_; clear hC a; intro a hC
    refine L.pu hC rfl rfl (fun _ => All.nil) rfl rfl ?_; clear hC a; intro a hC
    refine L.pu hC rfl rfl (fun _ => All.nil) rfl rfl ?_; clear hC a; intro a hC
    refine L.pu hC rfl rfl (fun _ => All.nil) rfl rfl ?_; clear hC a; intro a hC
    refine L.pu hC rfl rfl (fun _ => All.nil) rfl rfl ?_; clear hC a; intro a hC
    refine L.pu hC rfl rfl (fun _ => All.nil) rfl rfl ?_; clear hC a; intro a hC
    refine L.nil ?_
    refine hk6 _ _ ?_; clear hk6; try clear k6
    refine W.seqk fun k7 hk7 => ?_
    refine W.region ?_
    refine L.pu hC rfl rfl (fun _ => All.nil) rfl rfl ?_; clear hC a; intro a hC
    refine L.call hC rfl rfl Try.call15 rfl (fun _ => All.nil) (fun hg => num20_ok _ _) rfl rfl ?_; clear hC a; intro a w hF hC
    refine L.pu hC rfl rfl (fun _ => All.nil) rfl rfl ?_; clear hC a; intro a hC
    refine L.pu hC rfl rfl (fun _ => All.nil) rfl rfl ?_; clear hC a; intro a hC
    refine L.pu hC rfl rfl (fun _ => All.nil) rfl rfl ?_; clear hC a; intro a hC
    refine L.call hC rfl rfl Try.call25 rfl (fun hg => by simp only [Gt, Bool.and_eq_true] at hg; simp only [All, List.cons_append, List.nil_append, List.append_nil, List.mem_cons, List.not_mem_nil, or_false, forall_eq_or_imp, forall_eq, Bool.and_eq_true, hg, Bool.not_false, Bool.not_true, and_self]) (fun hg => check20_ok _ _ _ (own_rd (hC.at m3))) rfl rfl ?_; clear hC a; intro a w hF hC
    refine L.call hC rfl rfl Try.call15 rfl (fun hg => by simp only [Gt, Bool.and_eq_true] at hg; simp only [All, List.cons_append, List.nil_append, List.append_nil, List.mem_cons, List.not_mem_nil, or_false, forall_eq_or_imp, forall_eq, Bool.and_eq_true, hg, Bool.not_false, Bool.not_true, and_self]) (fun hg => num20_ok _ _) rfl rfl ?_; clear hC a; intro a w hF hC
    refine L.pu hC rfl rfl (fun hg => by simp only [Gt, Bool.and_eq_true] at hg; simp only [All, List.cons_append, List.nil_append, List.append_nil, List.mem_cons, List.not_mem_nil, or_false, forall_eq_or_imp, forall_eq, Bool.and_eq_true, hg, Bool.not_false, Bool.not_true, and_self]) rfl rfl ?_; clear hC a; intro a hC
    refine L.or hC rfl rfl rfl rfl (fun _ => All.nil) (fun _ hp => by simp only [All, List.cons_append, List.nil_append, List.append_nil, List.mem_cons, List.not_mem_nil, or_false, forall_eq_or_imp, forall_eq, Bool.and_eq_true, hp, Bool.not_false, Bool.not_true, and_self]) rfl rfl ?_; clear hC a; intro a hC
    refine L.pu hC rfl rfl (fun _ => All.nil) rfl rfl ?_; clear hC a; intro a hC
    refine L.pu hC rfl rfl (fun _ => All.nil) rfl rfl ?_; clear hC a; intro a hC
    refine L.call hC rfl rfl Try.call15 rfl (fun hg => by simp only [Gt, Bool.and_eq_true] at hg; simp only [All, List.cons_append, List.nil_append, List.append_nil, List.mem_cons, List.not_mem_nil, or_false, forall_eq_or_imp, forall_eq, Bool.and_eq_true, hg, Bool.not_false, Bool.not_true, and_self]) (fun hg => num20_ok _ _) rfl rfl ?_; clear hC a; intro a w hF hC
    refine L.pu hC rfl rfl (fun hg => by simp only [Gt, Bool.and_eq_true] at hg; simp only [All, List.cons_append, List.nil_append, List.append_nil, List.mem_cons, List.not_mem_nil, or_false, forall_eq_or_imp, forall_eq, Bool.and_eq_true, hg, Bool.not_false, Bool.not_true, and_self]) rfl rfl ?_; clear hC a; intro a hC
    refine L.pu hC rfl rfl (fun hg => by simp only [Gt, Bool.and_eq_true] at hg; simp only [All, List.cons_append, List.nil_append, List.append_nil, List.mem_cons, List.not_mem_nil, or_false, forall_eq_or_imp, forall_eq, Bool.and_eq_true, hg, Bool.not_false, Bool.not_true, and_self]) rfl rfl ?_; clear hC a; intro a hC
    refine L.pu hC rfl rfl (fun _ => All.nil) rfl rfl ?_; clear hC a; intro a hC
    refine L.call hC rfl rfl Try.call25 rfl (fun hg => by simp only [Gt, Bool.and_eq_true] at hg; simp only [All, List.cons_append, List.nil_append, List.append_nil, List.mem_cons, List.not_mem_nil, or_false, forall_eq_or_imp, forall_eq, Bool.and_eq_true, hg, Bool.not_false, Bool.not_true, and_self]) (fun hg => check20_ok _ _ _ (own_rd (hC.at m1))) rfl rfl ?_; clear hC a; intro a w hF hC
    refine L.call hC rfl rfl Try.call15 rfl (fun hg => by simp only [Gt, Bool.and_eq_true] at hg; simp only [All, List.cons_append, List.nil_append, List.append_nil, List.mem_cons, List.not_mem_nil, or_false, forall_eq_or_imp, forall_eq, Bool.and_eq_true, hg, Bool.not_false, Bool.not_true, and_self]) (fun hg => num20_ok _ _) rfl rfl ?_; clear hC a; intro a w hF hC
    refine L.pu hC rfl rfl (fun hg => by simp only [Gt, Bool.and_eq_true] at hg; simp only [All, List.cons_append, List.nil_append, List.append_nil, List.mem_cons, List.not_mem_nil, or_false, forall_eq_or_imp, forall_eq, Bool.and_eq_true, hg, Bool.not_false, Bool.not_true, and_self]) rfl rfl ?_; clear hC a; intro a hC
    refine L.or hC rfl rfl rfl rfl (fun hg => by simp only [Gt, Bool.and_eq_true] at hg; simp only [All, List.cons_append, List.nil_append, List.append_nil, List.mem_cons, List.not_mem_nil, or_false, forall_eq_or_imp, forall_eq, Bool.and_eq_true, hg, Bool.not_false, Bool.not_true, and_self]) (fun hg hp => by simp only [Gt, Bool.and_eq_true] at hg; simp only [All, List.cons_append, List.nil_append, List.append_nil, List.mem_cons, List.not_mem_nil, or_false, forall_eq_or_imp, forall_eq, Bool.and_eq_true, hg, hp, Bool.not_false, Bool.not_true, and_self]) rfl rfl ?_; clear hC a; intro a hC
    refine L.and hC rfl rfl rfl rfl (fun _ => All.nil) (fun _ hp => by simp only [All, List.cons_append, List.nil_append, List.append_nil, List.mem_cons, List.not_mem_nil, or_false, forall_eq_or_imp, forall_eq, Bool.and_eq_true, hp, Bool.not_false, Bool.not_true, and_self]) rfl rfl ?_; clear hC a; intro a hC
    refine L.pu hC rfl rfl (fun _ => All.nil) rfl rfl ?_; clear hC a; intro a hC
    refine L.pu hC rfl rfl (fun _ => All.nil) rfl rfl ?_; clear hC a; intro a hC
    refine L.call hC rfl rfl Try.call15 rfl (fun hg => by simp only [Gt, Bool.and_eq_true] at hg; simp only [All, List.cons_append, List.nil_append, List.append_nil, List.mem_cons, List.not_mem_nil, or_false, forall_eq_or_imp, forall_eq, Bool.and_eq_true, hg, Bool.not_false, Bool.not_true, and_self]) (fun hg => num20_ok _ _) rfl rfl ?_; clear hC a; intro a w hF hC
    refine L.pu hC rfl rfl (fun hg => by simp only [Gt, Bool.and_eq_true] at hg; simp only [All, List.cons_append, List.nil_append, List.append_nil, List.mem_cons, List.not_mem_nil, or_false, forall_eq_or_imp, forall_eq, Bool.and_eq_true, hg, Bool.not_false, Bool.not_true, and_self]) rfl rfl ?_; clear hC a; intro a hC
    refine L.pu hC rfl rfl (fun hg => by simp only [Gt, Bool.and_eq_true] at hg; simp only [All, List.cons_append, List.nil_append, List.append_nil, List.mem_cons, List.not_mem_nil, or_false, forall_eq_or_imp, forall_eq, Bool.and_eq_true, hg, Bool.not_false, Bool.not_true, and_self]) rfl rfl ?_; clear hC a; intro a hC
    refine L.pu hC rfl rfl (fun _ => All.nil) rfl rfl ?_; clear hC a; intro a hC
    refine L.call hC rfl rfl Try.call25 rfl (fun hg => by simp only [Gt, Bool.and_eq_true] at hg; simp only [All, List.cons_append, List.nil_append, List.append_nil, List.mem_cons, List.not_mem_nil, or_false, forall_eq_or_imp, forall_eq, Bool.and_eq_true, hg, Bool.not_false, Bool.not_true, and_self]) (fun hg => check20_ok _ _ _ (own_rd (hC.at m0))) rfl rfl ?_; clear hC a; intro a w hF hC
    refine L.call hC rfl rfl Try.call15 rfl (fun hg => by simp only [Gt, Bool.and_eq_true] at hg; simp only [All, List.cons_append, List.nil_append, List.append_nil, List.mem_cons, List.not_mem_nil, or_false, forall_eq_or_imp, forall_eq, Bool.and_eq_true, hg, Bool.not_false, Bool.not_true, and_self]) (fun hg => num20_ok _ _) rfl rfl ?_; clear hC a; intro a w hF hC
    refine L.pu hC rfl rfl (fun hg => by simp only [Gt, Bool.and_eq_true] at hg; simp only [All, List.cons_append, List.nil_append, List.append_nil, List.mem_cons, List.not_mem_nil, or_false, forall_eq_or_imp, forall_eq, Bool.and_eq_true, hg, Bool.not_false, Bool.not_true, and_self]) rfl rfl ?_; clear hC a; intro a hC
    refine L.or hC rfl rfl rfl rfl (fun hg => by simp only [Gt, Bool.and_eq_true] at hg; simp only [All, List.cons_append, List.nil_append, List.append_nil, List.mem_cons, List.not_mem_nil, or_false, forall_eq_or_imp, forall_eq, Bool.and_eq_true, hg, Bool.not_false, Bool.not_true, and_self]) (fun hg hp => by simp only [Gt, Bool.and_eq_true] at hg; simp only [All, List.cons_append, List.nil_append, List.append_nil, List.mem_cons, List.not_mem_nil, or_false, forall_eq_or_imp, forall_eq, Bool.and_eq_true, hg, hp, Bool.not_false, Bool.not_true, and_self]) rfl rfl ?_; clear hC a; intro a hC
    refine L.and hC rfl rfl rfl rfl (fun _ => All.nil) (fun _ hp => by simp only [All, List.cons_append, List.nil_append, List.append_nil, List.mem_cons, List.not_mem_nil, or_false, forall_eq_or_imp, forall_eq, Bool.and_eq_true, hp, Bool.not_false, Bool.not_true, and_self]) rfl rfl ?_; clear hC a; intro a hC
    refine L.pu hC rfl rfl (fun _ => All.nil) rfl rfl ?_; clear hC a; intro a hC
    refine L.nil ?_
    refine hk7 _ _ ?_; clear hk7; try clear k7
    refine W.ret ?_
    refine rets hC rfl (.tmp rfl .nil) ?_
    refine ⟨?_, hC.frm⟩
    refine rb ?_
    have e1 := add_may l more
    have e2 := due_may l tick
    have e3 := can_may l ids
    simp only [e1, e2, e3, Bool.and_self]

end Go.Proofs.E
