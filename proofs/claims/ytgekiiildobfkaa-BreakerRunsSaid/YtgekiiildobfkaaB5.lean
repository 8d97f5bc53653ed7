/- BreakerRuns, walked. -/
import Derived.Test.YtgekiiildobfkaaB4
set_option linter.unusedVariables false
set_option linter.unusedSimpArgs false
namespace Go.Proofs.E
open Go.RowKit
theorem runs15_law (v : Value) (s : BSet) (l : List Act) (w0 : World) (hr : (rdR v actE l).ok w0) : Calls Try.prog 4 #[.agg (sE s).toArray, v] w0 fun e w' => e = .returned (.bool true) ∧ Frm Nob w0 w' := by
  refine enter (μ := [rdR v actE l]) (S := Nob) (vs := [.agg (sE s).toArray, v]) Try.func4 rfl Try.ntmps4 rfl ⟨by simpa using hr, by simp⟩ (by simp [rdR]) (fun a hC => ?_)
  refine W.seqk fun k1 hk1 => ?_
  refine W.region ?_
  refine L.box hC rfl rfl rfl rfl rfl rfl ?_; clear hC a; intro sb a w hF hC
  refine L.pu hC rfl rfl (fun _ => All.nil) rfl rfl ?_; clear hC a; intro a hC
  refine L.nil ?_
  refine hk1 _ _ ?_; clear hk1; try clear k1
  refine W.seqk fun k2 hk2 => ?_
  refine W.region ?_
  refine L.lda hC rfl rfl rfl (fun _ => All.nil) m0 Try.isAgg33 Try.sizeOf33 rfl rfl rfl rfl ?_; clear hC a; intro a hC
  refine L.pu hC rfl rfl (fun _ => All.nil) rfl rfl ?_; clear hC a; intro a hC
  refine L.callg [] hC rfl rfl Try.call17 rfl (run15_ok v s l _ (hC.at m1)) (fun b h => h.elim) rfl rfl ?_; clear hC a; intro ov1 a w hQ hC
  refine L.pu hC rfl rfl (fun _ => All.nil) rfl rfl ?_; clear hC a; intro a hC
  refine L.pu hC rfl rfl (fun _ => All.nil) rfl rfl ?_; clear hC a; intro a hC
  refine L.pu hC rfl rfl (fun _ => All.nil) rfl rfl ?_; clear hC a; intro a hC
  refine L.pu hC rfl rfl (fun _ => All.nil) rfl rfl ?_; clear hC a; intro a hC
  refine L.alloc hC rfl rfl Try.zeroValue36 rfl rfl rfl ?_; clear hC a; intro b1 a w hF hC
  refine L.st hC rfl rfl rfl rfl Try.sizeOf36 rfl rfl rfl rfl rfl ?_; clear hC a; intro a w hF hC
  refine L.pu hC rfl rfl (fun _ => All.nil) rfl rfl ?_; clear hC a; intro a hC
  refine L.pu hC rfl rfl (fun _ => All.nil) rfl rfl ?_; clear hC a; intro a hC
  refine L.nil ?_
  refine hk2 _ _ ?_; clear hk2; try clear k2
  refine W.seqk fun k3 hk3 => ?_
  refine W.region ?_
  refine L.lda hC rfl rfl rfl (fun _ => All.nil) m2 Try.isAgg33 Try.sizeOf33 rfl rfl rfl rfl ?_; clear hC a; intro a hC
  refine L.pu hC rfl rfl (fun _ => All.nil) rfl rfl ?_; clear hC a; intro a hC
  refine L.callg [] hC rfl rfl Try.call18 rfl (runR_ok v s l _ (hC.at m3)) (fun b h => h.elim) rfl rfl ?_; clear hC a; intro ov2 a w hQ hC
  refine L.pu hC rfl rfl (fun _ => All.nil) rfl rfl ?_; clear hC a; intro a hC
  refine L.pu hC rfl rfl (fun _ => All.nil) rfl rfl ?_; clear hC a; intro a hC
  refine L.pu hC rfl rfl (fun _ => All.nil) rfl rfl ?_; clear hC a; intro a hC
  refine L.pu hC rfl rfl (fun _ => All.nil) rfl rfl ?_; clear hC a; intro a hC
  refine L.alloc hC rfl rfl Try.zeroValue36 rfl rfl rfl ?_; clear hC a; intro b2 a w hF hC
  refine L.st hC rfl rfl rfl rfl Try.sizeOf36 rfl rfl rfl rfl rfl ?_; clear hC a; intro a w hF hC
  refine L.pu hC rfl rfl (fun _ => All.nil) rfl rfl ?_; clear hC a; intro a hC
  refine L.pu hC rfl rfl (fun _ => All.nil) rfl rfl ?_; clear hC a; intro a hC
  refine L.nil ?_
  refine hk3 _ _ ?_; clear hk3; try clear k3
  refine W.seqk fun k4 hk4 => ?_
  refine W.region ?_
  refine L.lda hC rfl rfl rfl (fun _ => All.nil) m2 Try.isAgg36 Try.sizeOf36 rfl rfl rfl rfl ?_; clear hC a; intro a hC
  refine L.lda hC rfl rfl rfl (fun _ => All.nil) m0 Try.isAgg36 Try.sizeOf36 rfl rfl rfl rfl ?_; clear hC a; intro a hC
  refine L.bin hC rfl rfl rfl rfl (fun _ => All.nil) (fun _ => All.nil) (fun _ => run_eqS Try.underlying36 Try.stoodInHeld36 Try.eqGuardType36 ⟨⟨rfl, rfl, ⟨_, Try.underlying3⟩⟩, ⟨rfl, rfl, ⟨_, Try.underlying3⟩⟩, ⟨rfl, rfl, ⟨_, Try.underlying3⟩⟩, ⟨rfl, rfl, ⟨_, Try.underlying3⟩⟩, ⟨rfl, rfl, ⟨_, Try.underlying3⟩⟩, trivial⟩ rfl) rfl rfl ?_; clear hC a; intro a hC
  refine L.pu hC rfl rfl (fun _ => All.nil) rfl rfl ?_; clear hC a; intro a hC
  refine L.pu hC rfl rfl (fun _ => All.nil) rfl rfl ?_; clear hC a; intro a hC
  refine L.pu hC rfl rfl (fun _ => All.nil) rfl rfl ?_; clear hC a; intro a hC
  refine L.call hC rfl rfl Try.call19 rfl (fun hg => by simp only [Gt, Bool.and_eq_true] at hg; simp only [All, List.cons_append, List.nil_append, List.append_nil, List.mem_cons, List.not_mem_nil, or_false, forall_eq_or_imp, forall_eq, Bool.and_eq_true, hg, Bool.not_false, Bool.not_true, and_self]) (fun hg => sameI_ok ov1 ov2 _ _ _ (own_rd (hC.at m3)) (own_rd (hC.at m1))) rfl rfl ?_; clear hC a; intro a w hF hC
  refine L.and hC rfl rfl rfl rfl (fun _ => All.nil) (fun _ hp => by simp only [All, List.cons_append, List.nil_append, List.append_nil, List.mem_cons, List.not_mem_nil, or_false, forall_eq_or_imp, forall_eq, Bool.and_eq_true, hp, Bool.not_false, Bool.not_true, and_self]) rfl rfl ?_; clear hC a; intro a hC
  refine L.pu hC rfl rfl (fun _ => All.nil) rfl rfl ?_; clear hC a; intro a hC
  refine L.pu hC rfl rfl (fun _ => All.nil) rfl rfl ?_; clear hC a; intro a hC
  refine L.call hC rfl rfl Try.call20 rfl (fun hg => by simp only [Gt, Bool.and_eq_true] at hg; simp only [All, List.cons_append, List.nil_append, List.append_nil, List.mem_cons, List.not_mem_nil, or_false, forall_eq_or_imp, forall_eq, Bool.and_eq_true, hg, Bool.not_false, Bool.not_true, and_self]) (fun hg => num15_ok _ _) rfl rfl ?_; clear hC a; intro a w hF hC
  refine L.pu hC rfl rfl (fun _ => All.nil) rfl rfl ?_; clear hC a; intro a hC
  refine L.pu hC rfl rfl (fun hg => by simp only [Gt, Bool.and_eq_true] at hg; simp only [All, List.cons_append, List.nil_append, List.append_nil, List.mem_cons, List.not_mem_nil, or_false, forall_eq_or_imp, forall_eq, Bool.and_eq_true, hg, Bool.not_false, Bool.not_true, and_self]) rfl rfl ?_; clear hC a; intro a hC
  refine L.and hC rfl rfl rfl rfl (fun _ => All.nil) (fun _ hp => by simp only [All, List.cons_append, List.nil_append, List.append_nil, List.mem_cons, List.not_mem_nil, or_false, forall_eq_or_imp, forall_eq, Bool.and_eq_true, hp, Bool.not_false, Bool.not_true, and_self]) rfl rfl ?_; clear hC a; intro a hC
  refine L.pu hC rfl rfl (fun _ => All.nil) rfl rfl ?_; clear hC a; intro a hC
  refine L.call hC rfl rfl Try.call21 rfl (fun _ => All.nil) (fun hg => alive15_ok _) rfl rfl ?_; clear hC a; intro a w hF hC
  refine L.and hC rfl rfl rfl rfl (fun _ => All.nil) (fun _ hp => by simp only [All, List.cons_append, List.nil_append, List.append_nil, List.mem_cons, List.not_mem_nil, or_false, forall_eq_or_imp, forall_eq, Bool.and_eq_true, hp, Bool.not_false, Bool.not_true, and_self]) rfl rfl ?_; clear hC a; intro a hC
  refine L.pu hC rfl rfl (fun _ => All.nil) rfl rfl ?_; clear hC a; intro a hC
  refine L.nil ?_
  refine hk4 _ _ ?_; clear hk4; try clear k4
  refine W.ret ?_
  refine rets hC rfl (.tmp rfl .nil) ?_
  refine ⟨?_, hC.frm⟩
  refine rb ?_
  rw [run_same]
  simp [veqs_bE]
  exact veqs_bE _

end Go.Proofs.E
