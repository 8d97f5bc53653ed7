/- Literals that are read; calls that write, in statements whose order is open. -/
import Derived.Test.YtgekiiildobfkabE11
import Derived.Laws.Cover3
set_option linter.unusedVariables false
set_option linter.unusedSimpArgs false
set_option linter.unusedSectionVars false
namespace Go.Proofs.E
open Go.RowKit
section
variable {P : Program} {ops : Array Oper} {o : Oper} {rest : List Oper} {K : Kn} {a : Act} {w w' : World} {n : Nat} {S T : Nat → Prop} {w0 : World} {ρ : Env} {μ μ1 μ2 ν ν1 ν2 : List Res} {G : Option Bool}
theorem Conf.litrd {α : Type _} {E : Enc α} (xs : List α) {b : Nat} {cells : List Value} {ty : TypeId} (hC : Conf n S w0 ρ (blkR b cells ty :: μ) a w) (he : cells = E.flat xs) (hx : xs.length ≤ 1000) :
    Conf n S w0 ρ (condR none (rdR (.slice (some ⟨b, 0, none⟩) xs.length xs.length) E xs) :: μ) a w :=
  hC.upd (Frm.refl _ _) (fun _ => lit_rd (hC.at m0) he hx) (fun c hc => by
    rcases hc with hc | hc
    · exact hc.2.elim
    · left
      obtain ⟨_, _, q, m, c', he, hq⟩ := hc
      simp only [Value.slice.injEq, Option.some.injEq] at he
      obtain ⟨rfl, _⟩ := he
      exact hq.symm)
theorem FrmF.post (h : Post T ν w w') (hT : ∀ b, T b → ∃ r ∈ μ1, r.fp b) : FrmF (μ1 ++ μ2) (ν ++ μ2) w w' :=
  ⟨h.frm.mono (fun b _ ht => by obtain ⟨r, hr, hf⟩ := hT b ht; exact ⟨r, List.mem_append.2 (.inl hr), hf⟩), fun b hb hn s hs hf => by
    rcases List.mem_append.1 hs with hs | hs
    · rcases h.own s hs b (.inl hf) with h' | h'
      · obtain ⟨r, hr, hrf⟩ := hT b h'
        exact hn r (List.mem_append.2 (.inl hr)) hrf
      · omega
    · exact hn s (List.mem_append.2 (.inr hs)) hf⟩
theorem FrmF.perm (h : FrmF ν1 ν2 w w') (h1 : ν1.Perm μ1) (h2 : ν2.Perm μ2) : FrmF μ1 μ2 w w' := h.of (fun s hs => .inr (h1.mem_iff.1 hs)) (fun s hs => h2.mem_iff.2 hs)
theorem FrmF.dr1 {r r' t : Res} (h : FrmF (r :: t :: μ1) (r' :: t :: μ2) w w') (ht : ∀ b, ¬ t.fp b) : FrmF (r :: μ1) (r' :: μ2) w w' :=
  h.of (fun s hs => by
    rcases List.mem_cons.1 hs with rfl | hs
    · exact .inr (List.mem_cons_self ..)
    · rcases List.mem_cons.1 hs with rfl | hs
      · exact .inl ht
      · exact .inr (List.mem_cons_of_mem _ hs)) (fun s hs => by
    rcases List.mem_cons.1 hs with rfl | hs
    · exact List.mem_cons_self ..
    · exact List.mem_cons_of_mem _ (List.mem_cons_of_mem _ hs))
theorem run_nilS {t e : TypeId} {X Y : Operand} {A : Option Addr} {l c : Nat} (hu : P.underlying t = some (.slice e)) (w : World) : ((eqGuard .eql t X Y (.slice A l c) (.slice none 0 0)).run P w).andThen (fun _ w => (binOp .eql t (.slice A l c) (.slice none 0 0)).run P w) = .ok (.bool A.isNone) w := by
  have h1 : (eqGuard .eql t X Y (.slice A l c) (.slice none 0 0)).run P w = .ok () w := by simp [eqGuard]
  have h2 : (binOp .eql t (.slice A l c) (.slice none 0 0)).run P w = .ok (.bool A.isNone) w := by
    simp only [binOp, Sem.run_bind, run_equal_slice_nil w t e A l c hu, Result.andThen_ok, Sem.run_pure]
  rw [h1, Result.andThen_ok, h2]
theorem run_nonilS {t e : TypeId} {X Y : Operand} {A : Option Addr} {l c : Nat} (hu : P.underlying t = some (.slice e)) (w : World) : ((eqGuard .neq t X Y (.slice A l c) (.slice none 0 0)).run P w).andThen (fun _ w => (binOp .neq t (.slice A l c) (.slice none 0 0)).run P w) = .ok (.bool (!A.isNone)) w := by
  have h1 : (eqGuard .neq t X Y (.slice A l c) (.slice none 0 0)).run P w = .ok () w := by simp [eqGuard]
  have h2 : (binOp .neq t (.slice A l c) (.slice none 0 0)).run P w = .ok (.bool (!A.isNone)) w := by
    simp only [binOp, Sem.run_bind, run_equal_slice_nil w t e A l c hu, Result.andThen_ok, Sem.run_pure]
  rw [h1, Result.andThen_ok, h2]
/-- 'L.callg', with what it leaves of the rest. -/
theorem L.callgF (μ1 : List Res) {μ2 : List Res} (hC : Conf n S w0 ρ (μ1 ++ μ2) a w) (hg : o.guard = none) {f : FuncId} {args : Array Operand} {ts : Array TypeId} (ho : o.op = .call { callee := .value (.func f), args := args, argTypes := ts })
    (hcall : ∀ (vs : Array Value) (w : World), (callFunc f vs).run P w = .ok (.enter f vs) w)
    {vs : List Value} (hx : evs ρ args.toList = some ([], vs)) {X : Type _} {val : X → Value} {Q : X → Prop} {ν : X → List Res}
    (hc : Calls P f vs.toArray w fun e w' => ∃ x, e = .returned (val x) ∧ Q x ∧ Post T (ν x) w w') (hT : ∀ b, T b → ∃ r ∈ μ1, r.fp b) {d : Nat} (hd : o.dst = some d) (hn : Nat.blt d n = true)
    (k : ∀ x a w', Q x → FrmF (μ1 ++ μ2) (ν x ++ μ2) w w' → Conf n S w0 ((d, (none, val x)) :: ρ) (ν x ++ μ2) a w' → L P ops rest K a w') : L P ops (o :: rest) K a w := by
  refine L.callx hC hg ho hcall hx hd hn (hc.mono ?_)
  rintro e w' ⟨x, rfl, hq, hp⟩
  refine ⟨val x, rfl, fun a' hE => ?_⟩
  have hC' := hC.post hp hT
  exact k x a' w' hq (FrmF.post hp hT) ⟨hE, hC'.mem, hC'.frm, hC'.own⟩
end
end Go.Proofs.E
