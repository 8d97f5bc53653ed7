/- Calls that lay new pieces, with what they leave. -/
import Derived.Test.YtgekiiildobfkaaE16
set_option linter.unusedVariables false
set_option linter.unusedSimpArgs false
set_option linter.unusedSectionVars false
namespace Go.Proofs.E
open Go.RowKit
section
variable {P : Program} {ops : Array Oper} {o : Oper} {rest : List Oper} {K : Kn} {a : Act} {w w' : World} {n : Nat} {S T : Nat → Prop} {w0 : World} {ρ : Env} {μ : List Res} {G : Option Bool}
theorem L.calln (hC : Conf n S w0 ρ μ a w) (hg : o.guard = none) {f : FuncId} {args : Array Operand} {ts : Array TypeId} (ho : o.op = .call { callee := .value (.func f), args := args, argTypes := ts })
    (hcall : ∀ (vs : Array Value) (w : World), (callFunc f vs).run P w = .ok (.enter f vs) w)
    {vs : List Value} (hx : evs ρ args.toList = some ([], vs)) {X : Type _} {val : X → Value} {Q : X → Prop} {ν : X → List Res}
    (hc : Calls P f vs.toArray w fun e w' => ∃ x, e = .returned (val x) ∧ Q x ∧ Post Nob (ν x) w w') {d : Nat} (hd : o.dst = some d) (hn : Nat.blt d n = true)
    (k : ∀ x a w', Q x → Frm Nob w w' → Conf n S w0 ((d, (none, val x)) :: ρ) (ν x ++ μ) a w' → L P ops rest K a w') : L P ops (o :: rest) K a w := by
  refine L.callx hC hg ho hcall hx hd hn (hc.mono ?_)
  rintro e w' ⟨x, rfl, hq, hp⟩
  refine ⟨val x, rfl, fun a' hE => ?_⟩
  have hC' := Conf.post (μ1 := []) hC hp (fun b h => h.elim)
  exact k x a' w' hq hp.frm ⟨hE, hC'.mem, hC'.frm, hC'.own⟩
theorem own_rp {α : Type _} {v : Value} {ty : TypeId} {E : Enc α} {l : List α} (h : (ownR v ty E l).ok w) {b : Nat} (hb : (rdR v E l).rp b) : (ownR v ty E l).fp b := by
  obtain ⟨hne, q, m, c, he, rfl⟩ := hb
  have hown : w.ownsRow 0 ty E.sz v l.length (E.flat l) := h
  rcases hown.2 with ⟨h1, h0⟩ | ⟨g, cap, cur, h1, _⟩
  · rw [h1] at he; cases he
  · show v.ownBlock = some q.block
    rw [h1] at he ⊢
    simp only [Value.slice.injEq, Option.some.injEq] at he
    rw [← he.1]
    rfl
/-- What is one's own is read from now on. -/
theorem Conf.read {α : Type _} {v : Value} {ty : TypeId} {E : Enc α} {l : List α} (hC : Conf n S w0 ρ (ownR v ty E l :: μ) a w) : Conf n S w0 ρ (condR none (rdR v E l) :: μ) a w :=
  hC.upd (Frm.refl _ _) (fun _ => own_rd (hC.at m0)) (fun b hb => by
    rcases hb with hb | hb
    · exact hb.2.elim
    · exact .inl (own_rp (hC.at m0) hb.2))
theorem Conf.readT {α : Type _} {v x y : Value} {ty : TypeId} {E : Enc α} {l : List α} (hC : Conf n S w0 ρ (ownR v ty E l :: μ) a w) : Conf n S w0 ρ (condR none (tupR (.tuple #[x, v, y]) x y E l) :: μ) a w :=
  hC.upd (Frm.refl _ _) (fun _ => ⟨v, rfl, own_rd (hC.at m0)⟩) (fun b hb => by
    rcases hb with hb | hb
    · exact hb.2.elim
    · obtain ⟨v', he, hb⟩ := hb.2
      simp only [Value.tuple.injEq, Array.mk.injEq, List.cons.injEq, and_true, true_and] at he
      subst he
      exact .inl (own_rp (hC.at m0) hb))
/-- The second part of such a tuple, looked at by itself. -/
theorem Conf.part {α : Type _} {v x y : Value} {E : Enc α} {l : List α} (hC : Conf n S w0 ρ (condR none (tupR (.tuple #[x, v, y]) x y E l) :: μ) a w) : Conf n S w0 ρ (condR none (rdR v E l) :: condR none (tupR (.tuple #[x, v, y]) x y E l) :: μ) a w := by
  refine hC.dup m0 (fun b hb => hb.2.elim) (fun _ => ?_) (fun b hb => hb.2.elim) (fun b hb => ⟨trivial, v, rfl, hb.2⟩)
  obtain ⟨v', he, h⟩ := hC.at m0 trivial
  simp only [Value.tuple.injEq, Array.mk.injEq, List.cons.injEq, and_true, true_and] at he
  subst he
  exact h
end
end Go.Proofs.E
