/- min and max of three. -/
import Derived.Test.YtgekiiildobfkaaE14
set_option linter.unusedVariables false
set_option linter.unusedSimpArgs false
set_option linter.unusedSectionVars false
namespace Go.Proofs.E
open Go.RowKit
theorem nt {c : Bool} (h : c = false) : ¬ c = true := by rw [h]; decide
section
variable {P : Program} {ops : Array Oper} {o : Oper} {rest : List Oper} {K : Kn} {a : Act} {w w' : World} {n : Nat} {S T : Nat → Prop} {w0 : World} {ρ : Env} {μ : List Res} {G : Option Bool}
theorem L.min3 (hC : Conf n S w0 ρ μ a w) (hG : guardOf ρ ops o = some G) {x y z : Operand} {ts : Array TypeId} (ho : o.op = .call { callee := .builtin .min, args := #[x, y, z], argTypes := ts }) {cs ds es : List Bool} {kk k2 k3 : IntKind} {i j k0 : Int} (hx : ev ρ x = some (cs, .int kk i)) (hy : ev ρ y = some (ds, .int k2 j)) (hz : ev ρ z = some (es, .int k3 k0)) (hcs : Gt G → All cs) (hds : Gt G → All ds) (hes : Gt G → All es)
    {d : Nat} (hd : o.dst = some d) (hn : Nat.blt d n = true) (k : ∀ a, Conf n S w0 ((d, (G, .int kk (imin (imin i j) k0))) :: ρ) μ a w → L P ops rest K a w) : L P ops (o :: rest) K a w := by
  refine L.step hC hG (fun hg => ?_) hd hn k
  unfold execOp
  simp [ho, resolve, invoke, builtin, Builtin.min_, Builtin.min2, hC.ev hx (hcs hg), hC.ev hy (hds hg), hC.ev hz (hes hg), imin]
  first | done | rfl | congr
theorem L.max3 (hC : Conf n S w0 ρ μ a w) (hG : guardOf ρ ops o = some G) {x y z : Operand} {ts : Array TypeId} (ho : o.op = .call { callee := .builtin .max, args := #[x, y, z], argTypes := ts }) {cs ds es : List Bool} {kk k2 k3 : IntKind} {i j k0 : Int} (hx : ev ρ x = some (cs, .int kk i)) (hy : ev ρ y = some (ds, .int k2 j)) (hz : ev ρ z = some (es, .int k3 k0)) (hcs : Gt G → All cs) (hds : Gt G → All ds) (hes : Gt G → All es)
    {d : Nat} (hd : o.dst = some d) (hn : Nat.blt d n = true) (k : ∀ a, Conf n S w0 ((d, (G, .int kk (imax (imax i j) k0))) :: ρ) μ a w → L P ops rest K a w) : L P ops (o :: rest) K a w := by
  refine L.step hC hG (fun hg => ?_) hd hn k
  unfold execOp
  simp [ho, resolve, invoke, builtin, Builtin.max_, Builtin.max2, hC.ev hx (hcs hg), hC.ev hy (hds hg), hC.ev hz (hes hg), imax]
  first | done | rfl | congr
end
end Go.Proofs.E
