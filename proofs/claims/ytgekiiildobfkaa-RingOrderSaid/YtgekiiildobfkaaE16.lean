/- Slices that look at the same cells: an element through a shorter view; parts of slices that are read; a second look at what is read. -/
import Derived.Test.YtgekiiildobfkaaE15
set_option linter.unusedVariables false
set_option linter.unusedSimpArgs false
set_option linter.unusedSectionVars false
namespace Go.Proofs.E
open Go.RowKit
section
variable {P : Program} {ops : Array Oper} {o : Oper} {rest : List Oper} {K : Kn} {a : Act} {w w' : World} {n : Nat} {S T : Nat → Prop} {w0 : World} {ρ : Env} {μ : List Res} {G : Option Bool}
/-- 'x[i]'s address, x a shorter view of the call's own slice. -/
theorem L.ixp (hC : Conf n S w0 ρ μ a w) (hG : guardOf ρ ops o = some G) {t e : TypeId} {x ix : Operand} (ho : o.op = .indexAddr t x ix) {α : Type _} {A : Option Addr} {m c c' lv : Nat} {v : Value} {ty : TypeId} {E : Enc α} {l : List α} {cs ds : List Bool} {kk : IntKind} {i : Int}
    (hx : ev ρ x = some (cs, .slice A m c)) (hi : ev ρ ix = some (ds, .int kk i)) (hm : ownR v ty E l ∈ μ) (hv : v = .slice A lv c') (hml : m ≤ l.length) (hcs : Gt G → All cs) (hds : Gt G → All ds) (hu : P.underlying t = some (.slice e)) (hs : ∀ w, (sizeOf e).run P w = .ok E.sz w)
    (hb : Gt G → 0 ≤ i ∧ i < (m : Int)) {d : Nat} (hd : o.dst = some d) (hn : Nat.blt d n = true)
    (k : ∀ a, Conf n S w0 ((d, (G, ep v i.toNat E.sz 0)) :: ρ) μ a w → L P ops rest K a w) : L P ops (o :: rest) K a w := by
  refine L.step hC hG (fun hg => ?_) hd hn k
  obtain ⟨h0, h1⟩ := hb hg
  obtain ⟨q, m', c1, hv2⟩ := own_some (hC.at hm) (by omega)
  rw [hv] at hv2
  simp only [Value.slice.injEq] at hv2
  obtain ⟨rfl, _, _⟩ := hv2
  have := run_ix (P := P) (w := w) (v := .slice (some q) m c) rfl (k := kk) h0 h1 ⟨_, _, _, rfl⟩ hu hs
  have e2 : ep (.slice (some q) m c) i.toNat E.sz 0 = ep v i.toNat E.sz 0 := by rw [hv]; rfl
  rw [e2] at this
  unfold execOp
  simp [ho, hC.ev hx (hcs hg), hC.ev hi (hds hg), this]
/-- 'x[:m]', nothing but the value. -/
theorem L.cutv (hC : Conf n S w0 ρ μ a w) (hG : guardOf ρ ops o = some G) {t e : TypeId} {x y : Operand} (ho : o.op = .slice t x none (some y) none) {A : Option Addr} {m c : Nat} {cs ds : List Bool} (hx : ev ρ x = some (cs, .slice A m c)) {k0 : IntKind} {i : Int} (hy : ev ρ y = some (ds, .int k0 i)) (hcs : Gt G → All cs) (hds : Gt G → All ds)
    {m' : Nat} (hi : Gt G → i = (m' : Int)) (hm : Gt G → m' ≤ c) (hu : P.underlying t = some (.slice e)) {sz : Nat} (hS : ∀ w, (sizeOf e).run P w = .ok sz w) {d : Nat} (hd : o.dst = some d) (hn : Nat.blt d n = true)
    (k : ∀ a, Conf n S w0 ((d, (G, .slice A m' c)) :: ρ) μ a w → L P ops rest K a w) : L P ops (o :: rest) K a w := by
  refine L.step hC hG (fun hg => ?_) hd hn k
  have hi := hi hg
  have hm := hm hg
  subst hi
  unfold execOp
  have hc' : (m' : Int) ≤ (c : Int) := by omega
  simp only [ho, hC.ev hx (hcs hg), hC.ev hy (hds hg)]
  have h0 : A.map (fun x => x.add 0) = A := by
    cases A with
    | none => rfl
    | some q => simp [Addr.add]
  simp [Instr.sliceAt, Instr.slice, run_underlying hu, Instr.sliceBounds, Instr.sliceBound, asIntOf, hS, hC.ev hy (hds hg), hc', hm, h0]
/-- 'x[i:j]' of a slice that is read. -/
theorem L.cutrd {α : Type _} {v : Value} {E : Enc α} {l : List α} (hC : Conf n S w0 ρ μ a w) (hg : o.guard = none) {t e : TypeId} {x y z : Operand} (ho : o.op = .slice t x (some y) (some z) none) (hx : ev ρ x = some ([], v)) (hm : rdR v E l ∈ μ) {k0 k1 : IntKind} {i j : Int} (hy : ev ρ y = some ([], .int k0 i)) (hz : ev ρ z = some ([], .int k1 j))
    {p q : Nat} (hi : i = (p : Int)) (hj : j = (q : Int)) (hpq : p < q) (hq : q ≤ l.length) (hu : P.underlying t = some (.slice e)) (hS : ∀ w, (sizeOf e).run P w = .ok E.sz w) {d : Nat} (hd : o.dst = some d) (hn : Nat.blt d n = true)
    (k : ∀ v' a, Conf n S w0 ((d, (none, v')) :: ρ) (rdR v' E ((l.drop p).take (q - p)) :: μ) a w → L P ops rest K a w) : L P ops (o :: rest) K a w := by
  subst hi; subst hj
  obtain ⟨A, c, hv, hmx, hh⟩ := hC.at hm
  have hne : l ≠ [] := fun h => by subst h; simp at hq; omega
  obtain ⟨r, rfl, hb, hcell⟩ := hh hne
  have hc := hmx.2
  have hqc : q ≤ c := Nat.le_trans hq hc
  have hlen : ((l.drop p).take (q - p)).length = q - p := by rw [List.length_take, List.length_drop]; omega
  have hblk : ∀ j, (r.add j).block = r.block := fun j => by unfold Addr.add; split <;> rfl
  have hval : ∃ r' c', (execOp a.eval o).run P w = .ok (.value (.slice (some r') (q - p) c')) w ∧ r' = r.add (p * E.sz) ∧ q - p ≤ c' := by
    unfold execOp
    have hx' := hC.ev hx All.nil
    rw [hv] at hx'
    simp only [ho, hx', hC.ev hy All.nil, hC.ev hz All.nil]
    have h1 : (q : Int) ≤ (c : Int) := by omega
    have h2 : (p : Int) ≤ (q : Int) := by omega
    have h3 : ¬ c = p := by omega
    have h4 : p ≤ q := by omega
    refine ⟨_, c - p, ?_, rfl, by omega⟩
    simp [Instr.sliceAt, Instr.slice, run_underlying hu, Instr.sliceBounds, Instr.sliceBound, asIntOf, hS, hC.ev hy All.nil, hC.ev hz All.nil, h1, h2, h3, h4, hqc]
  obtain ⟨r', c', hr, hr', hc2⟩ := hval
  refine L.value (by unfold Region.wanted; rw [hg]) hr ?_
  rw [hd]
  have hok : (rdR (.slice (some r') (q - p) c') E ((l.drop p).take (q - p))).ok w := by
    refine ⟨some r', c', by rw [hlen], ⟨by omega, by rw [hlen]; exact hc2⟩, fun _ => ⟨r', rfl, by rw [hr', hblk]; exact hb, fun j u hj => ?_⟩⟩
    have e1 : E.flat l = E.flat (l.take p) ++ E.flat (l.drop p) := by rw [← E.flat_app, List.take_append_drop]
    have e2 : E.flat (l.drop p) = E.flat ((l.drop p).take (q - p)) ++ E.flat ((l.drop p).drop (q - p)) := by rw [← E.flat_app, List.take_append_drop]
    have hlp : (E.flat (l.take p)).length = p * E.sz := by rw [E.flat_length, List.length_take, Nat.min_eq_left (by omega)]
    rw [hr']
    have hadd : (r.add (p * E.sz)).add j = r.add (p * E.sz + j) := by
      unfold Addr.add
      by_cases h1 : p * E.sz = 0 <;> by_cases h2 : j = 0 <;> simp [h1, h2, Nat.add_assoc]
    rw [hadd]
    refine hcell _ _ ?_
    rw [e1, List.getElem?_append_right (by omega), hlp, Nat.add_sub_cancel_left, e2]
    rw [List.getElem?_append_left (List.getElem?_eq_some_iff.1 hj).1]
    exact hj
  have hC' := hC.cons (Frm.refl _ w) hok (fun b hb => hb.elim) (fun b hb => by
    obtain ⟨_, q', m1, c1, he, hbq⟩ := hb
    simp only [Value.slice.injEq, Option.some.injEq] at he
    obtain ⟨rfl, _, _⟩ := he
    right
    intro s hs hf
    rw [hr', hblk] at hbq
    obtain ⟨l1, l2, hsplit⟩ := List.append_of_mem hs
    by_cases hse : s = rdR v E l
    · rw [hse] at hf; exact hf
    · have hpw := hC.mem.2
      have hap : apart s (rdR v E l) := by
        rw [hsplit, List.pairwise_append, List.pairwise_cons] at hpw
        have hm' : rdR v E l ∈ l1 ∨ rdR v E l ∈ l2 := by
          rw [hsplit, List.mem_append, List.mem_cons] at hm
          rcases hm with h | h | h
          · exact .inl h
          · exact absurd h.symm hse
          · exact .inr h
        rcases hm' with h | h
        · exact (hpw.2.2 _ h s (List.mem_cons_self ..)).symm
        · exact hpw.2.1.1 _ h
      exact (hap b).1 hf (.inr ⟨hne, r, _, _, hv, hbq⟩))
  exact k _ _ ⟨hC'.env.slot hn (none, _) rfl, hC'.mem, hC'.frm, hC'.own⟩
/-- A second look at what is only read. -/
theorem Conf.dup {r r' : Res} (hC : Conf n S w0 ρ μ a w) (hm : r ∈ μ) (hf : ∀ b, ¬ r.fp b) (hok : r'.ok w) (hf' : ∀ b, ¬ r'.fp b) (hrp : ∀ b, r'.rp b → r.rp b) : Conf n S w0 ρ (r' :: μ) a w :=
  hC.cons (Frm.refl _ w) hok (fun b hb => absurd hb (hf' b)) (fun b hb => .inr (fun s hs hfs => by
    by_cases hse : s = r
    · rw [hse] at hfs; exact hf b hfs
    · have hpw := hC.mem.2
      obtain ⟨l1, l2, hsplit⟩ := List.append_of_mem hs
      have hap : apart s r := by
        rw [hsplit, List.pairwise_append, List.pairwise_cons] at hpw
        rw [hsplit, List.mem_append, List.mem_cons] at hm
        rcases hm with h | h | h
        · exact (hpw.2.2 _ h s (List.mem_cons_self ..)).symm
        · exact absurd h.symm hse
        · exact hpw.2.1.1 _ h
      exact (hap b).1 hfs (.inr (hrp b hb))))
end
/-- A tuple whose second part is a slice that is read. -/
def tupR {α : Type _} (tv : Value) (x y : Value) (E : Enc α) (l : List α) : Res where
  fp := Nob
  rp := fun b => ∃ v, tv = .tuple #[x, v, y] ∧ (rdR v E l).rp b
  ok w := ∃ v, tv = .tuple #[x, v, y] ∧ (rdR v E l).ok w
  st := by
    rintro w w' ⟨v, rfl, h⟩ hs
    exact ⟨v, rfl, (rdR v E l).st w w' h (fun b hb => hs b (hb.imp (fun h => h.elim) (fun h => ⟨v, rfl, h⟩)))⟩
  bd := by
    rintro w ⟨v, rfl, h⟩ b hb
    rcases hb with hb | ⟨v', he, hb⟩
    · exact hb.elim
    · simp only [Value.tuple.injEq, Array.mk.injEq, List.cons.injEq, and_true, true_and] at he
      subst he
      exact (rdR v E l).bd w h b (.inr hb)
end Go.Proofs.E
