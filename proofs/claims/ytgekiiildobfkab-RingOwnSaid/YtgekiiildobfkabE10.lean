/- More operations: appends of what may be empty, empty literals, parts of slices. -/
import Derived.Test.YtgekiiildobfkabE9
import Derived.Deep.Upon
set_option linter.unusedVariables false
set_option linter.unusedSimpArgs false
set_option linter.unusedSectionVars false
namespace Go.Proofs.E
open Go.RowKit

section
variable {P : Program} {ops : Array Oper} {o : Oper} {rest : List Oper} {K : Kn} {a : Act} {w w' : World} {n : Nat} {S T : Nat → Prop} {w0 : World} {ρ : Env} {μ μ1 μ2 ν : List Res} {G : Option Bool}

theorem rd_lt {α : Type _} {v : Value} {E : Enc α} {l : List α} (h : (rdR v E l).ok w) : l.length ≤ 9223372036854775807 := by
  obtain ⟨_, _, _, h, _⟩ := h; exact h.1
theorem own_lt {α : Type _} {v : Value} {ty : TypeId} {E : Enc α} {l : List α} (h : (ownR v ty E l).ok w) : l.length ≤ 9223372036854775807 := rd_lt (own_rd h)
theorem lit_cells {α : Type _} {E : Enc α} {xs : List α} {b : Nat} {cells : List Value} {ty : TypeId} (h : (blkR b cells ty).ok w) (he : cells = E.flat xs) :
    ∀ j r, (E.flat xs)[j]? = some r → w.cell? ((⟨b, 0, none⟩ : Addr).add j) = some r := by
  subst he
  intro j r hj
  rw [add_plain', blk_cell h, Nat.zero_add]; exact hj
/-- A literal is one's own. -/
theorem lit_own {α : Type _} {E : Enc α} {xs : List α} {b : Nat} {cells : List Value} {ty : TypeId} (h : (blkR b cells ty).ok w) (he : cells = E.flat xs) (hx : xs.length ≤ 1000) : (ownR (.slice (some ⟨b, 0, none⟩) xs.length xs.length) ty E xs).ok w := by
  subst he
  refine ⟨E.flat_length xs, .inr ⟨b, xs.length, (E.flat xs).toArray, rfl, Nat.zero_le _, h, Nat.le_refl _, by simp only [maxLen]; omega, by simp [E.flat_length], ?_⟩⟩
  rw [← E.flat_length xs]
  simp
/-- A literal is read. -/
theorem lit_rd {α : Type _} {E : Enc α} {xs : List α} {b : Nat} {cells : List Value} {ty : TypeId} (h : (blkR b cells ty).ok w) (he : cells = E.flat xs) (hx : xs.length ≤ 1000) : (rdR (.slice (some ⟨b, 0, none⟩) xs.length xs.length) E xs).ok w := own_rd (lit_own h he hx)
theorem Conf.litown {α : Type _} {E : Enc α} (xs : List α) {b : Nat} {cells : List Value} {ty : TypeId} (hC : Conf n S w0 ρ (blkR b cells ty :: μ) a w) (he : cells = E.flat xs) (hx : xs.length ≤ 1000) :
    Conf n S w0 ρ (ownR (.slice (some ⟨b, 0, none⟩) xs.length xs.length) ty E xs :: μ) a w :=
  hC.upd (Frm.refl _ _) (lit_own (hC.at m0) he hx) (fun c hc => by
    rcases hc with hc | hc
    · left
      have : some b = some c := hc
      exact (Option.some.inj this).symm
    · exact hc.elim)

theorem L.bs0 {α : Type _} {E : Enc α} (hC : Conf n S w0 ρ μ a w) (hg : o.guard = none) {t e : TypeId} (ho : o.op = .buildSlice t 0 #[]) (hu : P.underlying t = some (.slice e)) {m : Nat} (hS : ∀ w, (sizeOf e).run P w = .ok m w) {d : Nat} (hd : o.dst = some d) (hn : Nat.blt d n = true)
    (k : ∀ v a w', Frm Nob w w' → Conf n S w0 ((d, (none, v)) :: ρ) (ownR v e E ([] : List α) :: μ) a w' → L P ops rest K a w') : L P ops (o :: rest) K a w := by
  refine L.value (by unfold Region.wanted; rw [hg]) (v := .slice (some ⟨w.heap.size, 0, none⟩) 0 0) (w' := w.alloc (.cells #[] e)) ?_ ?_
  · unfold execOp
    simp [ho, Instr.buildSlice, run_underlying hu, hS, Instr.fill, newRow]; simp [Array.range]
  · rw [hd]
    have hC' := hC.cons (Frm.alloc w (.cells #[] e)) (r := ownR (.slice (some ⟨w.heap.size, 0, none⟩) 0 0) e E ([] : List α)) (by
      refine ⟨by simp [Enc.flat], .inr ⟨w.heap.size, 0, #[], rfl, Nat.zero_le _, heap_alloc_new w _, Nat.le_refl _, by simp [maxLen], by simp, by simp [Enc.flat]⟩⟩) (fun b hb => by
        have hb : some w.heap.size = some b := hb
        have := Option.some.inj hb
        omega) (fun b hb => hb.elim)
    exact k _ _ _ (Frm.alloc _ _) ⟨hC'.env.slot hn (none, _) rfl, hC'.mem, hC'.frm, hC'.own⟩
/-- 'append(v, xs..)': what is appended is read, and may be empty. -/
theorem L.appr {α : Type _} {v : Value} {ty : TypeId} {E : Enc α} {l xs : List α} (hC : Conf n S w0 ρ (ownR v ty E l :: μ) a w) (hg : o.guard = none) {t : TypeId} {x y : Operand}
    (ho : o.op = .call { callee := .builtin .append, args := #[x, y], argTypes := #[t, t] }) (hx : ev ρ x = some ([], v)) {u : Value} (hy : ev ρ y = some ([], u))
    (hm : (rdR u E xs).ok w)
    (hu : P.underlying t = some (.slice ty)) {z : Value} {bytes : Nat} (hi : (P.info? ty).map (fun i => (i.zero, i.size, i.bytes)) = some (some z, E.sz, bytes)) (hz : z.cells.size = E.sz)
    (hroom : (l.length + xs.length) * bytes ≤ 140737488355328) (hlen : l.length + xs.length ≤ 9223372036854775807) {d : Nat} (hd : o.dst = some d) (hn : Nat.blt d n = true)
    (k : ∀ v' a w', FrmF (ownR v ty E l :: μ) (ownR v' ty E (l ++ xs) :: μ) w w' → Conf n S w0 ((d, (none, v')) :: ρ) (ownR v' ty E (l ++ xs) :: μ) a w' → L P ops rest K a w') : L P ops (o :: rest) K a w := by
  by_cases hxs : xs = []
  · subst hxs
    obtain ⟨i, h1, h2, h3, h4⟩ := info_parts' hi
    obtain ⟨A, c, rfl, _, _⟩ := hm
    have hown : w.ownsRow 0 ty E.sz v l.length (E.flat l) := hC.at m0
    have hs : Src P i.size t (.slice A ([] : List α).length c) 0 [] w := by
      cases A with
      | none => exact Src.ofNil w hu c
      | some q => exact Src.ofSlice w hu q 0 c [] (by simp) (by simp) (by simp)
    have hv : ∃ B cap, v = .slice B l.length cap ∧ l.length ≤ cap := by
      rcases hown.2 with ⟨rfl, h0⟩ | ⟨g, cap, cur, hv, _, hgh, hcap, _⟩
      · rw [h0]; exact ⟨none, 0, rfl, Nat.le_refl _⟩
      · exact ⟨_, cap, hv, hcap⟩
    obtain ⟨B, cap, hv, hcap⟩ := hv
    have hr := run_append_nothing (P := P) w t t o.type ty i hu h1 B l.length cap hcap _ hs
    rw [← hv] at hr
    refine L.value (by unfold Region.wanted; rw [hg]) (v := v) (w' := w) ?_ ?_
    · unfold execOp
      simp only [ho, resolve, invoke, builtin, hC.ev hx All.nil, hC.ev hy All.nil, List.map_toArray, List.map_cons, List.map_nil, Sem.run_bind, Sem.run_pure, Result.andThen_ok, hr]
    · rw [hd]
      have hC' : Conf n S w0 ρ (ownR v ty E (l ++ []) :: μ) a w := by rw [List.append_nil]; exact hC
      refine k v _ w ?_ ⟨hC'.env.slot hn (none, v) rfl, hC'.mem, hC'.frm, hC'.own⟩
      rw [List.append_nil]
      exact FrmF.of_nob (Frm.refl _ _)
  · refine L.app hC hg ho hx hy ?_ hu hi hz hroom hlen hd hn k
    obtain ⟨A, c, rfl, _, h⟩ := hm
    obtain ⟨q, rfl, _, hc⟩ := h hxs
    exact ⟨q, c, rfl, hc⟩
/-- 'v[:m]', v of the call's own. -/
theorem L.cutown {α : Type _} {v : Value} {ty : TypeId} {E : Enc α} {l : List α} (hC : Conf n S w0 ρ (ownR v ty E l :: μ) a w) (hg : o.guard = none) {t : TypeId} {x y : Operand} (ho : o.op = .slice t x none (some y) none) (hx : ev ρ x = some ([], v)) {k0 : IntKind} {i : Int} (hy : ev ρ y = some ([], .int k0 i))
    {m : Nat} (hi : i = (m : Int)) (hm : m ≤ l.length) (hu : P.underlying t = some (.slice ty)) (hS : ∀ w, (sizeOf ty).run P w = .ok E.sz w) {d : Nat} (hd : o.dst = some d) (hn : Nat.blt d n = true)
    (k : ∀ v' a, Conf n S w0 ((d, (none, v')) :: ρ) (ownR v' ty E (l.take m) :: μ) a w → L P ops rest K a w) : L P ops (o :: rest) K a w := by
  subst hi
  have hown : w.ownsRow 0 ty E.sz v l.length (E.flat l) := hC.at m0
  have key : ∀ v', (execOp a.eval o).run P w = .ok (.value v') w → (ownR v' ty E (l.take m)).ok w → (∀ b, v'.ownBlock = some b → v.ownBlock = some b) → L P ops (o :: rest) K a w := by
    intro v' hr hok hb
    refine L.value (by unfold Region.wanted; rw [hg]) hr ?_
    rw [hd]
    have hC' := hC.upd (r' := ownR v' ty E (l.take m)) (Frm.refl _ _) hok (fun b h => h.elim (fun h => .inl (hb b h)) (fun h => h.elim))
    exact k _ _ ⟨hC'.env.slot hn (none, _) rfl, hC'.mem, hC'.frm, hC'.own⟩
  rcases hown.2 with ⟨hv, h0⟩ | ⟨g, cap, cur, hv, _, hgh, hcap, hcm, hcs, htake⟩
  · have hm0 : m = 0 := by omega
    subst hm0
    have hl : l = [] := List.eq_nil_of_length_eq_zero h0
    subst hl
    refine key v ?_ ?_ (fun _ h => h)
    · unfold execOp
      have hx' := hC.ev hx All.nil
      rw [hv] at hx'
      simp only [ho, hx', hC.ev hy All.nil, hv]
      simp [Instr.sliceAt, Instr.slice, run_underlying hu, Instr.sliceBounds, Instr.sliceBound, asIntOf, hS, hC.ev hy All.nil]
    · rw [hv]; exact own_nil
  · have hml : m ≤ cap := Nat.le_trans hm hcap
    refine key (.slice (some ⟨g, 0, none⟩) m cap) ?_ ?_ (fun b h => by rw [hv]; exact h)
    · unfold execOp
      have hx' := hC.ev hx All.nil
      rw [hv] at hx'
      simp only [ho, hx', hC.ev hy All.nil]
      have hc' : (m : Int) ≤ (cap : Int) := by omega
      simp [Instr.sliceAt, Instr.slice, run_underlying hu, Instr.sliceBounds, Instr.sliceBound, asIntOf, hS, hC.ev hy All.nil, hc', hml, add_plain']
    · refine ⟨E.flat_length _, .inr ⟨g, cap, cur, by rw [List.length_take, Nat.min_eq_left hm], Nat.zero_le _, hgh, by rw [List.length_take, Nat.min_eq_left hm]; exact hml, hcm, hcs, ?_⟩⟩
      rw [List.length_take, Nat.min_eq_left hm]
      have h1 : E.flat l = E.flat (l.take m) ++ E.flat (l.drop m) := by rw [← E.flat_app, List.take_append_drop]
      have h2 : (E.flat (l.take m)).length = m * E.sz := by rw [E.flat_length, List.length_take, Nat.min_eq_left hm]
      have h3 : (cur.toList.take (l.length * E.sz)).take (m * E.sz) = cur.toList.take (m * E.sz) := by
        rw [List.take_take, Nat.min_eq_left (Nat.mul_le_mul_right _ hm)]
      rw [← h3, htake, h1, ← h2, List.take_left]
end

theorem pf2 {α : Type _} {a b c : α} {l : List α} : (a :: b :: c :: l).Perm (c :: a :: b :: l) := (List.Perm.cons a (List.Perm.swap ..)).trans (List.Perm.swap ..)
theorem pf3 {α : Type _} {a b c d : α} {l : List α} : (a :: b :: c :: d :: l).Perm (d :: a :: b :: c :: l) := (List.Perm.cons a pf2).trans (List.Perm.swap ..)
theorem pf4 {α : Type _} {a b c d e : α} {l : List α} : (a :: b :: c :: d :: e :: l).Perm (e :: a :: b :: c :: d :: l) := (List.Perm.cons a pf3).trans (List.Perm.swap ..)
theorem pf5 {α : Type _} {a b c d e f : α} {l : List α} : (a :: b :: c :: d :: e :: f :: l).Perm (f :: a :: b :: c :: d :: e :: l) := (List.Perm.cons a pf4).trans (List.Perm.swap ..)
theorem pf6 {α : Type _} {a b c d e f g : α} {l : List α} : (a :: b :: c :: d :: e :: f :: g :: l).Perm (g :: a :: b :: c :: d :: e :: f :: l) := (List.Perm.cons a pf5).trans (List.Perm.swap ..)
theorem pf7 {α : Type _} {a b c d e f g h : α} {l : List α} : (a :: b :: c :: d :: e :: f :: g :: h :: l).Perm (h :: a :: b :: c :: d :: e :: f :: g :: l) := (List.Perm.cons a pf6).trans (List.Perm.swap ..)
theorem pf8 {α : Type _} {a b c d e f g h i : α} {l : List α} : (a :: b :: c :: d :: e :: f :: g :: h :: i :: l).Perm (i :: a :: b :: c :: d :: e :: f :: g :: h :: l) := (List.Perm.cons a pf7).trans (List.Perm.swap ..)
theorem pf9 {α : Type _} {a b c d e f g h i j : α} {l : List α} : (a :: b :: c :: d :: e :: f :: g :: h :: i :: j :: l).Perm (j :: a :: b :: c :: d :: e :: f :: g :: h :: i :: l) := (List.Perm.cons a pf8).trans (List.Perm.swap ..)
section
variable {n : Nat} {S : Nat → Prop} {w0 : World} {ρ : Env} {a : Act} {w : World} {r0 r1 r2 r3 r4 r5 r6 r7 r8 r9 : Res} {l : List Res}
theorem Conf.fr4 (h : Conf n S w0 ρ (r0 :: r1 :: r2 :: r3 :: r4 :: l) a w) : Conf n S w0 ρ (r4 :: r0 :: r1 :: r2 :: r3 :: l) a w := h.perm pf4
theorem Conf.fr5 (h : Conf n S w0 ρ (r0 :: r1 :: r2 :: r3 :: r4 :: r5 :: l) a w) : Conf n S w0 ρ (r5 :: r0 :: r1 :: r2 :: r3 :: r4 :: l) a w := h.perm pf5
theorem Conf.fr6 (h : Conf n S w0 ρ (r0 :: r1 :: r2 :: r3 :: r4 :: r5 :: r6 :: l) a w) : Conf n S w0 ρ (r6 :: r0 :: r1 :: r2 :: r3 :: r4 :: r5 :: l) a w := h.perm pf6
theorem Conf.fr7 (h : Conf n S w0 ρ (r0 :: r1 :: r2 :: r3 :: r4 :: r5 :: r6 :: r7 :: l) a w) : Conf n S w0 ρ (r7 :: r0 :: r1 :: r2 :: r3 :: r4 :: r5 :: r6 :: l) a w := h.perm pf7
theorem Conf.fr8 (h : Conf n S w0 ρ (r0 :: r1 :: r2 :: r3 :: r4 :: r5 :: r6 :: r7 :: r8 :: l) a w) : Conf n S w0 ρ (r8 :: r0 :: r1 :: r2 :: r3 :: r4 :: r5 :: r6 :: r7 :: l) a w := h.perm pf8
theorem Conf.fr9 (h : Conf n S w0 ρ (r0 :: r1 :: r2 :: r3 :: r4 :: r5 :: r6 :: r7 :: r8 :: r9 :: l) a w) : Conf n S w0 ρ (r9 :: r0 :: r1 :: r2 :: r3 :: r4 :: r5 :: r6 :: r7 :: r8 :: l) a w := h.perm pf9
end
end Go.Proofs.E
