/- Literals of whole numbers; small words for the printed walks. -/
import Derived.Test.YtgekiiildobfkabE5
set_option linter.unusedVariables false
set_option linter.unusedSimpArgs false
set_option linter.unusedSectionVars false
namespace Go.Proofs.E
open Go.RowKit

def Env.del (ρ : Env) (d : Nat) : Env := match ρ with | [] => [] | (j, s) :: r => bif Nat.beq j d then Env.del r d else (j, s) :: Env.del r d
theorem Env.del_get : ∀ (ρ : Env) (d i : Nat) (s : Slot), (Env.del ρ d).get i = some s → ρ.get i = some s
  | [], d, i, s, h => by simp [Env.del, Env.get] at h
  | (j, t) :: r, d, i, s, h => by
    simp only [Env.del] at h
    cases hj : Nat.beq j d with
    | true =>
      rw [hj] at h
      simp only [cond_true] at h
      have hne : ∀ i, (Env.del r d).get i ≠ none → i ≠ d := by
        clear h
        induction r with
        | nil => intro i h; simp [Env.del, Env.get] at h
        | cons p r ih =>
          obtain ⟨k, u⟩ := p
          intro i h
          simp only [Env.del] at h
          cases hk : Nat.beq k d with
          | true => rw [hk] at h; exact ih i h
          | false =>
            rw [hk] at h
            simp only [cond_false, Env.get] at h
            cases hki : Nat.beq k i with
            | true => intro e; subst e; rw [hk] at hki; cases hki
            | false => rw [hki] at h; exact ih i h
      have h1 := Env.del_get r d i s h
      simp only [Env.get]
      cases hji : Nat.beq j i with
      | false => exact h1
      | true =>
        have := Nat.eq_of_beq_eq_true hji
        have h2 := Nat.eq_of_beq_eq_true hj
        exact absurd (by omega) (hne i (by rw [h]; simp))
    | false =>
      rw [hj] at h
      simp only [cond_false, Env.get] at h ⊢
      cases hji : Nat.beq j i with
      | true => rw [hji] at h; exact h
      | false => rw [hji] at h; exact Env.del_get r d i s h
/-- Every row of ρ' is known of ρ. -/
def AllIn : Env → Env → Prop
  | [], _ => True
  | (i, s) :: r, ρ => ρ.get i = some s ∧ AllIn r ρ
theorem AllIn.spec : ∀ {ρ' ρ : Env}, AllIn ρ' ρ → ∀ i s, ρ'.get i = some s → ρ.get i = some s
  | [], _, _, i, s, h => by simp [Env.get] at h
  | (j, t) :: r, ρ, h, i, s, hs => by
    simp only [Env.get] at hs
    cases hj : Nat.beq j i with
    | true =>
      rw [hj] at hs
      simp only [cond_true, Option.some.injEq] at hs
      have := Nat.eq_of_beq_eq_true hj
      subst this; subst hs
      exact h.1
    | false => rw [hj] at hs; exact AllIn.spec h.2 i s hs

section
variable {P : Program} {ops : Array Oper} {o : Oper} {rest : List Oper} {K : Kn} {a : Act} {w : World} {n : Nat} {S : Nat → Prop} {w0 : World} {ρ ρ' : Env} {μ : List Res} {G : Option Bool}
theorem Conf.del (h : Conf n S w0 ρ μ a w) (d : Nat) : Conf n S w0 (Env.del ρ d) μ a w := h.sub (fun i s hi => Env.del_get ρ d i s hi)
theorem Conf.keep (h : Conf n S w0 ρ μ a w) (hs : AllIn ρ' ρ) : Conf n S w0 ρ' μ a w := h.sub (AllIn.spec hs)

def intE : Enc Int where
  sz := 1
  enc x := [.int .i64 x]
  len _ := rfl
  one := by intro x u hu; simp at hu; subst hu; rfl
  pos := by decide
def intsOf : List Value → Option (List Int)
  | [] => some []
  | .int .i64 x :: r => match intsOf r with | some l => some (x :: l) | none => none
  | _ => none
theorem intsOf_spec : ∀ {vs : List Value} {xs : List Int}, intsOf vs = some xs → intE.flat xs = vs
  | [], xs, h => by simp [intsOf] at h; subst h; rfl
  | v :: r, xs, h => by
    unfold intsOf at h
    split at h
    · rename_i heq; cases heq
    · rename_i x r' heq
      simp only [List.cons.injEq] at heq
      obtain ⟨rfl, rfl⟩ := heq
      split at h
      · rename_i l hl
        simp only [Option.some.injEq] at h
        subst h
        have := intsOf_spec hl
        simp only [Enc.flat, List.flatMap_cons, intE] at this ⊢
        rw [this]; rfl
      · cases h
    · cases h
/-- '[]int{..}', as a list that is only read. -/
theorem L.lits (hC : Conf n S w0 ρ μ a w) (hG : guardOf ρ ops o = some G) {t e : TypeId} {len : Nat} {parts : Array (Nat × Operand)} (ho : o.op = .buildSlice t len parts) {cs : List Bool} {vs : List Value} (hx : evs ρ (parts.toList.map (·.2)) = some (cs, vs)) (hcs : Gt G → All cs)
    (hu : P.underlying t = some (.slice e)) (hi : (P.info? e).map (fun i => (i.zero, i.size, i.bytes)) = some (some (.int .i64 0), 1, 8)) (hl : Nat.blt 0 len = true) (hs : Nat.ble len 1000 = true)
    {xs : List Int} (hxs : intsOf vs = some xs) (hlen : Nat.beq xs.length len = true) (hf : Instr.fill (fun i => some (i * 1, 1)) ((Array.range (len * 1)).map ((#[Value.int .i64 0] : Array Value)[· % 1]!)) ((parts.toList.map (·.1)).zip vs) = some vs.toArray) {d : Nat} (hd : o.dst = some d) (hn : Nat.blt d n = true)
    (k : ∀ a w' v, Frm Nob w w' → Conf n S w0 ((d, (G, v)) :: ρ) (condR G (rdR v intE xs) :: μ) a w' → L P ops rest K a w') : L P ops (o :: rest) K a w := by
  have hw := wanted_of hC.env hG
  by_cases hg : Gt G
  · obtain ⟨i, h1, h2, h3, h4⟩ := info_parts' hi
    have hl : 0 < len := by simpa [Nat.blt_eq] using hl
    have hs := Nat.le_of_ble_eq_true hs
    have hlen := Nat.eq_of_beq_eq_true hlen
    have ee := evs_eval hC.env hx (hcs hg)
    have hp : (parts.map fun p => (p.1, a.eval p.2)).toList = (parts.toList.map (·.1)).zip vs := by
      rw [← ee, Array.toList_map]
      generalize parts.toList = q
      induction q with
      | nil => rfl
      | cons p q ih => simp [ih]
    have hflat := intsOf_spec hxs
    have hr := run_buildSlice (P := P) w t e len (parts.map fun p => (p.1, a.eval p.2)) vs.toArray i (.int .i64 0) hu h1 h2 (by rw [h3]; omega) (by rw [h3]; omega) (by rw [hp, h3]; exact hf)
    refine L.value (hw.2 hg) (v := .slice (some ⟨w.heap.size, 0, none⟩) len len) (w' := w.alloc (.cells vs.toArray e)) ?_ ?_
    · unfold execOp
      simp only [ho, Sem.run_bind, hr, Result.andThen_ok, Sem.run_pure]
    · rw [hd]
      have hr : (rdR (.slice (some ⟨w.heap.size, 0, none⟩) len len) intE xs).ok (w.alloc (.cells vs.toArray e)) := by
        refine ⟨_, _, by rw [hlen], ⟨by omega, by omega⟩, fun _ => ⟨_, rfl, by simp, fun j u hj => ?_⟩⟩
        rw [hflat] at hj
        rw [add_plain', cell_of_row _ _ _ _ _ _ (heap_alloc_new w _)]
        simpa using hj
      have hC' := hC.cons (Frm.alloc w (.cells vs.toArray e)) (r := condR G (rdR (.slice (some ⟨w.heap.size, 0, none⟩) len len) intE xs)) (fun _ => hr) (fun b hb => absurd hb.2 (fun h => h)) (fun b hb => by
        obtain ⟨_, _, q, m, c, he, hq⟩ := hb
        simp only [Value.slice.injEq, Option.some.injEq] at he
        obtain ⟨rfl, _⟩ := he
        exact .inl (Nat.le_of_eq hq))
      exact k _ _ _ (Frm.alloc _ _) ⟨hC'.env.slot hn (G, _) (Slot.value_of hg), hC'.mem, hC'.frm, hC'.own⟩
  · refine L.passed (fun h => hg (hw.1 h)) ?_
    rw [hd]
    have hC' := hC.cons (Frm.refl _ w) (r := condR G (rdR undef intE xs)) (fun h => absurd h hg) (fun b hb => absurd hb.1 hg) (fun b hb => absurd hb.1 hg)
    refine k _ _ undef (Frm.refl _ _) ⟨hC'.env.slot hn (G, undef) ?_, hC'.mem, hC'.frm, hC'.own⟩
    cases G with
    | none => exact absurd trivial hg
    | some g =>
      have : g = false := by simpa [Gt] using hg
      subst this
      rfl
/-- A number that fits. -/
theorem w64 {x : Int} (h : -9223372036854775808 ≤ x ∧ x ≤ 9223372036854775807) : IntKind.i64.wrap x = x := by
  rw [IntKind.wrap_i64]; omega
end
end Go.Proofs.E
