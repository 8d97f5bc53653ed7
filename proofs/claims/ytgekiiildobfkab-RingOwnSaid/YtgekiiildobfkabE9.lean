/- What a function leaves ('Post'); calls under such a contract; results that stand in cells; structs compared. -/
import Derived.Test.YtgekiiildobfkabE8
import Derived.ChangeKeysEq
set_option linter.unusedVariables false
set_option linter.unusedSimpArgs false
set_option linter.unusedSectionVars false
namespace Go.Proofs.E
open Go.RowKit

structure Post (S : Nat → Prop) (μ : List Res) (w w' : World) : Prop where
  frm : Frm S w w'
  mem : Mem μ w'
  own : ∀ r ∈ μ, ∀ b, r.fp b ∨ r.rp b → S b ∨ w.heap.size ≤ b

section
variable {P : Program} {ops : Array Oper} {o : Oper} {rest : List Oper} {K : Kn} {a : Act} {w w' : World} {n : Nat} {S T : Nat → Prop} {w0 : World} {ρ : Env} {μ μ1 μ2 ν : List Res} {G : Option Bool}

theorem Mem.app_left (h : Mem (μ1 ++ μ2) w) : Mem μ1 w := ⟨fun r hr => h.1 r (List.mem_append.2 (.inl hr)), (List.pairwise_append.1 h.2).1⟩
theorem Mem.app_right (h : Mem (μ1 ++ μ2) w) : Mem μ2 w := ⟨fun r hr => h.1 r (List.mem_append.2 (.inr hr)), (List.pairwise_append.1 h.2).2.1⟩
/-- The frame rule. -/
theorem Conf.post (hC : Conf n S w0 ρ (μ1 ++ μ2) a w) (h : Post T ν w w') (hT : ∀ b, T b → ∃ r ∈ μ1, r.fp b) : Conf n S w0 ρ (ν ++ μ2) a w' := by
  obtain ⟨hE, hm, hf, ho⟩ := hC
  have hap := (List.pairwise_append.1 hm.2).2.2
  have hout : ∀ s ∈ μ2, ∀ b, (s.fp b ∨ s.rp b) → b < w.heap.size ∧ ¬ T b := fun s hs b hb => by
    refine ⟨s.bd w (hm.1 s (List.mem_append.2 (.inr hs))) b hb, fun ht => ?_⟩
    obtain ⟨r, hr, hrf⟩ := hT b ht
    exact (hap r hr s hs b).1 hrf hb
  refine ⟨hE, ⟨fun r hr => ?_, ?_⟩, hf.trans h.frm (fun b hb ht => ?_), fun r hr b hb => ?_⟩
  · rcases List.mem_append.1 hr with hr | hr
    · exact h.mem.1 r hr
    · exact r.st w w' (hm.1 r (List.mem_append.2 (.inr hr))) (fun b hb => h.frm.block b (hout r hr b hb).1 (hout r hr b hb).2)
  · refine List.pairwise_append.2 ⟨h.mem.2, (List.pairwise_append.1 hm.2).2.1, fun r hr s hs b => ?_⟩
    have key : ∀ b, (r.fp b ∨ r.rp b) → (s.fp b ∨ s.rp b) → False := fun b h1 h2 => by
      obtain ⟨h3, h4⟩ := hout s hs b h2
      rcases h.own r hr b h1 with h5 | h5
      · exact h4 h5
      · omega
    exact ⟨fun h1 h2 => key b (.inl h1) h2, fun h1 h2 => key b (.inr h1) (.inl h2)⟩
  · obtain ⟨r, hr, hrf⟩ := hT b ht
    exact (ho r (List.mem_append.2 (.inl hr)) b hrf).elim id (fun h' => absurd h' (by omega))
  · rcases List.mem_append.1 hr with hr | hr
    · rcases h.own r hr b (.inl hb) with h' | h'
      · obtain ⟨s, hs, hsf⟩ := hT b h'
        exact ho s (List.mem_append.2 (.inl hs)) b hsf
      · exact .inr (Nat.le_trans hf.size h')
    · exact ho r (List.mem_append.2 (.inr hr)) b hb
theorem Conf.toPost (hC : Conf n S w0 ρ μ a w) (hr : ∀ r ∈ μ, ∀ b, r.rp b → S b ∨ w0.heap.size ≤ b) : Post S μ w0 w :=
  ⟨hC.frm, hC.mem, fun r h b hb => hb.elim (hC.own r h b) (hr r h b)⟩
theorem Post.sub (h : Post S μ w w') (hs : ν.Sublist μ) : Post S ν w w' :=
  ⟨h.frm, ⟨fun r hr => h.mem.1 r (hs.subset hr), h.mem.2.sublist hs⟩, fun r hr => h.own r (hs.subset hr)⟩

/-- A call that hands back a value and pieces of memory. -/
theorem L.callg (μ1 : List Res) {μ2 : List Res} (hC : Conf n S w0 ρ (μ1 ++ μ2) a w) (hg : o.guard = none) {f : FuncId} {args : Array Operand} {ts : Array TypeId} (ho : o.op = .call { callee := .value (.func f), args := args, argTypes := ts })
    (hcall : ∀ (vs : Array Value) (w : World), (callFunc f vs).run P w = .ok (.enter f vs) w)
    {vs : List Value} (hx : evs ρ args.toList = some ([], vs)) {X : Type _} {val : X → Value} {Q : X → Prop} {ν : X → List Res}
    (hc : Calls P f vs.toArray w fun e w' => ∃ x, e = .returned (val x) ∧ Q x ∧ Post T (ν x) w w') (hT : ∀ b, T b → ∃ r ∈ μ1, r.fp b) {d : Nat} (hd : o.dst = some d) (hn : Nat.blt d n = true)
    (k : ∀ x a w', Q x → Conf n S w0 ((d, (none, val x)) :: ρ) (ν x ++ μ2) a w' → L P ops rest K a w') : L P ops (o :: rest) K a w := by
  refine L.callx hC hg ho hcall hx hd hn (hc.mono ?_)
  rintro e w' ⟨x, rfl, hq, hp⟩
  refine ⟨val x, rfl, fun a' hE => ?_⟩
  have hC' := hC.post hp hT
  exact k x a' w' hq ⟨hE, hC'.mem, hC'.frm, hC'.own⟩

/-! ### owned is read -/
theorem own_rd {α : Type _} {v : Value} {ty : TypeId} {E : Enc α} {l : List α} (h : (ownR v ty E l).ok w) : (rdR v E l).ok w := by
  have hown : w.ownsRow 0 ty E.sz v l.length (E.flat l) := h
  rcases hown.2 with ⟨rfl, h0⟩ | ⟨g, cap, cur, hv, _, hgh, hcap, hcm, hcs, htake⟩
  · have : l = [] := List.eq_nil_of_length_eq_zero h0
    subst this
    exact ⟨none, 0, rfl, ⟨by simp, by simp⟩, fun h => absurd rfl h⟩
  · refine ⟨some ⟨g, 0, none⟩, cap, hv, ⟨?_, hcap⟩, fun _ => ⟨⟨g, 0, none⟩, rfl, ?_, fun j u hj => ?_⟩⟩
    · simp only [maxLen] at hcm; omega
    · exact (Array.getElem?_eq_some_iff.1 hgh).1
    · rw [add_plain', cell_of_row w g (0 + j) _ _ _ hgh, Nat.zero_add]
      rw [← htake] at hj
      have hjl : j < l.length * E.sz := by
        have := (List.getElem?_eq_some_iff.1 hj).1
        rw [List.length_take] at this; omega
      rw [List.getElem?_take, if_pos hjl] at hj
      simpa using hj
theorem own_nil {α : Type _} {ty : TypeId} {E : Enc α} : (ownR (.slice none 0 0) ty E ([] : List α)).ok w := ⟨by simp [Enc.flat], .inl ⟨rfl, rfl⟩⟩
theorem rd_nil {α : Type _} {E : Enc α} {c : Nat} : (rdR (.slice none 0 c) E ([] : List α)).ok w := ⟨none, c, rfl, ⟨by simp, by simp⟩, fun h => absurd rfl h⟩
/-- The nil slice, as a piece of one's own. -/
theorem Conf.nilown {α : Type _} {ty : TypeId} {E : Enc α} (hC : Conf n S w0 ρ μ a w) : Conf n S w0 ρ (ownR (.slice none 0 0) ty E ([] : List α) :: μ) a w :=
  hC.cons (Frm.refl _ _) own_nil (fun b hb => by cases hb) (fun b hb => hb.elim)

/-! ### results -/
inductive Vals (P : Program) (ρ : Env) (μ : List Res) : List ResultVar → List Value → Prop where
  | nil : Vals P ρ μ [] []
  | tmp {t : Tmp} {v : Value} {rs : List ResultVar} {vs : List Value} (h : ev ρ (.tmp t) = some ([], v)) (r : Vals P ρ μ rs vs) : Vals P ρ μ (.tmp t :: rs) (v :: vs)
  | agg {p : Tmp} {ty ty' : TypeId} {b : Nat} {cs : List Value} {rs : List ResultVar} {vs : List Value} (h : ev ρ (.tmp p) = some ([], .pointer (some ⟨b, 0, none⟩))) (hm : blkR b cs ty' ∈ μ)
      (hA : ∀ w, (isAgg ty).run P w = .ok true w) {m : Nat} (hS : ∀ w, (sizeOf ty).run P w = .ok m w) (hl : Nat.beq cs.length m = true) (r : Vals P ρ μ rs vs) : Vals P ρ μ (.cell p ty :: rs) (.agg cs.toArray :: vs)
  | one {p : Tmp} {ty ty' : TypeId} {b : Nat} {v : Value} {rs : List ResultVar} {vs : List Value} (h : ev ρ (.tmp p) = some ([], .pointer (some ⟨b, 0, none⟩))) (hm : blkR b [v] ty' ∈ μ)
      (hA : ∀ w, (isAgg ty).run P w = .ok false w) (r : Vals P ρ μ rs vs) : Vals P ρ μ (.cell p ty :: rs) (v :: vs)
theorem Vals.run (hC : Conf n S w0 ρ μ a w) {rs : List ResultVar} {vs : List Value} (h : Vals P ρ μ rs vs) (f : ResultVar → Sem Value) (hf : ∀ u, f (.tmp u) = pure (a.tmps.getD u undef)) (hc : ∀ p t, f (.cell p t) = (do loadVar t (← asAddr (a.tmps.getD p undef)))) :
    (rs.mapM f).run P w = .ok vs w := by
  induction h with
  | nil => simp
  | tmp h r ih =>
    have e := hC.ev h All.nil
    simp only [Act.eval] at e
    rw [List.mapM_cons, hf, e]
    simp [ih]
  | @agg p ty ty' b cs rs vs h hm hA m hS hl r ih =>
    have e := hC.ev h All.nil
    simp only [Act.eval] at e
    have hl := Nat.eq_of_beq_eq_true hl
    have hb : w.heap[b]? = some (.cells cs.toArray ty' (0, 0)) := hC.at hm
    have h1 := run_lda (P := P) (w := w) (t := ty) (p := ⟨b, 0, none⟩) (us := cs) hA (by rw [hl]; exact hS) (fun j v hj => by
      rw [add_plain', cell_of_row w b (0 + j) _ _ _ hb, Nat.zero_add]; simpa using hj)
    have h2 : (loadVar ty ⟨b, 0, none⟩).run P w = .ok (.agg cs.toArray) w := by
      simpa [Instr.loadAt, Instr.sureAddr] using h1
    rw [List.mapM_cons, hc, e]
    simp [asAddr, h2, ih]
  | @one p ty ty' b v rs vs h hm hA r ih =>
    have e := hC.ev h All.nil
    simp only [Act.eval] at e
    have hb : w.heap[b]? = some (.cells #[v] ty' (0, 0)) := hC.at hm
    have h1 := run_ld (P := P) (w := w) (t := ty) (p := ⟨b, 0, none⟩) (v := v) hA (by
      rw [cell_of_row w b 0 _ _ _ hb]; rfl)
    have h2 : (loadVar ty ⟨b, 0, none⟩).run P w = .ok v w := by
      simpa [Instr.loadAt, Instr.sureAddr] using h1
    rw [List.mapM_cons, hc, e]
    simp [asAddr, h2, ih]
theorem retl {fn : Func} {R : Ending → World → Prop} {vs : List Value} (hC : Conf n S w0 ρ μ a w) {rs : List ResultVar} (hr : fn.results = rs.toArray) (hv : Vals P ρ μ rs vs) (hl : Nat.beq vs.length 1 = false)
    (h : R (.returned (.tuple vs.toArray)) w) : Kr P fn R a w := by
  refine ⟨hC.env.defers, _, ?_, h⟩
  have hl : ¬ vs.length = 1 := fun h => by rw [h] at hl; cases hl
  unfold results
  rw [hr, List.mapM_toArray]
  simp only [Sem.run_bind, Sem.run_map]
  rw [hv.run hC]
  · simp [hl]
  · intro u
    rfl
  · intro p t
    rfl
theorem rets {fn : Func} {R : Ending → World → Prop} {v : Value} {r : ResultVar} (hC : Conf n S w0 ρ μ a w) (hr : fn.results = #[r]) (hv : Vals P ρ μ [r] [v])
    (h : R (.returned v) w) : Kr P fn R a w := by
  refine ⟨hC.env.defers, _, ?_, h⟩
  unfold results
  rw [show fn.results = [r].toArray from hr, List.mapM_toArray]
  simp only [Sem.run_bind, Sem.run_map]
  rw [hv.run hC]
  · simp
  · intro u
    rfl
  · intro p t
    rfl

/-! ### structs compared -/
def veq : Value → Value → Bool
  | .int _ x, .int _ y => x == y
  | .bool x, .bool y => x == y
  | _, _ => false
def veqs : List Value → List Value → Bool
  | x :: xs, y :: ys => veq x y && veqs xs ys
  | _, _ => true
def alike : List Value → List Value → Bool
  | .int k _ :: xs, .int k' _ :: ys => sameKind k k' && alike xs ys
  | .bool _ :: xs, .bool _ :: ys => alike xs ys
  | [], [] => true
  | _, _ => false
/-- Fields of one cell each, numbers or truth values, as the values say. -/
def Flds (P : Program) : List Field → Nat → List Value → Prop
  | [], _, [] => True
  | f :: fs, j, .int _ _ :: r => (Nat.beq f.offset j = true ∧ (f.name != "_") = true ∧ ∃ k, P.underlying f.type = some (.int k)) ∧ Flds P fs (j + 1) r
  | f :: fs, j, .bool _ :: r => (Nat.beq f.offset j = true ∧ (f.name != "_") = true ∧ P.underlying f.type = some .bool) ∧ Flds P fs (j + 1) r
  | _, _, _ => False
theorem run_eqFlds (D : Nat) (xs ys : List Value) : ∀ (fs : List Field) (j : Nat) (us vs : List Value), Flds P fs j us → alike us vs = true → xs.drop j = us → ys.drop j = vs →
    (Op.eqFields (D + 1) xs.toArray ys.toArray fs).run P w = .ok (veqs us vs) w := by
  intro fs
  induction fs with
  | nil =>
    intro j us vs h ha _ _
    cases us with
    | nil => cases vs <;> simp_all [Op.eqFields, veqs, alike]
    | cons u us => cases u <;> exact h.elim
  | cons f fs ih =>
    intro j us vs h ha hx hy
    have getx : ∀ {l : List Value} {u : Value} {us : List Value}, l.drop j = u :: us → l[j]? = some u ∧ l.drop (j + 1) = us := fun {l u us} h => by
      have h1 : l[j]? = some u := by rw [← List.head?_drop, h]; rfl
      have h2 : l.drop (j + 1) = us := by rw [← List.tail_drop, h]; rfl
      exact ⟨h1, h2⟩
    cases us with
    | nil => exact h.elim
    | cons u us =>
      cases vs with
      | nil => cases u <;> simp [alike] at ha
      | cons v vs =>
        obtain ⟨x1, x2⟩ := getx hx
        obtain ⟨y1, y2⟩ := getx hy
        cases u with
        | int k x =>
          cases v <;> try (simp [alike] at ha; done)
          rename_i k' y
          obtain ⟨⟨ho, hn, kk, hk⟩, hr⟩ := h
          have ho := Nat.eq_of_beq_eq_true ho
          subst ho
          have hp : P.plainKey f.type = true := by simp [Program.plainKey, hk]
          have e1 := run_part_plain (P := P) (w := w) hp (xs := xs.toArray) (off := f.offset) (by simpa using x1)
          have e2 := run_part_plain (P := P) (w := w) hp (xs := ys.toArray) (off := f.offset) (by simpa using y1)
          have ha2 : (sameKind k k' && alike us vs) = true := ha
          rw [Bool.and_eq_true] at ha2
          have ha3 := ha2.2
          have hkk := sameKind_eq ha2.1
          subst hkk
          have hn' : f.name ≠ "_" := by simpa using hn
          have he : (Op.equalIn (D + 1) f.type (.int k x) (.int k y)).run P w = .ok (x == y) w := by simp [Op.equalIn, run_underlying hk]
          simp only [Op.eqFields, if_pos hn', Sem.run_bind, e1, e2, Result.andThen_ok, he]
          cases hb : (x == y) with
          | true => simp only [Bool.not_true, Bool.false_eq_true, if_false, ih _ _ _ hr ha3 x2 y2, veqs, veq, hb, Bool.true_and]
          | false => simp [veqs, veq, hb]
        | bool x =>
          cases v <;> try (simp [alike] at ha; done)
          rename_i y
          obtain ⟨⟨ho, hn, hk⟩, hr⟩ := h
          have ho := Nat.eq_of_beq_eq_true ho
          subst ho
          have hp : P.plainKey f.type = true := by simp [Program.plainKey, hk]
          have e1 := run_part_plain (P := P) (w := w) hp (xs := xs.toArray) (off := f.offset) (by simpa using x1)
          have e2 := run_part_plain (P := P) (w := w) hp (xs := ys.toArray) (off := f.offset) (by simpa using y1)
          have ha : alike us vs = true := ha
          have hn' : f.name ≠ "_" := by simpa using hn
          have he := run_equalIn_bool (P := P) (w := w) D f.type x y hk
          simp only [Op.eqFields, if_pos hn', Sem.run_bind, e1, e2, Result.andThen_ok, he]
          cases hb : (x == y) with
          | true => simp only [Bool.not_true, Bool.false_eq_true, if_false, ih _ _ _ hr ha x2 y2, veqs, veq, hb, Bool.true_and]
          | false => simp [veqs, veq, hb]
        | _ => exact h.elim
theorem run_eqS {t : TypeId} {X Y : Operand} {xs ys : List Value} {fs : Array Field} (hu : P.underlying t = some (.struct fs)) (hp : P.stoodInHeld t = false) (hm : P.eqGuardType P.depth t = false) (hF : Flds P fs.toList 0 xs) (ha : alike xs ys = true) :
    ((eqGuard .eql t X Y (.agg xs.toArray) (.agg ys.toArray)).run P w).andThen (fun _ w => (binOp .eql t (.agg xs.toArray) (.agg ys.toArray)).run P w) = .ok (.bool (veqs xs ys)) w := by
  have hfs : P.fieldsOf t = fs := by simp [Program.fieldsOf, hu]
  have h2 := run_eqFlds (P := P) (w := w) 9998 xs ys fs.toList 0 xs ys hF ha (by simp) (by simp)
  rw [run_eqGuard_agg w .eql t X Y _ _ hm, Result.andThen_ok, run_eql_struct, run_equalIn_struct w 9999 t _ _ (by rw [hfs]; exact hu) hp, hfs, h2]
  rfl
theorem run_neS {t : TypeId} {X Y : Operand} {xs ys : List Value} {fs : Array Field} (hu : P.underlying t = some (.struct fs)) (hp : P.stoodInHeld t = false) (hm : P.eqGuardType P.depth t = false) (hF : Flds P fs.toList 0 xs) (ha : alike xs ys = true) :
    ((eqGuard .neq t X Y (.agg xs.toArray) (.agg ys.toArray)).run P w).andThen (fun _ w => (binOp .neq t (.agg xs.toArray) (.agg ys.toArray)).run P w) = .ok (.bool (!veqs xs ys)) w := by
  have hfs : P.fieldsOf t = fs := by simp [Program.fieldsOf, hu]
  have h2 := run_eqFlds (P := P) (w := w) 9998 xs ys fs.toList 0 xs ys hF ha (by simp) (by simp)
  rw [run_eqGuard_agg w .neq t X Y _ _ hm, Result.andThen_ok, run_neq_struct, run_equalIn_struct w 9999 t _ _ (by rw [hfs]; exact hu) hp, hfs, h2]
  rfl
end
end Go.Proofs.E
