/- A statement whose order Go leaves open: whatever order its edges allow, where no operation writes to what is known. -/
import Derived.Test.YtgekiiildobfkabE4
set_option linter.unusedVariables false
set_option linter.unusedSimpArgs false
set_option linter.unusedSectionVars false
namespace Go.Proofs.E
open Go.RowKit

section
variable {P : Program} {ops : Array Oper} {Q : Exit → Act → World → Prop} {md : Region.Mode}
/-- The number of operations that have not come up. -/
def left (m : Nat) (listed : Array Bool) : Nat := ((List.range m).filter fun i => !(listed.getD i true)).length
theorem left_set {m : Nat} {listed : Array Bool} {i : Nat} (hi : i < m) (h : listed.getD i true = false) : left m (listed.setIfInBounds i true) < left m listed := by
  unfold left
  have hsub : ((List.range m).filter fun j => !((listed.setIfInBounds i true).getD j true)).Sublist ((List.range m).filter fun j => !(listed.getD j true)) := by
    have : ((List.range m).filter fun j => !((listed.setIfInBounds i true).getD j true)) = ((List.range m).filter fun j => !(listed.getD j true)).filter fun j => decide (j ≠ i) := by
      rw [List.filter_filter]
      refine List.filter_congr fun j _ => ?_
      by_cases hj : i = j
      · subst hj
        have : (listed.setIfInBounds i true).getD i true = true := by
          by_cases hl : i < listed.size <;> simp [hl]
        rw [this]; simp
      · rw [getD_set_ne true hj]
        have : decide (j ≠ i) = true := by simp; exact fun e => hj e.symm
        rw [this, Bool.true_and]
    rw [this]
    exact List.filter_sublist
  refine Nat.lt_of_le_of_ne hsub.length_le (fun e => ?_)
  have heq := hsub.eq_of_length e
  have hmem : i ∈ (List.range m).filter fun j => !(listed.getD j true) := List.mem_filter.2 ⟨List.mem_range.2 hi, by rw [h]; rfl⟩
  rw [← heq] at hmem
  have : (listed.setIfInBounds i true).getD i true = true := by
    by_cases hl : i < listed.size <;> simp [hl]
  rw [List.mem_filter, this] at hmem
  simp at hmem
theorem wpAny_inv (Inv : Array Bool → Act → World → Prop) (hend : ∀ listed a w, Inv listed a w → Region.ready md ops listed = [] → Q .normal a w)
    (hstep : ∀ listed a w i, Inv listed a w → i ∈ Region.ready md ops listed → wpOp P ops Q i (Inv (listed.setIfInBounds i true)) a w) :
    ∀ (fuel : Nat) (listed : Array Bool) (a : Act) (w : World), left ops.size listed ≤ fuel → Inv listed a w → wpAny P md ops Q fuel listed a w
  | 0, listed, a, w, hf, h => by
    have hr : Region.ready md ops listed = [] := by
      refine List.eq_nil_iff_forall_not_mem.2 fun i hi => ?_
      obtain ⟨h0, o, ho, _⟩ := mem_ready.1 hi
      have := left_set (m := ops.size) (Array.getElem?_eq_some_iff.1 ho).1 h0
      omega
    exact ⟨hr, hend _ _ _ h hr⟩
  | fuel + 1, listed, a, w, hf, h => by
    refine ⟨hend _ _ _ h, fun i hi => ?_⟩
    refine wpOp_mono (fun a' w' h' => wpAny_inv Inv hend hstep fuel _ a' w' ?_ h') (hstep _ _ _ _ h hi)
    obtain ⟨h0, o, ho, _⟩ := mem_ready.1 hi
    have := left_set (m := ops.size) (Array.getElem?_eq_some_iff.1 ho).1 h0
    omega
end

/-- What an operation of such a statement leaves: a slot that is known, or a slot with something that is only read. -/
inductive DE where
  | det (d : Nat) (s : Slot)
  | lit (d : Nat) (G : Option Bool) (r : Value → Res)
def DE.d : DE → Nat
  | .det d _ => d
  | .lit d _ _ => d
/-- A piece of memory that is there under a condition. -/
def condR (G : Option Bool) (r : Res) : Res where
  fp := fun b => Gt G ∧ r.fp b
  rp := fun b => Gt G ∧ r.rp b
  ok w := Gt G → r.ok w
  st := fun w w' h hs hg => r.st w w' (h hg) (fun b hb => hs b (hb.imp (fun h => ⟨hg, h⟩) (fun h => ⟨hg, h⟩)))
  bd := fun w h b hb => by
    rcases hb with ⟨hg, hb⟩ | ⟨hg, hb⟩
    · exact r.bd w (h hg) b (.inl hb)
    · exact r.bd w (h hg) b (.inr hb)
def DE.holds (μ : List Res) (a : Act) (w : World) : DE → Prop
  | .det d s => a.tmps[d]? = some s.value
  | .lit d G r => ∃ v, a.tmps[d]? = some (Slot.value (G, v)) ∧ (condR G (r v)).ok w ∧ (∀ b, ¬ (condR G (r v)).fp b) ∧ ∀ b, (condR G (r v)).rp b → ∀ s ∈ μ, ¬ s.fp b
def DPre (n : Nat) (S : Nat → Prop) (w0 : World) (F : Kn) : List DE → Env → List Res → Prop
  | [], ρ, μ => ∀ a w, Conf n S w0 ρ μ a w → F a w
  | .det d s :: r, ρ, μ => DPre n S w0 F r ((d, s) :: ρ) μ
  | .lit d G q :: r, ρ, μ => ∀ v, DPre n S w0 F r ((d, (G, v)) :: ρ) (condR G (q v) :: μ)
def DPost (n : Nat) (S : Nat → Prop) (w0 : World) (μ : List Res) : DE → Kn
  | .det d s => fun a w => ∃ ρ ν, Conf n S w0 ((d, s) :: ρ) (ν ++ μ) a w
  | .lit d G q => fun a w => ∃ v ρ ν, (∀ b, ¬ (condR G (q v)).fp b) ∧ Conf n S w0 ((d, (G, v)) :: ρ) (condR G (q v) :: (ν ++ μ)) a w
def depsOf (es : List DE) : List Edge → List DE
  | [] => []
  | e :: r =>
    bif Region.binds .any e then
      match es[e.on]? with
      | some x => x :: depsOf es r
      | none => depsOf es r
    else depsOf es r
def DR (P : Program) (ops : Array Oper) (n : Nat) (S : Nat → Prop) (w0 : World) (ρ : Env) (μ : List Res) : List Oper → List DE → (List DE → Prop) → Prop
  | [], es, F => F es
  | o :: rest, es, F => ∃ e : DE, o.dst = some e.d ∧ DPre n S w0 (fun a w => L P ops [o] (fun a' w' => DPost n S w0 μ e a' w' ∧ Frm Nob w w') a w) (depsOf es o.after.toList) ρ μ ∧ DR P ops n S w0 ρ μ rest (es ++ [e]) F

section
variable {P : Program} {ops : Array Oper} {n : Nat} {S : Nat → Prop} {w0 : World} {ρ : Env} {μ : List Res} {a : Act} {w : World}

theorem DR.cons {o : Oper} {rest : List Oper} {es : List DE} {F : List DE → Prop} (e : DE) (hd : o.dst = some e.d) (h : DPre n S w0 (fun a w => L P ops [o] (fun a' w' => DPost n S w0 μ e a' w' ∧ Frm Nob w w') a w) (depsOf es o.after.toList) ρ μ)
    (t : DR P ops n S w0 ρ μ rest (es ++ [e]) F) : DR P ops n S w0 ρ μ (o :: rest) es F := ⟨e, hd, h, t⟩
theorem DR.nil {es : List DE} {F : List DE → Prop} (h : F es) : DR P ops n S w0 ρ μ [] es F := h

theorem EOk.addv {ρ : Env} (h : EOk n ρ a) {d : Nat} {s : Slot} (hv : a.tmps[d]? = some s.value) : EOk n ((d, s) :: ρ) a := by
  refine ⟨h.defers, h.size, fun i t ht => ?_⟩
  simp only [Env.get] at ht
  by_cases hi : d = i
  · subst hi
    simp only [Nat.beq_refl, cond_true, Option.some.injEq] at ht
    subst ht
    exact hv
  · have : Nat.beq d i = false := by
      cases hb : Nat.beq d i with
      | false => rfl
      | true => exact absurd (Nat.eq_of_beq_eq_true hb) hi
    rw [this] at ht
    exact h.vals i t ht

/-- The facts of the operations that have come up give the state in which the next one is walked. -/
theorem DPre.use {F : Kn} : ∀ (des : List DE) (ρ : Env) (ν : List Res), DPre n S w0 F des ρ (ν ++ μ) → Conf n S w0 ρ (ν ++ μ) a w → (∀ r ∈ ν, ∀ b, ¬ r.fp b) → (∀ e ∈ des, e.holds μ a w) → F a w
  | [], ρ, ν, h, hC, _, _ => h a w hC
  | .det d s :: r, ρ, ν, h, hC, hν, he => by
    refine DPre.use r ((d, s) :: ρ) ν h ?_ hν (fun e hm => he e (List.mem_cons_of_mem _ hm))
    exact ⟨hC.env.addv (he _ (List.mem_cons_self ..)), hC.mem, hC.frm, hC.own⟩
  | .lit d G q :: r, ρ, ν, h, hC, hν, he => by
    obtain ⟨v, h1, h2, h3, h4⟩ := he _ (List.mem_cons_self ..)
    refine DPre.use r ((d, (G, v)) :: ρ) (condR G (q v) :: ν) (h v) ?_ ?_ (fun e hm => he e (List.mem_cons_of_mem _ hm))
    · have hC' := hC.cons (Frm.refl _ w) (r := condR G (q v)) h2 (fun b hb => absurd hb (h3 b)) (fun b hb => .inr (fun s hs => by
        rcases List.mem_append.1 hs with hs | hs
        · exact hν s hs b
        · exact h4 b hb s hs))
      exact ⟨hC'.env.addv h1, hC'.mem, hC'.frm, hC'.own⟩
    · intro s hs
      rcases List.mem_cons.1 hs with rfl | hs
      · exact h3
      · exact hν s hs

theorem wpOp_of_L {o : Oper} {i : Nat} {K k : Kn} (ho : ops[i]? = some o) (hK : ∀ a w, K a w → a.defers = []) (h : L P ops [o] K a w) :
    wpOp P ops (Lq k) i (fun a' w' => K a' w' ∧ ∃ v, a' = a.put o.dst v) a w := by
  unfold wpOp
  simp only [ho]
  unfold L wpList at h
  split
  · rename_i hw
    rw [if_pos hw] at h
    rcases h with h | ⟨_, a', w', hf⟩
    · left
      unfold Oper.wp at *
      generalize (execOp a.eval o).run P w = r at *
      cases r with
      | ok x w' =>
        cases x <;> simp only [Oper.upon] at h ⊢
        case value v => exact ⟨h, _, rfl⟩
        case skip => exact ⟨h, _, rfl⟩
        case defer d =>
          have := hK _ _ h
          cases hd : o.dst <;> simp [hd, Act.put] at this
        case enter f args =>
          refine Calls.mono h (fun e w'' he => ?_)
          cases e with
          | returned v => exact ⟨he, _, rfl⟩
          | panicked c => exact he.elim
          | outgrown => obtain ⟨_, _, hf⟩ := he; exact hf.elim
        case row row args => exact Rows.mono h (fun v w'' he => ⟨he, _, rfl⟩)
      | halt x w' =>
        cases x <;> simp only [Oper.upon] at h ⊢
        case panic v => exact h.elim
    · exact hf.elim
  · rename_i hw
    rw [if_neg hw] at h
    exact ⟨h, _, rfl⟩

theorem DPost.defers {e : DE} {a : Act} {w : World} (h : DPost n S w0 μ e a w) : a.defers = [] := by
  cases e with
  | det d s => obtain ⟨_, _, h⟩ := h; exact h.env.defers
  | lit d G q => obtain ⟨_, _, _, _, h⟩ := h; exact h.env.defers
theorem DPost.base {e : DE} {a : Act} {w : World} (h : DPost n S w0 μ e a w) : ∃ ρ, Conf n S w0 ρ μ a w := by
  have key : ∀ {ρ : Env} {ν : List Res}, Conf n S w0 ρ (ν ++ μ) a w → Conf n S w0 ρ μ a w := by
    intro ρ ν
    induction ν with
    | nil => exact id
    | cons r ν ih => exact fun h => ih h.tail
  cases e with
  | det d s => obtain ⟨ρ, ν, h⟩ := h; exact ⟨_, key h⟩
  | lit d G q => obtain ⟨v, ρ, ν, _, h⟩ := h; exact ⟨_, key (ν := condR G (q v) :: ν) h⟩
theorem DPost.holds {e : DE} {a : Act} {w : World} (h : DPost n S w0 μ e a w) : e.holds μ a w := by
  cases e with
  | det d s =>
    obtain ⟨ρ, ν, h⟩ := h
    exact h.env.vals d s (by simp [Env.get])
  | lit d G q =>
    obtain ⟨v, ρ, ν, h0, h⟩ := h
    refine ⟨v, h.env.vals d (G, v) (by simp [Env.get]), h.at m0, h0, fun b hb s hs => ?_⟩
    have := (List.pairwise_cons.1 h.mem.2).1 s (List.mem_append_right _ hs) b
    exact this.2 hb
theorem DE.holds.grow {e : DE} {a : Act} {w w' : World} (h : e.holds μ a w) (hs : ∀ b, (∀ s ∈ μ, ¬ s.fp b) → b < w.heap.size → w'.heap[b]? = w.heap[b]?) {o : Option Tmp} {v : Value} (ho : o ≠ some e.d) : e.holds μ (a.put o v) w' := by
  have hp : ∀ d, o ≠ some d → (a.put o v).tmps[d]? = a.tmps[d]? := by
    intro d hd
    cases o with
    | none => rfl
    | some t =>
      have hne : t ≠ d := fun e => hd (by rw [e])
      simp only [Act.put]
      rw [Array.getElem?_setIfInBounds_ne hne]
  cases e with
  | det d s => show (a.put o v).tmps[d]? = _; rw [hp d ho]; exact h
  | lit d G q =>
    obtain ⟨u, h1, h2, h3, h4⟩ := h
    refine ⟨u, by rw [hp d ho]; exact h1, ?_, h3, h4⟩
    refine (condR G (q u)).st w w' h2 (fun b hb => ?_)
    have hlt := (condR G (q u)).bd w h2 b hb
    rcases hb with hb | hb
    · exact absurd hb (h3 b)
    · exact hs b (fun s hs' => h4 b hb s hs') hlt

theorem depsOf_mem {es : List DE} : ∀ {l : List Edge} {x : DE}, x ∈ depsOf es l → ∃ e ∈ l, Region.binds .any e = true ∧ es[e.on]? = some x
  | [], x, h => by cases h
  | e :: r, x, h => by
    simp only [depsOf] at h
    cases hb : Region.binds .any e with
    | false =>
      rw [hb] at h
      obtain ⟨e', h1, h2⟩ := depsOf_mem (l := r) h
      exact ⟨e', List.mem_cons_of_mem _ h1, h2⟩
    | true =>
      rw [hb] at h
      simp only [cond_true] at h
      cases he : es[e.on]? with
      | none =>
        rw [he] at h
        obtain ⟨e', h1, h2⟩ := depsOf_mem (l := r) h
        exact ⟨e', List.mem_cons_of_mem _ h1, h2⟩
      | some y =>
        rw [he] at h
        rcases List.mem_cons.1 h with rfl | h
        · exact ⟨e, List.mem_cons_self .., hb, he⟩
        · obtain ⟨e', h1, h2⟩ := depsOf_mem (l := r) h
          exact ⟨e', List.mem_cons_of_mem _ h1, h2⟩
def DStep (P : Program) (ops : Array Oper) (n : Nat) (S : Nat → Prop) (w0 : World) (ρ : Env) (μ : List Res) (es : List DE) (o : Oper) (e : DE) : Prop :=
  o.dst = some e.d ∧ DPre n S w0 (fun a w => L P ops [o] (fun a' w' => DPost n S w0 μ e a' w' ∧ Frm Nob w w') a w) (depsOf es o.after.toList) ρ μ
theorem DR.get : ∀ {l : List Oper} {es0 : List DE} {F : List DE → Prop}, DR P ops n S w0 ρ μ l es0 F →
    ∃ es, es.length = l.length ∧ F (es0 ++ es) ∧ ∀ (i : Nat) (o : Oper) (e : DE), l[i]? = some o → es[i]? = some e → DStep P ops n S w0 ρ μ (es0 ++ es.take i) o e
  | [], es0, F, h => ⟨[], rfl, by rw [List.append_nil]; exact h, by simp⟩
  | o :: l, es0, F, h => by
    obtain ⟨e, h1, h2, h3⟩ := h
    obtain ⟨es, g1, g2, g3⟩ := DR.get h3
    refine ⟨e :: es, by simp [g1], by simpa using g2, ?_⟩
    intro i o' e' ho he
    cases i with
    | zero =>
      simp only [List.getElem?_cons_zero, Option.some.injEq] at ho he
      subst ho; subst he
      refine ⟨h1, ?_⟩
      simpa using h2
    | succ i =>
      simp only [List.getElem?_cons_succ] at ho he
      have := g3 i o' e' ho he
      simpa using this
def edgesOK : Nat → List Oper → Bool
  | _, [] => true
  | i, o :: r => (o.after.toList.all fun e => !(Region.binds .any e) || Nat.blt e.on i) && edgesOK (i + 1) r
theorem edgesOK_spec : ∀ {l : List Oper} {k : Nat}, edgesOK k l = true → ∀ (i : Nat) (o : Oper), l[i]? = some o → ∀ e ∈ o.after, Region.binds .any e = true → e.on < k + i
  | [], k, h, i, o, ho => by simp at ho
  | o' :: l, k, h, i, o, ho => by
    simp only [edgesOK, Bool.and_eq_true, List.all_eq_true] at h
    cases i with
    | zero =>
      simp only [List.getElem?_cons_zero, Option.some.injEq] at ho
      subst ho
      intro e he hb
      have := h.1 e (by simpa using he)
      simp only [hb, Bool.not_true, Bool.false_or, Nat.blt_eq] at this
      omega
    | succ i =>
      simp only [List.getElem?_cons_succ] at ho
      intro e he hb
      have := edgesOK_spec h.2 i o ho e he hb
      omega
def freshOK (ρ : Env) : List Oper → Bool
  | [] => true
  | o :: r =>
    (match o.dst with
     | some d => (match ρ.get d with | none => true | some _ => false) && r.all fun o' => match o'.dst with | some d' => !(Nat.beq d d') | none => true
     | none => true) && freshOK ρ r
theorem freshOK_get : ∀ {l : List Oper}, freshOK ρ l = true → ∀ (i : Nat) (o : Oper) (d : Nat), l[i]? = some o → o.dst = some d → ρ.get d = none
  | [], _, i, o, d, ho, _ => by simp at ho
  | o' :: l, h, i, o, d, ho, hd => by
    simp only [freshOK, Bool.and_eq_true] at h
    cases i with
    | zero =>
      simp only [List.getElem?_cons_zero, Option.some.injEq] at ho
      subst ho
      have h1 := h.1
      rw [hd] at h1
      simp only [Bool.and_eq_true] at h1
      cases hg : ρ.get d with
      | none => rfl
      | some s => rw [hg] at h1; simp at h1
    | succ i => exact freshOK_get h.2 i o d (by simpa using ho) hd
theorem freshOK_ne : ∀ {l : List Oper}, freshOK ρ l = true → ∀ (i j : Nat) (o o' : Oper) (d d' : Nat), i < j → l[i]? = some o → l[j]? = some o' → o.dst = some d → o'.dst = some d' → d ≠ d'
  | [], _, i, j, o, o', d, d', _, ho, _, _, _ => by simp at ho
  | o1 :: l, h, i, j, o, o', d, d', hij, ho, ho', hd, hd' => by
    simp only [freshOK, Bool.and_eq_true] at h
    cases j with
    | zero => omega
    | succ j =>
      simp only [List.getElem?_cons_succ] at ho'
      cases i with
      | zero =>
        simp only [List.getElem?_cons_zero, Option.some.injEq] at ho
        subst ho
        have h1 := h.1
        rw [hd] at h1
        simp only [Bool.and_eq_true, List.all_eq_true] at h1
        have h2 := h1.2 o' (List.mem_of_getElem? ho')
        rw [hd'] at h2
        simp only [Bool.not_eq_true'] at h2
        intro e
        subst e
        simp at h2
      | succ i => exact freshOK_ne h.2 i j o o' d d' (by omega) (by simpa using ho) ho' hd hd'
theorem EOk.other {ρ : Env} (h : EOk n ρ a) {d : Nat} {v : Value} (hd : ρ.get d = none) : EOk n ρ (a.put (some d) v) := by
  refine ⟨h.defers, by simp [Act.put, h.size], fun i s hi => ?_⟩
  have hne : d ≠ i := fun e => by subst e; rw [hd] at hi; cases hi
  simp only [Act.put]
  rw [Array.getElem?_setIfInBounds_ne hne]
  exact h.vals i s hi

/-- A statement whose order is open. -/
theorem W.draw_any {l : List Oper} {kn : Kn} (hC : Conf n S w0 ρ μ a w) (hm : P.follows .mixedOrders = true) (he : edgesOK 0 l = true) (hf : freshOK ρ l = true)
    (h : DR P l.toArray n S w0 ρ μ l [] (fun es => ∀ w', Frm Nob w w' → DPre n S w0 (fun a w'' => w'' = w' → kn a w'') es ρ μ)) : wpAny P .any l.toArray (Lq kn) l.toArray.size (Array.replicate l.toArray.size false) a { w with drawn := w.drawn + 1 } := by
  obtain ⟨es, hlen, hfin, hst⟩ := DR.get h
  simp only [List.nil_append] at hfin hst
  let Inv : Array Bool → Act → World → Prop := fun listed a w' => listed.size = l.length ∧ Conf n S w0 ρ μ a w' ∧ Frm Nob w w' ∧ ∀ (i : Nat) (e : DE), listed.getD i false = true → es[i]? = some e → e.holds μ a w'
  have key := wpAny_inv (P := P) (ops := l.toArray) (Q := Lq kn) (md := .any) Inv ?_ ?_ l.toArray.size (Array.replicate l.toArray.size false) a { w with drawn := w.drawn + 1 } ?_ ?_
  · exact key
  · rintro listed a' w' ⟨hsz, hC', hF, hI⟩ hr
    have hall : ∀ i, i < l.length → listed.getD i false = true := by
      intro i
      induction i using Nat.strongRecOn with
      | _ i ih =>
        intro hi
        cases hli : listed.getD i false with
        | true => rfl
        | false =>
          exfalso
          have hin : i ∈ Region.ready .any l.toArray listed := by
            refine mem_ready.2 ⟨?_, l[i], by simp [hi], fun e hm' hb => ?_⟩
            · have hi' : i < listed.size := by omega
              simp only [Array.getD_eq_getD_getElem?, Array.getElem?_eq_getElem hi', Option.getD_some] at hli ⊢
              exact hli
            · have := edgesOK_spec he i l[i] (by simp [hi]) e hm' hb
              exact ih e.on (by omega) (by omega)
          rw [hr] at hin
          cases hin
    refine DPre.use (a := a') (w := w') es ρ [] (hfin w' hF) hC' (by simp) (fun e hm => ?_) rfl
    obtain ⟨i, hi, hie⟩ := List.mem_iff_getElem.1 hm
    exact hI i e (hall i (by omega)) (by rw [List.getElem?_eq_getElem hi, hie])
  · rintro listed a' w' i ⟨hsz, hC', hF, hI⟩ hr
    obtain ⟨h0, o, ho, hed⟩ := mem_ready.1 hr
    have ho' : l[i]? = some o := by simpa using ho
    have hi : i < l.length := (List.getElem?_eq_some_iff.1 ho').1
    have hie : es[i]? = some es[i] := List.getElem?_eq_getElem (by omega)
    obtain ⟨hd, hp⟩ := hst i o es[i] ho' hie
    have hL := DPre.use (a := a') (w := w') (depsOf (es.take i) o.after.toList) ρ [] hp hC' (by simp) (fun x hx => by
      obtain ⟨e, h1, h2, h3⟩ := depsOf_mem hx
      rw [List.getElem?_take] at h3
      split at h3
      · exact hI e.on x (hed e (by simpa using h1) h2) h3
      · cases h3)
    refine wpOp_mono ?_ (wpOp_of_L (k := kn) ho (fun _ _ h => h.1.defers) hL)
    rintro a'' w'' ⟨⟨hpost, hfr⟩, v, rfl⟩
    obtain ⟨ρ'', hb⟩ := hpost.base
    rw [hd] at hb hpost ⊢
    refine ⟨by simp [hsz], ⟨hC'.env.other (freshOK_get hf i o _ ho' hd), hb.mem, hb.frm, hb.own⟩, hF.trans hfr (fun _ _ h => h), ?_⟩
    intro i' e' hl' he'
    by_cases hii : i = i'
    · subst hii
      rw [hie] at he'
      simp only [Option.some.injEq] at he'
      subst he'
      exact hpost.holds
    · rw [getD_set_ne false hii] at hl'
      refine (hI i' e' hl' he').grow (fun b _ hb => hfr.block b hb (fun h => h)) ?_
      have hi' : i' < es.length := (List.getElem?_eq_some_iff.1 he').1
      obtain ⟨hd', _⟩ := hst i' l[i'] e' (List.getElem?_eq_getElem (by omega)) he'
      intro hc
      simp only [Option.some.injEq] at hc
      rcases Nat.lt_or_gt_of_ne hii with hlt | hlt
      · exact freshOK_ne hf i i' o l[i'] _ _ hlt ho' (List.getElem?_eq_getElem (by omega)) hd hd' hc
      · exact freshOK_ne hf i' i l[i'] o _ _ hlt (List.getElem?_eq_getElem (by omega)) ho' hd' hd hc.symm
  · unfold left
    exact Nat.le_trans (List.length_filter_le ..) (by simp)
  · refine ⟨by simp, hC.grow (Frm.draws w _ (Nat.le_succ _)), Frm.draws w _ (Nat.le_succ _), fun i e hl _ => ?_⟩
    exfalso
    rw [Array.getD_eq_getD_getElem?, Array.getElem?_replicate] at hl
    split at hl <;> simp at hl
theorem W.draw {id : Nat} {l : List Oper} {kn : Kn} {kx : Nat → Kn} {kr : Kn} (hC : Conf n S w0 ρ μ a w) (hm : P.follows .mixedOrders = true) (he : edgesOK 0 l = true) (hf : freshOK ρ l = true)
    (h : DR P l.toArray n S w0 ρ μ l [] (fun es => ∀ w', Frm Nob w w' → DPre n S w0 (fun a w'' => w'' = w' → kn a w'') es ρ μ)) : W P (.region id l.toArray true) kn kx kr a w :=
  Code.wp_mono (fun e a w hq => by cases e <;> first | exact hq | exact hq.elim) (wp_region_any (Q := Lq kn) hm (W.draw_any hC hm he hf h))
end
end Go.Proofs.E
