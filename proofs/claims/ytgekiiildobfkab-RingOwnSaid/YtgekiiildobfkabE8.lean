/- A statement whose order Go leaves open and that writes: the writes come in one order; what is read is read ahead of them, or of what they don't touch. -/
import Derived.Test.YtgekiiildobfkabE7
set_option linter.unusedVariables false
set_option linter.unusedSimpArgs false
set_option linter.unusedSectionVars false
namespace Go.Proofs.E
open Go.RowKit

/-- What an operation leaves: nothing is written (and it may come up at most behind so many writes), or it writes (and may hand back a value that is not known ahead). -/
inductive EE where
  | q (e : DE) (lim : Nat)
  | f (d : Option Nat) (gh : Bool)
def EE.dst : EE → Option Nat
  | .q e _ => some e.d
  | .f d _ => d
def EE.holds (γ : Value) (μ : List Res) (a : Act) (w : World) : EE → Prop
  | .q e _ => e.holds μ a w
  | .f (some d) true => a.tmps[d]? = some γ
  | .f _ _ => True
def EPre (n : Nat) (S : Nat → Prop) (w0 : World) (F : Kn) (γ : Value) : List EE → Env → List Res → Prop
  | [], ρ, μ => ∀ a w, Conf n S w0 ρ μ a w → F a w
  | .q (.det d s) _ :: r, ρ, μ => EPre n S w0 F γ r ((d, s) :: ρ) μ
  | .q (.lit d G q) _ :: r, ρ, μ => ∀ v, EPre n S w0 F γ r ((d, (G, v)) :: ρ) (condR G (q v) :: μ)
  | .f (some d) true :: r, ρ, μ => EPre n S w0 F γ r ((d, (none, γ)) :: ρ) μ
  | .f (some _) false :: r, ρ, μ => EPre n S w0 F γ r ρ μ
  | .f none _ :: r, ρ, μ => EPre n S w0 F γ r ρ μ
def depsE (es : List EE) : List Edge → List EE
  | [] => []
  | e :: r =>
    bif Region.binds .any e then
      match es[e.on]? with
      | some x => x :: depsE es r
      | none => depsE es r
    else depsE es r
def QPost (n : Nat) (S : Nat → Prop) (w0 : World) (μ : List Res) (e : DE) (w : World) : Kn := fun a' w' => DPost n S w0 μ e a' w' ∧ Frm Nob w w'
def FPostK (n : Nat) (S : Nat → Prop) (w0 : World) (M : Nat → Value → List Res) (c : Nat) (γ : Value) (d : Option Nat) (gh keep : Bool) (w : World) : Kn := fun a' w' =>
  ∃ γ' ρ, (keep = true → γ' = γ) ∧ (EE.f d gh).holds γ' [] a' w' ∧ Conf n S w0 ρ (M (c + 1) γ') a' w' ∧ FrmF (M c γ) (M (c + 1) γ') w w'
def FPost (n : Nat) (S : Nat → Prop) (w0 : World) (M : Nat → Value → List Res) (c : Nat) (γ : Value) (d : Option Nat) (gh : Bool) (w : World) : Kn := fun a' w' =>
  ∃ γ' ρ, (gh = false → γ' = γ) ∧ (EE.f d gh).holds γ' [] a' w' ∧ Conf n S w0 ρ (M (c + 1) γ') a' w' ∧ FrmF (M c γ) (M (c + 1) γ') w w'
theorem FPost.toK {n : Nat} {S : Nat → Prop} {w0 : World} {M : Nat → Value → List Res} {c : Nat} {γ : Value} {d : Option Nat} {gh : Bool} {w w' : World} {a : Act} (h : FPost n S w0 M c γ d gh w a w') : FPostK n S w0 M c γ d gh (!gh) w a w' := by
  obtain ⟨γ', ρ, h1, h2⟩ := h
  exact ⟨γ', ρ, fun hk => h1 (by simpa using hk), h2⟩
def edgeTo (l : List Edge) (p : Nat) : Bool := l.any fun e => Region.binds .any e && Nat.beq e.on p
def lastOK (last : Option Nat) (l : List Edge) : Bool := match last with | none => true | some p => edgeTo l p
def needOK (c : Nat) (l : List Edge) : Nat → List EE → Bool
  | _, [] => true
  | i, .q _ lim :: r => (!(Nat.beq lim c) || edgeTo l i) && needOK c l (i + 1) r
  | i, .f .. :: r => needOK c l (i + 1) r
def noGh : List EE → Bool
  | [] => true
  | .f _ true :: _ => false
  | _ :: r => noGh r
def ER (P : Program) (ops : Array Oper) (n : Nat) (S : Nat → Prop) (w0 : World) (ρ : Env) (M : Nat → Value → List Res) : List Oper → List EE → Nat → Option Nat → (Nat → List EE → Prop) → Prop
  | [], es, c, _, F => F c es
  | o :: rest, es, c, last, F =>
    (∃ (e : DE) (lim : Nat), o.dst = some e.d ∧ c ≤ lim ∧ (∀ c' γ, c' ≤ lim → EPre n S w0 (fun a w => L P ops [o] (QPost n S w0 (M c' γ) e w) a w) γ (depsE es o.after.toList) ρ (M c' γ)) ∧ ER P ops n S w0 ρ M rest (es ++ [.q e lim]) c last F) ∨
    (∃ gh keep : Bool, (keep = false → noGh es = true) ∧ lastOK last o.after.toList = true ∧ needOK c o.after.toList 0 es = true ∧
      (∀ γ, EPre n S w0 (fun a w => L P ops [o] (FPostK n S w0 M c γ o.dst gh keep w) a w) γ (depsE es o.after.toList) ρ (M c γ)) ∧ ER P ops n S w0 ρ M rest (es ++ [.f o.dst gh]) (c + 1) (some es.length) F)

section
variable {P : Program} {ops : Array Oper} {n : Nat} {S : Nat → Prop} {w0 : World} {ρ : Env} {M : Nat → Value → List Res} {a : Act} {w : World}

theorem L.mono {ops : Array Oper} {K K' : Kn} (hK : ∀ a w, K a w → K' a w) : ∀ (l : List Oper) (a : Act) (w : World), L P ops l K a w → L P ops l K' a w
  | [], a, w, h => hK a w h
  | o :: l, a, w, h => by
    unfold L wpList at h ⊢
    split
    · rename_i hw
      rw [if_pos hw] at h
      rcases h with h | ⟨_, _, _, hf⟩
      · left
        unfold Oper.wp at h ⊢
        generalize (execOp a.eval o).run P w = res at h ⊢
        cases res with
        | ok x w' =>
          cases x <;> simp only [Oper.upon] at h ⊢
          case value v => exact L.mono hK l _ _ h
          case skip => exact L.mono hK l _ _ h
          case defer d => exact L.mono hK l _ _ h
          case enter f args =>
            refine Calls.mono h (fun e w'' he => ?_)
            cases e with
            | returned v => exact L.mono hK l _ _ he
            | panicked c => exact he.elim
            | outgrown => obtain ⟨_, _, hf⟩ := he; exact hf.elim
          case row row args => exact Rows.mono h (fun v w'' he => L.mono hK l _ _ he)
        | halt x w' =>
          cases x <;> simp only [Oper.upon] at h ⊢
          case panic v => exact h.elim
      · exact hf.elim
    · rename_i hw
      rw [if_neg hw] at h
      exact L.mono hK l _ _ h
theorem EPre.mono {F F' : Kn} (hF : ∀ a w, F a w → F' a w) {γ : Value} : ∀ {des : List EE} {ρ : Env} {μ : List Res}, EPre n S w0 F γ des ρ μ → EPre n S w0 F' γ des ρ μ
  | [], ρ, μ, h => fun a w hC => hF a w (h a w hC)
  | .q (.det d s) _ :: r, ρ, μ, h => EPre.mono (des := r) hF h
  | .q (.lit d G q) _ :: r, ρ, μ, h => fun v => EPre.mono (des := r) hF (h v)
  | .f (some d) true :: r, ρ, μ, h => EPre.mono (des := r) hF h
  | .f (some _) false :: r, ρ, μ, h => EPre.mono (des := r) hF h
  | .f none _ :: r, ρ, μ, h => EPre.mono (des := r) hF h
theorem ER.nil {es : List EE} {c : Nat} {last : Option Nat} {F : Nat → List EE → Prop} (h : F c es) : ER P ops n S w0 ρ M [] es c last F := h
theorem ER.q {o : Oper} {rest : List Oper} {es : List EE} {c : Nat} {last : Option Nat} {F : Nat → List EE → Prop} (e : DE) (lim : Nat) (hd : o.dst = some e.d) (hc : Nat.ble c lim = true)
    (h : ∀ c' γ, c' ≤ lim → EPre n S w0 (fun a w => L P ops [o] (QPost n S w0 (M c' γ) e w) a w) γ (depsE es o.after.toList) ρ (M c' γ)) (t : ER P ops n S w0 ρ M rest (es ++ [.q e lim]) c last F) : ER P ops n S w0 ρ M (o :: rest) es c last F :=
  .inl ⟨e, lim, hd, Nat.le_of_ble_eq_true hc, h, t⟩
theorem ER.f {o : Oper} {rest : List Oper} {es : List EE} {c : Nat} {last : Option Nat} {F : Nat → List EE → Prop} (gh : Bool) (hg : gh = true → noGh es = true) (hl : lastOK last o.after.toList = true) (hn : needOK c o.after.toList 0 es = true)
    (h : ∀ γ, EPre n S w0 (fun a w => L P ops [o] (FPost n S w0 M c γ o.dst gh w) a w) γ (depsE es o.after.toList) ρ (M c γ)) (t : ER P ops n S w0 ρ M rest (es ++ [.f o.dst gh]) (c + 1) (some es.length) F) : ER P ops n S w0 ρ M (o :: rest) es c last F :=
  .inr ⟨gh, !gh, fun hk => hg (by simpa using hk), hl, hn, fun γ => EPre.mono (fun a w hL => L.mono (fun a' w' hq => FPost.toK hq) [o] a w hL) (h γ), t⟩
/-- A write that leaves what is not known ahead as it is, and hands it on. -/
theorem ER.k {o : Oper} {rest : List Oper} {es : List EE} {c : Nat} {last : Option Nat} {F : Nat → List EE → Prop} (hl : lastOK last o.after.toList = true) (hn : needOK c o.after.toList 0 es = true)
    (h : ∀ γ, EPre n S w0 (fun a w => L P ops [o] (FPostK n S w0 M c γ o.dst true true w) a w) γ (depsE es o.after.toList) ρ (M c γ)) (t : ER P ops n S w0 ρ M rest (es ++ [.f o.dst true]) (c + 1) (some es.length) F) : ER P ops n S w0 ρ M (o :: rest) es c last F :=
  .inr ⟨true, true, (fun hk => by cases hk), hl, hn, h, t⟩

theorem EPre.use {F : Kn} {γ : Value} : ∀ (des : List EE) (ρ : Env) (ν : List Res) (μ : List Res), EPre n S w0 F γ des ρ (ν ++ μ) → Conf n S w0 ρ (ν ++ μ) a w → (∀ r ∈ ν, ∀ b, ¬ r.fp b) → (∀ e ∈ des, e.holds γ μ a w) → F a w
  | [], ρ, ν, μ, h, hC, _, _ => h a w hC
  | .q (.det d s) lim :: r, ρ, ν, μ, h, hC, hν, he => by
    refine EPre.use r ((d, s) :: ρ) ν μ h ?_ hν (fun e hm => he e (List.mem_cons_of_mem _ hm))
    exact ⟨hC.env.addv (he _ (List.mem_cons_self ..)), hC.mem, hC.frm, hC.own⟩
  | .q (.lit d G q) lim :: r, ρ, ν, μ, h, hC, hν, he => by
    obtain ⟨v, h1, h2, h3, h4⟩ := he _ (List.mem_cons_self ..)
    refine EPre.use r ((d, (G, v)) :: ρ) (condR G (q v) :: ν) μ (h v) ?_ ?_ (fun e hm => he e (List.mem_cons_of_mem _ hm))
    · have hC' := hC.cons (Frm.refl _ w) (r := condR G (q v)) h2 (fun b hb => absurd hb (h3 b)) (fun b hb => .inr (fun s hs => by
        rcases List.mem_append.1 hs with hs | hs
        · exact hν s hs b
        · exact h4 b hb s hs))
      exact ⟨hC'.env.addv h1, hC'.mem, hC'.frm, hC'.own⟩
    · intro s hs
      rcases List.mem_cons.1 hs with rfl | hs
      · exact h3
      · exact hν s hs
  | .f (some d) true :: r, ρ, ν, μ, h, hC, hν, he => by
    refine EPre.use r ((d, (none, γ)) :: ρ) ν μ h ?_ hν (fun e hm => he e (List.mem_cons_of_mem _ hm))
    exact ⟨hC.env.addv (s := (none, γ)) (he _ (List.mem_cons_self ..)), hC.mem, hC.frm, hC.own⟩
  | .f (some d) false :: r, ρ, ν, μ, h, hC, hν, he => EPre.use r ρ ν μ h hC hν (fun e hm => he e (List.mem_cons_of_mem _ hm))
  | .f none gh :: r, ρ, ν, μ, h, hC, hν, he => EPre.use r ρ ν μ h hC hν (fun e hm => he e (List.mem_cons_of_mem _ hm))

theorem depsE_mem {es : List EE} : ∀ {l : List Edge} {x : EE}, x ∈ depsE es l → ∃ e ∈ l, Region.binds .any e = true ∧ es[e.on]? = some x
  | [], x, h => by cases h
  | e :: r, x, h => by
    simp only [depsE] at h
    cases hb : Region.binds .any e with
    | false =>
      rw [hb] at h
      obtain ⟨e', h1, h2⟩ := depsE_mem (l := r) h
      exact ⟨e', List.mem_cons_of_mem _ h1, h2⟩
    | true =>
      rw [hb] at h
      simp only [cond_true] at h
      cases he : es[e.on]? with
      | none =>
        rw [he] at h
        obtain ⟨e', h1, h2⟩ := depsE_mem (l := r) h
        exact ⟨e', List.mem_cons_of_mem _ h1, h2⟩
      | some y =>
        rw [he] at h
        rcases List.mem_cons.1 h with rfl | h
        · exact ⟨e, List.mem_cons_self .., hb, he⟩
        · obtain ⟨e', h1, h2⟩ := depsE_mem (l := r) h
          exact ⟨e', List.mem_cons_of_mem _ h1, h2⟩
theorem edgeTo_spec {l : List Edge} {p : Nat} (h : edgeTo l p = true) : ∃ e ∈ l, Region.binds .any e = true ∧ e.on = p := by
  simp only [edgeTo, List.any_eq_true, Bool.and_eq_true] at h
  obtain ⟨e, h1, h2, h3⟩ := h
  exact ⟨e, h1, h2, Nat.eq_of_beq_eq_true h3⟩
def isF : EE → Bool
  | .f .. => true
  | .q .. => false
/-- How many writes stand ahead of place i. -/
def rk (es : List EE) (i : Nat) : Nat := ((es.take i).filter isF).length
theorem needOK_spec {c : Nat} {l : List Edge} : ∀ {es : List EE} {k : Nat}, needOK c l k es = true → ∀ (i : Nat) (e : DE), es[i]? = some (.q e c) → edgeTo l (k + i) = true
  | [], k, h, i, e, he => by simp at he
  | .q e' lim :: r, k, h, i, e, he => by
    simp only [needOK, Bool.and_eq_true] at h
    cases i with
    | zero =>
      simp only [List.getElem?_cons_zero, Option.some.injEq, EE.q.injEq] at he
      obtain ⟨_, rfl⟩ := he
      simpa using h.1
    | succ i =>
      have := needOK_spec h.2 i e (by simpa using he)
      rw [show k + (i + 1) = k + 1 + i by omega]; exact this
  | .f d gh :: r, k, h, i, e, he => by
    simp only [needOK] at h
    cases i with
    | zero => simp at he
    | succ i =>
      have := needOK_spec h i e (by simpa using he)
      rw [show k + (i + 1) = k + 1 + i by omega]; exact this

def cntF (pre : List EE) : Nat := (pre.filter isF).length
theorem cntF_snoc (pre : List EE) (x : EE) : cntF (pre ++ [x]) = cntF pre + (if isF x then 1 else 0) := by
  unfold cntF
  rw [List.filter_append, List.length_append]
  cases h : isF x <;> simp [h]
/-- What one place of the whole says. -/
def EAt (P : Program) (ops : Array Oper) (n : Nat) (S : Nat → Prop) (w0 : World) (ρ : Env) (M : Nat → Value → List Res) (pre : List EE) (o : Oper) (x : EE) : Prop :=
  o.dst = x.dst ∧ match x with
  | .q e lim => cntF pre ≤ lim ∧ ∀ c' γ, c' ≤ lim → EPre n S w0 (fun a w => L P ops [o] (QPost n S w0 (M c' γ) e w) a w) γ (depsE pre o.after.toList) ρ (M c' γ)
  | .f d gh => ∃ keep : Bool, (keep = false → noGh pre = true) ∧ (0 < cntF pre → ∃ p d' g', pre[p]? = some (.f d' g') ∧ cntF (pre.take p) + 1 = cntF pre ∧ edgeTo o.after.toList p = true) ∧ needOK (cntF pre) o.after.toList 0 pre = true ∧
      ∀ γ, EPre n S w0 (fun a w => L P ops [o] (FPostK n S w0 M (cntF pre) γ d gh keep w) a w) γ (depsE pre o.after.toList) ρ (M (cntF pre) γ)
def LastAt (pre : List EE) : Option Nat → Prop
  | none => cntF pre = 0
  | some p => ∃ d g, pre[p]? = some (.f d g) ∧ cntF (pre.take p) + 1 = cntF pre
theorem LastAt.snoc_q {pre : List EE} {last : Option Nat} (h : LastAt pre last) (e : DE) (lim : Nat) : LastAt (pre ++ [.q e lim]) last := by
  cases last with
  | none => simpa [LastAt, cntF_snoc, isF] using h
  | some p =>
    obtain ⟨d, g, h1, h2⟩ := h
    have hp : p < pre.length := (List.getElem?_eq_some_iff.1 h1).1
    refine ⟨d, g, by rw [List.getElem?_append_left hp]; exact h1, ?_⟩
    rw [List.take_append_of_le_length (by omega), cntF_snoc, h2]
    simp [isF]
theorem LastAt.snoc_f (pre : List EE) (d : Option Nat) (g : Bool) : LastAt (pre ++ [.f d g]) (some pre.length) := by
  refine ⟨d, g, by simp, ?_⟩
  rw [List.take_left', cntF_snoc]
  · simp [isF]
  · rfl
theorem ER.get : ∀ {l : List Oper} {pre : List EE} {c : Nat} {last : Option Nat} {F : Nat → List EE → Prop}, ER P ops n S w0 ρ M l pre c last F → c = cntF pre → LastAt pre last →
    ∃ es, es.length = l.length ∧ F (cntF (pre ++ es)) (pre ++ es) ∧ ∀ (i : Nat) (o : Oper) (x : EE), l[i]? = some o → es[i]? = some x → EAt P ops n S w0 ρ M (pre ++ es.take i) o x
  | [], pre, c, last, F, h, hc, hl => ⟨[], rfl, by rw [List.append_nil]; subst hc; exact h, by simp⟩
  | o :: l, pre, c, last, F, h, hc, hl => by
    have step : ∀ (x : EE), EAt P ops n S w0 ρ M pre o x → (∃ es, es.length = l.length ∧ F (cntF (pre ++ [x] ++ es)) (pre ++ [x] ++ es) ∧ ∀ (i : Nat) (o : Oper) (y : EE), l[i]? = some o → es[i]? = some y → EAt P ops n S w0 ρ M (pre ++ [x] ++ es.take i) o y) →
        ∃ es, es.length = (o :: l).length ∧ F (cntF (pre ++ es)) (pre ++ es) ∧ ∀ (i : Nat) (o' : Oper) (x : EE), (o :: l)[i]? = some o' → es[i]? = some x → EAt P ops n S w0 ρ M (pre ++ es.take i) o' x := by
      rintro x hx ⟨es, g1, g2, g3⟩
      refine ⟨x :: es, by simp [g1], by simpa using g2, ?_⟩
      intro i o' y ho hy
      cases i with
      | zero =>
        simp only [List.getElem?_cons_zero, Option.some.injEq] at ho hy
        subst ho; subst hy
        simpa using hx
      | succ i =>
        simp only [List.getElem?_cons_succ] at ho hy
        have := g3 i o' y ho hy
        simpa using this
    rcases h with ⟨e, lim, h1, h2, h3, h4⟩ | ⟨gh, keep, h1, h2, h3, h4, h5⟩
    · refine step (.q e lim) ⟨h1, by rw [← hc]; exact h2, h3⟩ (ER.get h4 ?_ (hl.snoc_q e lim))
      rw [cntF_snoc, hc]; simp [isF]
    · refine step (.f o.dst gh) ⟨rfl, keep, h1, ?_, by rw [← hc]; exact h3, by rw [← hc]; exact h4⟩ (ER.get h5 ?_ (LastAt.snoc_f pre o.dst gh))
      · intro hpos
        cases last with
        | none => simp only [LastAt] at hl; omega
        | some p =>
          obtain ⟨d', g', k1, k2⟩ := hl
          exact ⟨p, d', g', k1, k2, h2⟩
      · rw [cntF_snoc, hc]; simp [isF]

theorem holds_step {x : EE} {γ γ' : Value} {μ μ' : List Res} {a : Act} {w w' : World} (h : x.holds γ μ a w) (hF : FrmF μ μ' w w') (hγ : (∃ d, x = .f (some d) true) → γ' = γ) {o : Option Tmp} {v : Value} (ho : ∀ d, x.dst = some d → o ≠ some d) : x.holds γ' μ' (a.put o v) w' := by
  have hp : ∀ d, o ≠ some d → (a.put o v).tmps[d]? = a.tmps[d]? := by
    intro d hd
    cases o with
    | none => rfl
    | some t =>
      have hne : t ≠ d := fun e => hd (by rw [e])
      simp only [Act.put]
      rw [Array.getElem?_setIfInBounds_ne hne]
  match x, h, hγ, ho with
  | .q (.det d s) lim, h, _, ho => show (a.put o v).tmps[d]? = _; rw [hp d (ho d rfl)]; exact h
  | .q (.lit d G qq) lim, h, _, ho =>
    obtain ⟨u, h1, h2, h3, h4⟩ := h
    have hrp : ∀ b, (condR G (qq u)).rp b → b < w.heap.size := fun b hb => (condR G (qq u)).bd w h2 b (.inr hb)
    refine ⟨u, by rw [hp d (ho d rfl)]; exact h1, ?_, h3, fun b hb => hF.fps b (hrp b hb) (h4 b hb)⟩
    refine (condR G (qq u)).st w w' h2 (fun b hb => ?_)
    rcases hb with hb | hb
    · exact absurd hb (h3 b)
    · exact hF.frm.block b (hrp b hb) (fun ⟨s, hs, hf⟩ => h4 b hb s hs hf)
  | .f (some d) true, h, hγ, ho =>
    have := hγ ⟨d, rfl⟩
    subst this
    show (a.put o v).tmps[d]? = _; rw [hp d (ho d rfl)]; exact h
  | .f (some d) false, _, _, _ => trivial
  | .f none true, _, _, _ => trivial
  | .f none false, _, _, _ => trivial
theorem noGh_spec : ∀ {pre : List EE}, noGh pre = true → ∀ (i : Nat) (d : Option Nat), pre[i]? ≠ some (EE.f d true)
  | [], _, i, d => by simp
  | x :: r, h, i, d => by
    cases i with
    | zero =>
      intro e
      simp only [List.getElem?_cons_zero, Option.some.injEq] at e
      subst e
      simp [noGh] at h
    | succ i =>
      have : noGh r = true := by
        cases x with
        | q e l => simpa [noGh] using h
        | f d g => cases g <;> simp [noGh] at h ⊢; exact h
      simpa using noGh_spec this i d

/-- A statement whose order is open and that writes. -/
theorem W.drawE_any {l : List Oper} {kn : Kn} (M : Nat → Value → List Res) (γ0 : Value) (hC : Conf n S w0 ρ (M 0 γ0) a w) (hm : P.follows .mixedOrders = true) (he : edgesOK 0 l = true) (hf : freshOK ρ l = true)
    (h : ER P l.toArray n S w0 ρ M l [] 0 none (fun c es => ∀ γ w', EPre n S w0 (fun a w'' => w'' = w' → kn a w'') γ es ρ (M c γ))) : wpAny P .any l.toArray (Lq kn) l.toArray.size (Array.replicate l.toArray.size false) a { w with drawn := w.drawn + 1 } := by
  obtain ⟨es, hlen, hfin, hst⟩ := ER.get h (by simp [cntF]) (by simp [LastAt, cntF])
  simp only [List.nil_append] at hfin hst
  have hst' : ∀ (i : Nat) (hi : i < l.length), ∃ x, es[i]? = some x ∧ EAt P l.toArray n S w0 ρ M (es.take i) l[i] x := fun i hi =>
    ⟨es[i]'(by omega), List.getElem?_eq_getElem (by omega), hst i l[i] _ (List.getElem?_eq_getElem hi) (List.getElem?_eq_getElem (by omega))⟩
  let Inv : Array Bool → Act → World → Prop := fun listed a w' => listed.size = l.length ∧ ∃ γ c, Conf n S w0 ρ (M c γ) a w' ∧
    (∀ i x, es[i]? = some x → isF x = true → (listed.getD i false = true ↔ cntF (es.take i) < c)) ∧ c ≤ cntF es ∧
    (∀ (i : Nat) (o : Oper), l[i]? = some o → listed.getD i false = true → ∀ e ∈ o.after, Region.binds .any e = true → listed.getD e.on false = true) ∧
    ∀ (i : Nat) (x : EE), listed.getD i false = true → es[i]? = some x → x.holds γ (M c γ) a w'
  have key := wpAny_inv (P := P) (ops := l.toArray) (Q := Lq kn) (md := .any) Inv ?_ ?_ l.toArray.size (Array.replicate l.toArray.size false) a { w with drawn := w.drawn + 1 } ?_ ?_
  · exact key
  · rintro listed a' w' ⟨hsz, γ, c, hC', hcnt, hcm, hcl, hI⟩ hr
    have hall : ∀ i, i < l.length → listed.getD i false = true := by
      intro i
      induction i using Nat.strongRecOn with
      | _ i ih =>
        intro hi
        cases hli : listed.getD i false with
        | true => rfl
        | false =>
          exfalso
          have hin : i ∈ Region.ready .any l.toArray listed := by
            refine mem_ready.2 ⟨?_, l[i], by simp [hi], fun e hm' hb => ?_⟩
            · have hi' : i < listed.size := by omega
              simp only [Array.getD_eq_getD_getElem?, Array.getElem?_eq_getElem hi', Option.getD_some] at hli ⊢
              exact hli
            · have := edgesOK_spec he i l[i] (by simp [hi]) e hm' hb
              exact ih e.on (by omega) (by omega)
          rw [hr] at hin
          cases hin
    have hc : c = cntF es := by
      rcases Nat.lt_or_ge c (cntF es) with hlt | hge
      · exfalso
        -- the write with c ahead of it is listed
        have hex : ∀ (m : Nat), m ≤ es.length → c < cntF (es.take m) → ∃ i x, i < m ∧ es[i]? = some x ∧ isF x = true ∧ cntF (es.take i) = c := by
          intro m
          induction m with
          | zero => intro _ h; simp [cntF] at h
          | succ m ih =>
            intro hm' h
            have hx : es[m]? = some es[m] := List.getElem?_eq_getElem (by omega)
            have ht : es.take (m + 1) = es.take m ++ [es[m]] := by rw [List.take_succ_eq_append_getElem (by omega)]
            rw [ht, cntF_snoc] at h
            by_cases hlt' : c < cntF (es.take m)
            · obtain ⟨i, x, h1, h2, h3, h4⟩ := ih (by omega) hlt'
              exact ⟨i, x, by omega, h2, h3, h4⟩
            · cases hF : isF es[m] with
              | false => rw [hF] at h; simp at h; omega
              | true =>
                rw [hF] at h
                simp only [if_true] at h
                exact ⟨m, _, by omega, hx, hF, by omega⟩
        obtain ⟨i, x, h1, h2, h3, h4⟩ := hex es.length (Nat.le_refl _) (by rw [List.take_length]; exact hlt)
        have := (hcnt i x h2 h3).1 (hall i (by omega))
        omega
      · omega
    subst hc
    refine EPre.use (a := a') (w := w') es ρ [] (M _ γ) (hfin γ w') hC' (by simp) (fun x hx => ?_) rfl
    obtain ⟨i, hi, hie⟩ := List.mem_iff_getElem.1 hx
    exact hI i x (hall i (by omega)) (by rw [List.getElem?_eq_getElem hi, hie])
  · rintro listed a' w' i ⟨hsz, γ, c, hC', hcnt, hcm, hcl, hI⟩ hr
    obtain ⟨h0, o, ho, hed⟩ := mem_ready.1 hr
    have ho' : l[i]? = some o := by simpa using ho
    have hi : i < l.length := (List.getElem?_eq_some_iff.1 ho').1
    have hun : listed.getD i false = false := by
      have hi' : i < listed.size := by omega
      simp only [Array.getD_eq_getD_getElem?, Array.getElem?_eq_getElem hi', Option.getD_some] at h0 ⊢
      exact h0
    obtain ⟨x, hix, hat⟩ := hst' i hi
    have hoi : l[i] = o := by have := List.getElem?_eq_getElem hi; rw [this] at ho'; exact Option.some.inj ho'
    rw [hoi] at hat
    have hdeps : ∀ y ∈ depsE (es.take i) o.after.toList, y.holds γ (M c γ) a' w' := fun y hy => by
      obtain ⟨e, h1, h2, h3⟩ := depsE_mem hy
      rw [List.getElem?_take] at h3
      split at h3
      · exact hI e.on y (hed e (by simpa using h1) h2) h3
      · cases h3
    -- what stays in the new state
    have hother : ∀ (j : Nat) (y : EE), j ≠ i → es[j]? = some y → ∀ d, y.dst = some d → o.dst ≠ some d := by
      intro j y hji hj d hd hod
      have hj' : j < es.length := (List.getElem?_eq_some_iff.1 hj).1
      obtain ⟨y', hy', hat'⟩ := hst' j (by omega)
      rw [hj] at hy'
      obtain rfl := Option.some.inj hy'
      have hdj := hat'.1
      rw [hd] at hdj
      rcases Nat.lt_or_gt_of_ne hji with hlt | hlt
      · exact freshOK_ne hf j i l[j] o d d hlt (List.getElem?_eq_getElem (by omega)) ho' hdj hod rfl
      · exact freshOK_ne hf i j o l[j] d d hlt ho' (List.getElem?_eq_getElem (by omega)) hod hdj rfl
    have hcl' : ∀ (k : Nat) (o' : Oper), l[k]? = some o' → (listed.setIfInBounds i true).getD k false = true → ∀ e ∈ o'.after, Region.binds .any e = true → (listed.setIfInBounds i true).getD e.on false = true := by
      intro k o' hk hlk e hem hb
      by_cases hki : i = k
      · subst hki
        rw [ho'] at hk
        obtain rfl := Option.some.inj hk
        exact getD_set_true (hed e hem hb)
      · rw [getD_set_ne false hki] at hlk
        exact getD_set_true (hcl k o' hk hlk e hem hb)
    have hset : (listed.setIfInBounds i true).getD i false = true := by
      have hi' : i < listed.size := by omega
      simp [hi']
    obtain ⟨hd, hx⟩ := hat
    match x, hix, hd, hx with
    | .q e lim, hix, hd, ⟨hle, hp⟩ =>
      have hclim : c ≤ lim := by
        rcases Nat.lt_or_ge lim c with hlt | hge
        · exfalso
          -- the write that waits for this one has come up
          have hex : ∀ (m : Nat), m ≤ es.length → lim < cntF (es.take m) → ∃ k y, es[k]? = some y ∧ isF y = true ∧ cntF (es.take k) = lim ∧ i < k := by
            intro m
            induction m with
            | zero => intro _ h; simp [cntF] at h
            | succ m ih =>
              intro hm' h
              have hy : es[m]? = some es[m] := List.getElem?_eq_getElem (by omega)
              have ht : es.take (m + 1) = es.take m ++ [es[m]] := by rw [List.take_succ_eq_append_getElem (by omega)]
              rw [ht, cntF_snoc] at h
              by_cases hlt' : lim < cntF (es.take m)
              · exact ih (by omega) hlt'
              · cases hF : isF es[m] with
                | false => rw [hF] at h; simp at h; omega
                | true =>
                  rw [hF] at h
                  simp only [if_true] at h
                  refine ⟨m, _, hy, hF, by omega, ?_⟩
                  rcases Nat.lt_or_ge i m with h' | h'
                  · exact h'
                  · exfalso
                    have : cntF (es.take (m + 1)) ≤ cntF (es.take i) ∨ m = i := by
                      rcases Nat.lt_or_ge m i with h'' | h''
                      · left
                        unfold cntF
                        have : (es.take (m + 1)).Sublist (es.take i) := by
                          have : es.take (m + 1) = (es.take i).take (m + 1) := by rw [List.take_take]; congr 1; omega
                          rw [this]; exact List.take_sublist _ _
                        exact (this.filter _).length_le
                      · right; omega
                    rcases this with this | rfl
                    · rw [ht, cntF_snoc, hF] at this; simp at this; omega
                    · rw [hy] at hix
                      obtain hix := Option.some.inj hix
                      rw [hix] at hF
                      cases hF
          obtain ⟨k, y, h1, h2, h3, h4⟩ := hex es.length (Nat.le_refl _) (by rw [List.take_length]; omega)
          have hk : k < es.length := (List.getElem?_eq_some_iff.1 h1).1
          have hlk := (hcnt k y h1 h2).2 (by omega)
          obtain ⟨y', hy', hat'⟩ := hst' k (by omega)
          rw [h1] at hy'
          obtain rfl := Option.some.inj hy'
          cases y with
          | q => cases h2
          | f d g =>
            obtain ⟨_, _, _, _, hneed, _⟩ := hat'
            rw [h3] at hneed
            have hedge := needOK_spec hneed i e (by rw [List.getElem?_take, if_pos h4]; exact hix)
            rw [Nat.zero_add] at hedge
            obtain ⟨ed, g1, g2, g3⟩ := edgeTo_spec hedge
            have := hcl k l[k] (List.getElem?_eq_getElem (by omega)) hlk ed (by simpa using g1) g2
            rw [g3, hun] at this
            cases this
        · exact hge
      have hL := EPre.use (a := a') (w := w') (depsE (es.take i) o.after.toList) ρ [] (M c γ) (hp c γ hclim) hC' (by simp) hdeps
      refine wpOp_mono ?_ (wpOp_of_L (k := kn) ho (fun _ _ h => h.1.defers) hL)
      rintro a'' w'' ⟨⟨hpost, hfr⟩, v, rfl⟩
      obtain ⟨ρ'', hb⟩ := hpost.base
      have hd : o.dst = some e.d := hd
      refine ⟨by simp [hsz], γ, c, ⟨?_, hb.mem, hb.frm, hb.own⟩, ?_, hcm, hcl', ?_⟩
      · rw [hd]; exact hC'.env.other (freshOK_get hf i o _ ho' hd)
      · intro j y hj hF
        by_cases hji : i = j
        · subst hji
          rw [hix] at hj
          obtain rfl := Option.some.inj hj
          cases hF
        · rw [getD_set_ne false hji]
          exact hcnt j y hj hF
      · intro j y hl' hy'
        by_cases hji : i = j
        · subst hji
          rw [hix] at hy'
          obtain rfl := Option.some.inj hy'
          exact hpost.holds
        · rw [getD_set_ne false hji] at hl'
          exact holds_step (hI j y hl' hy') (FrmF.of_nob hfr) (fun _ => rfl) (fun d hd' => hother j y (fun e => hji e.symm) hy' d hd')
    | .f d gh, hix, hd, ⟨keep, hgh, hlast, hneed, hp⟩ =>
      have hd : o.dst = d := hd
      have hci : c = cntF (es.take i) := by
        have h1 : ¬ cntF (es.take i) < c := fun hlt => by
          have := (hcnt i _ hix rfl).2 hlt
          rw [hun] at this; cases this
        rcases Nat.eq_zero_or_pos (cntF (es.take i)) with hz | hpos
        · omega
        · obtain ⟨p, d', g', k1, k2, k3⟩ := hlast hpos
          obtain ⟨ed, g1, g2, g3⟩ := edgeTo_spec k3
          have hpl := hed ed (by simpa using g1) g2
          rw [g3] at hpl
          have hpi : p < i := by
            have := (List.getElem?_eq_some_iff.1 k1).1
            simp at this; omega
          have k1' : es[p]? = some (.f d' g') := by rw [List.getElem?_take, if_pos hpi] at k1; exact k1
          have := (hcnt p _ k1' rfl).1 hpl
          rw [List.take_take, Nat.min_eq_left (by omega)] at k2
          omega
      subst hci
      have hL := EPre.use (a := a') (w := w') (depsE (es.take i) o.after.toList) ρ [] (M _ γ) (hp γ) hC' (by simp) hdeps
      refine wpOp_mono ?_ (wpOp_of_L (k := kn) ho (fun _ _ h => by obtain ⟨_, _, _, _, h, _⟩ := h; exact h.env.defers) hL)
      rintro a'' w'' ⟨⟨γ', ρ'', hγ, hslot, hb, hfr⟩, v, rfl⟩
      refine ⟨by simp [hsz], γ', cntF (es.take i) + 1, ⟨?_, hb.mem, hb.frm, hb.own⟩, ?_, ?_, hcl', ?_⟩
      · cases hdd : o.dst with
        | none => exact hC'.env
        | some t => exact hC'.env.other (freshOK_get hf i o _ ho' hdd)
      · intro j y hj hF
        by_cases hji : i = j
        · subst hji
          simp [hset]
        · rw [getD_set_ne false hji]
          rw [hcnt j y hj hF]
          -- no two writes have the same number ahead
          constructor
          · omega
          · intro hlt
            rcases Nat.lt_or_ge (cntF (es.take j)) (cntF (es.take i)) with h' | h'
            · exact h'
            · exfalso
              have heq : cntF (es.take j) = cntF (es.take i) := by omega
              have hjl : j < es.length := (List.getElem?_eq_some_iff.1 hj).1
              have hil : i < es.length := (List.getElem?_eq_some_iff.1 hix).1
              have strict : ∀ (p q : Nat) (z : EE), p < q → q ≤ es.length → es[p]? = some z → isF z = true → cntF (es.take p) < cntF (es.take q) := by
                intro p q z hpq hq hz hzF
                have h1 : es.take (p + 1) = es.take p ++ [z] := by
                  rw [List.take_add_one, hz]; rfl
                have h2 : cntF (es.take (p + 1)) ≤ cntF (es.take q) := by
                  unfold cntF
                  have : (es.take (p + 1)).Sublist (es.take q) := by
                    have : es.take (p + 1) = (es.take q).take (p + 1) := by rw [List.take_take]; congr 1; omega
                    rw [this]; exact List.take_sublist _ _
                  exact (this.filter _).length_le
                rw [h1, cntF_snoc, hzF] at h2
                simp at h2; omega
              rcases Nat.lt_or_gt_of_ne hji with h'' | h''
              · have := strict i j _ h'' (by omega) hix rfl; omega
              · have := strict j i _ h'' (by omega) hj hF; omega
      · have : es.take (i + 1) = es.take i ++ [.f d gh] := by rw [List.take_add_one, hix]; rfl
        have h2 : cntF (es.take (i + 1)) ≤ cntF es := by
          unfold cntF
          exact ((List.take_sublist (i + 1) es).filter _).length_le
        rw [this, cntF_snoc] at h2
        simpa [isF] using h2
      · intro j y hl' hy'
        by_cases hji : i = j
        · subst hji
          rw [hix] at hy'
          obtain rfl := Option.some.inj hy'
          cases d with
          | none => cases gh <;> trivial
          | some t =>
            cases gh with
            | true => exact hslot
            | false => trivial
        · rw [getD_set_ne false hji] at hl'
          refine holds_step (hI j y hl' hy') hfr ?_ (fun d hd' => hother j y (fun e => hji e.symm) hy' d hd')
          rintro ⟨t, rfl⟩
          cases keep with
          | true => exact hγ rfl
          | false =>
            exfalso
            rcases Nat.lt_or_gt_of_ne hji with h'' | h''
            · -- it comes behind: it cannot have been yet
              have hjl : j < es.length := (List.getElem?_eq_some_iff.1 hy').1
              have h1 := (hcnt j _ hy' rfl).1 hl'
              have h3 : es.take (i + 1) = es.take i ++ [.f d gh] := by rw [List.take_add_one, hix]; rfl
              have h2 : cntF (es.take (i + 1)) ≤ cntF (es.take j) := by
                unfold cntF
                have : (es.take (i + 1)).Sublist (es.take j) := by
                  have : es.take (i + 1) = (es.take j).take (i + 1) := by rw [List.take_take]; congr 1; omega
                  rw [this]; exact List.take_sublist _ _
                exact (this.filter _).length_le
              rw [h3, cntF_snoc] at h2
              simp [isF] at h2
              omega
            · exact noGh_spec (hgh rfl) j (some t) (by rw [List.getElem?_take, if_pos h'']; exact hy')
  · unfold left
    exact Nat.le_trans (List.length_filter_le ..) (by simp)
  · have hnone : ∀ i, (Array.replicate l.toArray.size false).getD i false ≠ true := by
      intro i hl
      rw [Array.getD_eq_getD_getElem?, Array.getElem?_replicate] at hl
      split at hl <;> simp at hl
    refine ⟨by simp, γ0, 0, hC.grow (Frm.draws w _ (Nat.le_succ _)), fun i x _ _ => ⟨fun h => absurd h (hnone i), fun h => by omega⟩, Nat.zero_le _, fun i o _ h => absurd h (hnone i), fun i x h => absurd h (hnone i)⟩
theorem W.drawE {id : Nat} {l : List Oper} {kn : Kn} {kx : Nat → Kn} {kr : Kn} (M : Nat → Value → List Res) (γ0 : Value) (hC : Conf n S w0 ρ (M 0 γ0) a w) (hm : P.follows .mixedOrders = true) (he : edgesOK 0 l = true) (hf : freshOK ρ l = true)
    (h : ER P l.toArray n S w0 ρ M l [] 0 none (fun c es => ∀ γ w', EPre n S w0 (fun a w'' => w'' = w' → kn a w'') γ es ρ (M c γ))) : W P (.region id l.toArray true) kn kx kr a w :=
  Code.wp_mono (fun e a w hq => by cases e <;> first | exact hq | exact hq.elim) (wp_region_any (Q := Lq kn) hm (W.drawE_any M γ0 hC hm he hf h))
end
end Go.Proofs.E
