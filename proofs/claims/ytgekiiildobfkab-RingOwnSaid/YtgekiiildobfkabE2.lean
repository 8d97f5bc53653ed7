/- One operation at a time: what only computes; guards; calls. -/
import Derived.Test.YtgekiiildobfkabE1
import Derived.Laws.Entries
set_option linter.unusedVariables false
set_option linter.unusedSimpArgs false
set_option linter.unusedSectionVars false
namespace Go.Proofs.E
open Go.RowKit

/-- Under which condition an operation is carried out. -/
def guardOf (ρ : Env) (ops : Array Oper) (o : Oper) : Option (Option Bool) :=
  match o.guard with
  | none => some none
  | some (j, want) =>
    match (ops[j]?).bind (·.dst) with
    | none => none
    | some d =>
      match ρ.get d, want with
      | some (none, .bool b), true => some (some b)
      | some (none, .bool b), false => some (some (!b))
      | some (some g, .bool b), true => some (some (g && b))
      | some (some g, .bool b), false => some (some (g && !b))
      | _, _ => none

section
variable {P : Program} {ops : Array Oper} {o : Oper} {rest : List Oper} {K : Kn} {a : Act} {w : World} {n : Nat} {S : Nat → Prop} {w0 : World} {ρ : Env} {μ : List Res} {G : Option Bool}

theorem yielded_of (hE : EOk n ρ a) {j d : Nat} (hd : (ops[j]?).bind (·.dst) = some d) {s : Slot} (hs : ρ.get d = some s) :
    yielded ops a.tmps j = match s.value with | .bool b => some b | _ => none := by
  unfold yielded
  rw [hd]
  simp only [Option.bind_some, hE.vals d s hs]
  cases s.value <;> rfl

theorem wanted_of (hE : EOk n ρ a) (hg : guardOf ρ ops o = some G) : (Region.wanted o (yielded ops a.tmps) = true ↔ Gt G) := by
  unfold guardOf at hg
  unfold Region.wanted
  cases hgd : o.guard with
  | none =>
    simp only [hgd, Option.some.injEq] at hg
    subst hg
    simp [Gt]
  | some jw =>
    obtain ⟨j, want⟩ := jw
    simp only [hgd] at hg ⊢
    cases hd : (ops[j]?).bind (·.dst) with
    | none => simp [hd] at hg
    | some d =>
      simp only [hd] at hg
      cases hs : ρ.get d with
      | none => simp [hs] at hg
      | some s =>
        rw [yielded_of hE hd hs]
        obtain ⟨g, v⟩ := s
        cases g with
        | none =>
          cases v <;> cases want <;> simp [hs] at hg <;> subst hg <;> simp [Slot.value, Gt]
        | some g =>
          cases v <;> cases want <;> simp [hs] at hg <;> subst hg <;> cases g <;> simp [Slot.value, Gt, undef]

/-- An operation that hands back a value, in a world that is known. -/
theorem L.nil (h : K a w) : L P ops [] K a w := h
theorem L.value {v : Value} {w' : World} (hw : Region.wanted o (yielded ops a.tmps) = true) (hr : (execOp a.eval o).run P w = .ok (.value v) w') (h : L P ops rest K (a.put o.dst v) w') : L P ops (o :: rest) K a w := by
  unfold L wpList
  rw [if_pos hw]
  refine .inl ?_
  unfold Oper.wp
  rw [hr]
  exact h
theorem L.effect {w' : World} (hw : Region.wanted o (yielded ops a.tmps) = true) (hr : (execOp a.eval o).run P w = .ok .skip w') (h : L P ops rest K (a.put o.dst undef) w') : L P ops (o :: rest) K a w := by
  unfold L wpList
  rw [if_pos hw]
  refine .inl ?_
  unfold Oper.wp
  rw [hr]
  exact h
theorem L.passed (hw : ¬ Region.wanted o (yielded ops a.tmps) = true) (h : L P ops rest K (a.put o.dst undef) w) : L P ops (o :: rest) K a w := by
  unfold L wpList
  rw [if_neg hw]
  exact h
theorem L.calls {f : FuncId} {args : Array Value} (hw : Region.wanted o (yielded ops a.tmps) = true) (hr : (execOp a.eval o).run P w = .ok (.enter f args) w)
    (h : Calls P f args w fun e w' => ∃ v, e = .returned v ∧ L P ops rest K (a.put o.dst v) w') : L P ops (o :: rest) K a w := by
  unfold L wpList
  rw [if_pos hw]
  refine .inl ?_
  unfold Oper.wp
  rw [hr]
  refine Calls.mono h ?_
  rintro e w' ⟨v, rfl, hv⟩
  exact hv

theorem EOk.slot (h : EOk n ρ a) {d : Nat} (hd : Nat.blt d n = true) (s : Slot) {v : Value} (hv : s.value = v) : EOk n ((d, s) :: ρ) (a.put (some d) v) := by
  subst hv
  exact h.put (by simpa [Nat.blt_eq] using hd) s

/-- What leaves the world alone. -/
theorem L.step (hC : Conf n S w0 ρ μ a w) (hG : guardOf ρ ops o = some G) {v : Value} (hr : Gt G → (execOp a.eval o).run P w = .ok (.value v) w) {d : Nat} (hd : o.dst = some d) (hn : Nat.blt d n = true)
    (k : ∀ a, Conf n S w0 ((d, (G, v)) :: ρ) μ a w → L P ops rest K a w) : L P ops (o :: rest) K a w := by
  have hw := wanted_of hC.env hG
  by_cases hg : Gt G
  · refine L.value (hw.2 hg) (hr hg) ?_
    rw [hd]
    exact k _ ⟨hC.env.slot hn (G, v) (Slot.value_of hg), hC.mem, hC.frm, hC.own⟩
  · refine L.passed (fun h => hg (hw.1 h)) ?_
    rw [hd]
    refine k _ ⟨hC.env.slot hn (G, v) ?_, hC.mem, hC.frm, hC.own⟩
    cases G with
    | none => exact absurd trivial hg
    | some g =>
      have : g = false := by simpa [Gt] using hg
      subst this
      rfl
/-- What may lay new blocks, and hands back a value that is known ahead. -/
theorem L.grows (hC : Conf n S w0 ρ μ a w) (hG : guardOf ρ ops o = some G) {f : FuncId} {args : Array Value} {v : Value} (hr : Gt G → (execOp a.eval o).run P w = .ok (.enter f args) w)
    (hc : Gt G → Calls P f args w fun e w' => e = .returned v ∧ Frm Nob w w') {d : Nat} (hd : o.dst = some d) (hn : Nat.blt d n = true)
    (k : ∀ a w', Frm Nob w w' → Conf n S w0 ((d, (G, v)) :: ρ) μ a w' → L P ops rest K a w') : L P ops (o :: rest) K a w := by
  have hw := wanted_of hC.env hG
  by_cases hg : Gt G
  · refine L.calls (hw.2 hg) (hr hg) ((hc hg).mono ?_)
    rintro e w' ⟨rfl, hf⟩
    refine ⟨_, rfl, ?_⟩
    rw [hd]
    have hC' := hC.grow hf
    exact k _ w' hf ⟨hC'.env.slot hn (G, v) (Slot.value_of hg), hC'.mem, hC'.frm, hC'.own⟩
  · refine L.passed (fun h => hg (hw.1 h)) ?_
    rw [hd]
    refine k _ w (Frm.refl _ _) ⟨hC.env.slot hn (G, v) ?_, hC.mem, hC.frm, hC.own⟩
    cases G with
    | none => exact absurd trivial hg
    | some g =>
      have : g = false := by simpa [Gt] using hg
      subst this
      rfl

/-! ### What only computes -/
def intOp (op : BinOp) (k : IntKind) (x y : Int) : Option Value :=
  match op with
  | .add => some (.int k (k.wrap (x + y)))
  | .sub => some (.int k (k.wrap (x - y)))
  | .mul => some (.int k (k.wrap (x * y)))
  | .eql => some (.bool (x == y))
  | .neq => some (.bool (x != y))
  | .lss => some (.bool (decide (x < y)))
  | .leq => some (.bool (decide (x ≤ y)))
  | .gtr => some (.bool (decide (x > y)))
  | .geq => some (.bool (decide (x ≥ y)))
  | .and => some (.int k (Go.bits .and k x y))
  | .or => some (.int k (Go.bits .or k x y))
  | .xor => some (.int k (Go.bits .xor k x y))
  | _ => none
def sameKind : IntKind → IntKind → Bool
  | .i64, .i64 | .u64, .u64 | .u8, .u8 | .i32, .i32 | .u32, .u32 => true
  | _, _ => false
def fits (x : Operand) (ρ : Env) : Option (List Bool × Value) := ev ρ x
def evs (ρ : Env) : List Operand → Option (List Bool × List Value)
  | [] => some ([], [])
  | x :: r =>
    match ev ρ x, evs ρ r with
    | some ([], v), some (cs, vs) => some (cs, v :: vs)
    | some (c :: cs', v), some (cs, vs) => some (c :: (cs' ++ cs), v :: vs)
    | _, _ => none
def pureX (ρ : Env) : Op → Option (List Bool × Value)
  | .move x | .assign x => ev ρ x
  | .pick c x y =>
    match ev ρ c, ev ρ x, ev ρ y with
    | some ([], .bool t), some ([], u), some ([], v) => some ([], bif t then u else v)
    | _, _, _ => none
  | .unOp .not _ x =>
    match ev ρ x with
    | some (cs, .bool b) => some (cs, .bool (!b))
    | _ => none
  | .unOp .neg _ x =>
    match ev ρ x with
    | some (cs, .int k b) => some (cs, .int k (k.wrap (0 - b)))
    | _ => none
  | .binOp op _ x y _ =>
    match ev ρ x, ev ρ y with
    | some ([], .int k u), some ([], .int k' v) => bif sameKind k k' then (intOp op k u v).map fun r => ([], r) else none
    | some (cs, .int k u), some ([], .int k' v) => bif sameKind k k' then (intOp op k u v).map fun r => (cs, r) else none
    | some (cs, .int k u), some (ds, .int k' v) => bif sameKind k k' then (intOp op k u v).map fun r => (cs ++ ds, r) else none
    | _, _ => none
  | .extract x i =>
    match ev ρ x with
    | some (cs, .tuple vs) => (vs.toList[i]?).map fun r => (cs, r)
    | _ => none
  | .nilCheck x =>
    match ev ρ x with
    | some (cs, .pointer (some p)) => some (cs, .pointer (some p))
    | _ => none
  | .makeFunc fn first captured =>
    match evs ρ first.toList, evs ρ captured.toList with
    | some ([], us), some ([], vs) => some ([], .func fn us.toArray vs.toArray)
    | _, _ => none
  | _ => none

theorem sameKind_eq {k k' : IntKind} (h : sameKind k k' = true) : k = k' := by cases k <;> cases k' <;> first | rfl | (simp [sameKind] at h)
theorem evs_eval (hE : EOk n ρ a) : ∀ {l : List Operand} {cs : List Bool} {vs : List Value}, evs ρ l = some (cs, vs) → All cs → l.map a.eval = vs
  | [], _, _, h, _ => by simp [evs] at h; simp [h]
  | x :: r, cs, vs, h, hc => by
    simp only [evs] at h
    cases hx : ev ρ x with
    | none => simp [hx] at h
    | some p =>
      obtain ⟨c1, v⟩ := p
      cases hr : evs ρ r with
      | none => cases c1 <;> simp [hx, hr] at h
      | some q =>
        obtain ⟨c2, us⟩ := q
        cases c1 with
        | nil =>
          simp only [hx, hr, Option.some.injEq, Prod.mk.injEq] at h
          obtain ⟨rfl, rfl⟩ := h
          simp [hE.eval hx All.nil, evs_eval hE hr hc]
        | cons c c1 =>
          simp only [hx, hr, Option.some.injEq, Prod.mk.injEq] at h
          obtain ⟨rfl, rfl⟩ := h
          have h1 : All (c :: c1) := fun b hb => hc b (by simp only [List.mem_cons, List.mem_append] at hb ⊢; rcases hb with hb | hb <;> simp [hb])
          have h2 : All c2 := fun b hb => hc b (by simp [hb])
          simp [hE.eval hx h1, evs_eval hE hr h2]

theorem run_intOp (op : BinOp) (t : TypeId) (k : IntKind) (x y : Int) {r : Value} (h : intOp op k x y = some r) (w : World) (X Y : Operand) :
    ((eqGuard op t X Y (.int k x) (.int k y)).run P w).andThen (fun _ w => (binOp op t (.int k x) (.int k y)).run P w) = .ok r w := by
  cases op <;> simp only [intOp, Option.some.injEq, reduceCtorEq] at h <;> subst h <;>
    simp [eqGuard, binOp, Op.intArith, Op.intBits, Op.intCmp, Go.bits]

theorem run_pureX (hE : EOk n ρ a) {cs : List Bool} {v : Value} (h : pureX ρ o.op = some (cs, v)) (hc : All cs) : (execOp a.eval o).run P w = .ok (.value v) w := by
  obtain ⟨dst, op, type, pos, after, guard⟩ := o
  simp only at h
  cases op <;> simp only [pureX, reduceCtorEq] at h
  case move x => simp [execOp, hE.eval h hc]
  case assign x => simp [execOp, hE.eval h hc]
  case pick c x y =>
    split at h <;> simp only [Option.some.injEq, Prod.mk.injEq, reduceCtorEq] at h
    rename_i t u v' h1 h2 h3
    obtain ⟨rfl, rfl⟩ := h
    simp only [execOp, hE.eval h1 All.nil, hE.eval h2 All.nil, hE.eval h3 All.nil, asBool]
    cases t <;> rfl
  case unOp u t x =>
    cases u <;> simp only [reduceCtorEq] at h
    · split at h <;> simp only [Option.some.injEq, Prod.mk.injEq, reduceCtorEq] at h
      rename_i h1
      obtain ⟨rfl, rfl⟩ := h
      simp [execOp, hE.eval h1 hc, Op.unary, Op.intArith]
    · split at h <;> simp only [Option.some.injEq, Prod.mk.injEq, reduceCtorEq] at h
      rename_i h1
      obtain ⟨rfl, rfl⟩ := h
      simp [execOp, hE.eval h1 hc, Op.unary, Op.intArith]
  case binOp op t x y t' =>
    have key : ∀ {c1 c2 : List Bool} {k k' : IntKind} {p q : Int} {r : Value}, ev ρ x = some (c1, .int k p) → ev ρ y = some (c2, .int k' q) → sameKind k k' = true → intOp op k p q = some r → All c1 → All c2 →
        (execOp a.eval { dst := dst, op := .binOp op t x y t', type := type, pos := pos, after := after, guard := guard }).run P w = .ok (.value r) w := by
      intro c1 c2 k k' p q r h1 h2 hk hr k1 k2
      have hk := sameKind_eq hk
      subst hk
      have hx := hE.eval h1 k1
      have hy := hE.eval h2 k2
      have hrun := run_intOp (P := P) op t k p q hr w x y
      simp only [execOp, hx, hy, Sem.run_bind, hrun, Result.andThen_ok, Sem.run_pure]
    split at h
    · rename_i k1 u k2 v' h1 h2
      cases hk : sameKind k1 k2 <;> simp only [hk, cond_true, cond_false, reduceCtorEq, Option.map_eq_some_iff, Prod.mk.injEq] at h
      obtain ⟨r, hr, rfl, rfl⟩ := h
      exact key h1 h2 hk hr All.nil All.nil
    · rename_i c1 k1 u k2 v' _ h1 h2
      cases hk : sameKind k1 k2 <;> simp only [hk, cond_true, cond_false, reduceCtorEq, Option.map_eq_some_iff, Prod.mk.injEq] at h
      obtain ⟨r, hr, rfl, rfl⟩ := h
      exact key h1 h2 hk hr hc All.nil
    · rename_i c1 k1 u c2 k2 v' _ _ h1 h2
      cases hk : sameKind k1 k2 <;> simp only [hk, cond_true, cond_false, reduceCtorEq, Option.map_eq_some_iff, Prod.mk.injEq] at h
      obtain ⟨r, hr, rfl, rfl⟩ := h
      exact key h1 h2 hk hr hc.app.1 hc.app.2
    · cases h
  case extract x i =>
    split at h <;> simp only [Option.map_eq_some_iff, Prod.mk.injEq, reduceCtorEq] at h
    rename_i vs h1
    obtain ⟨r, hr, rfl, rfl⟩ := h
    have hr' : vs[i]? = some r := by simpa using hr
    simp [execOp, hE.eval h1 hc, Instr.extract, hr']
  case nilCheck x =>
    split at h <;> simp only [Option.some.injEq, Prod.mk.injEq, reduceCtorEq] at h
    rename_i h1
    obtain ⟨rfl, rfl⟩ := h
    simp [execOp, hE.eval h1 hc]
  case makeFunc fn first captured =>
    split at h <;> simp only [Option.some.injEq, Prod.mk.injEq, reduceCtorEq] at h
    rename_i us vs h1 h2
    obtain ⟨rfl, rfl⟩ := h
    have e1 := evs_eval hE h1 All.nil
    have e2 := evs_eval hE h2 All.nil
    have e1' : first.map a.eval = us.toArray := by apply Array.toList_inj.1; rw [Array.toList_map, e1]
    have e2' : captured.map a.eval = vs.toArray := by apply Array.toList_inj.1; rw [Array.toList_map, e2]
    simp [execOp, Instr.makeFunc, e1', e2']

/-- An operation that only computes. -/
theorem L.pu (hC : Conf n S w0 ρ μ a w) (hG : guardOf ρ ops o = some G) {cs : List Bool} {v : Value} (hp : pureX ρ o.op = some (cs, v)) (hc : Gt G → All cs) {d : Nat} (hd : o.dst = some d) (hn : Nat.blt d n = true)
    (k : ∀ a, Conf n S w0 ((d, (G, v)) :: ρ) μ a w → L P ops rest K a w) : L P ops (o :: rest) K a w :=
  L.step hC hG (fun hg => run_pureX hC.env hp (hc hg)) hd hn k
/-- 'x || y': y is there where x is not. -/
theorem L.or (hC : Conf n S w0 ρ μ a w) (hG : guardOf ρ ops o = some G) {c y : Operand} (ho : o.op = .pick c (.const (.bool true)) y) {cs ds : List Bool} {p q : Bool} (h1 : ev ρ c = some (cs, .bool p)) (h2 : ev ρ y = some (ds, .bool q))
    (hc : Gt G → All cs) (hd' : Gt G → p = false → All ds) {d : Nat} (hd : o.dst = some d) (hn : Nat.blt d n = true)
    (k : ∀ a, Conf n S w0 ((d, (G, .bool (p || q))) :: ρ) μ a w → L P ops rest K a w) : L P ops (o :: rest) K a w := by
  refine L.step hC hG (fun hg => ?_) hd hn k
  unfold execOp
  simp only [ho, hC.ev h1 (hc hg), asBool]
  cases p with
  | true => simp [Act.eval]
  | false => simp [hC.ev h2 (hd' hg rfl)]
/-- 'x && y': y is there where x is. -/
theorem L.and (hC : Conf n S w0 ρ μ a w) (hG : guardOf ρ ops o = some G) {c y : Operand} (ho : o.op = .pick c y (.const (.bool false))) {cs ds : List Bool} {p q : Bool} (h1 : ev ρ c = some (cs, .bool p)) (h2 : ev ρ y = some (ds, .bool q))
    (hc : Gt G → All cs) (hd' : Gt G → p = true → All ds) {d : Nat} (hd : o.dst = some d) (hn : Nat.blt d n = true)
    (k : ∀ a, Conf n S w0 ((d, (G, .bool (p && q))) :: ρ) μ a w → L P ops rest K a w) : L P ops (o :: rest) K a w := by
  refine L.step hC hG (fun hg => ?_) hd hn k
  unfold execOp
  simp only [ho, hC.ev h1 (hc hg), asBool]
  cases p with
  | false => simp [Act.eval]
  | true => simp [hC.ev h2 (hd' hg rfl)]
/-- A call of a function that is named, under a contract that says its value. -/
theorem L.call (hC : Conf n S w0 ρ μ a w) (hG : guardOf ρ ops o = some G) {f : FuncId} {args : Array Operand} {ts : Array TypeId} (ho : o.op = .call { callee := .value (.func f), args := args, argTypes := ts })
    (hcall : ∀ (vs : Array Value) (w : World), (callFunc f vs).run P w = .ok (.enter f vs) w)
    {cs : List Bool} {vs : List Value} (hx : evs ρ args.toList = some (cs, vs)) (hcs : Gt G → All cs) {v : Value} (hc : Gt G → Calls P f vs.toArray w fun e w' => e = .returned v ∧ Frm Nob w w') {d : Nat} (hd : o.dst = some d) (hn : Nat.blt d n = true)
    (k : ∀ a w', Frm Nob w w' → Conf n S w0 ((d, (G, v)) :: ρ) μ a w' → L P ops rest K a w') : L P ops (o :: rest) K a w := by
  refine L.grows hC hG (fun hg => ?_) hc hd hn k
  have e := evs_eval hC.env hx (hcs hg)
  have e' : args.map a.eval = vs.toArray := by apply Array.toList_inj.1; rw [Array.toList_map, e]
  unfold execOp
  have ef : a.eval (.func f) = .func (.func f) #[] #[] := rfl
  simp [ho, resolve, invoke, Deferred.ofValue, ef, e', hcall]
/-- A call whose contract says anything: what follows is asked behind it. -/
theorem L.callx (hC : Conf n S w0 ρ μ a w) (hg : o.guard = none) {f : FuncId} {args : Array Operand} {ts : Array TypeId} (ho : o.op = .call { callee := .value (.func f), args := args, argTypes := ts })
    (hcall : ∀ (vs : Array Value) (w : World), (callFunc f vs).run P w = .ok (.enter f vs) w)
    {vs : List Value} (hx : evs ρ args.toList = some ([], vs)) {d : Nat} (hd : o.dst = some d) (hn : Nat.blt d n = true)
    (hc : Calls P f vs.toArray w fun e w' => ∃ v, e = .returned v ∧ ∀ a', EOk n ((d, (none, v)) :: ρ) a' → L P ops rest K a' w') : L P ops (o :: rest) K a w := by
  have e := evs_eval hC.env hx All.nil
  have e' : args.map a.eval = vs.toArray := by apply Array.toList_inj.1; rw [Array.toList_map, e]
  refine L.calls (by unfold Region.wanted; rw [hg]) (f := f) (args := vs.toArray) ?_ (hc.mono ?_)
  · unfold execOp
    have ef : a.eval (.func f) = .func (.func f) #[] #[] := rfl
    simp [ho, resolve, invoke, Deferred.ofValue, ef, e', hcall]
  · rintro e w' ⟨v, rfl, h⟩
    refine ⟨v, rfl, ?_⟩
    rw [hd]
    exact h _ (hC.env.slot hn (none, v) rfl)
/-- A call of a function value. -/
theorem L.callv (hC : Conf n S w0 ρ μ a w) (hg : o.guard = none) {x : Operand} {f : FuncId} {lb : Array Value} {args : Array Operand} {ts : Array TypeId} (ho : o.op = .call { callee := .value x, args := args, argTypes := ts })
    (hxv : ev ρ x = some ([], .func (.func f) #[] lb))
    (hcall : ∀ (vs : Array Value) (w : World), (callFunc f vs).run P w = .ok (.enter f vs) w)
    {vs : List Value} (hx : evs ρ args.toList = some ([], vs)) {d : Nat} (hd : o.dst = some d) (hn : Nat.blt d n = true)
    (hc : Calls P f (vs.toArray ++ lb) w fun e w' => ∃ v, e = .returned v ∧ ∀ a', EOk n ((d, (none, v)) :: ρ) a' → L P ops rest K a' w') : L P ops (o :: rest) K a w := by
  have e := evs_eval hC.env hx All.nil
  have e' : args.map a.eval = vs.toArray := by apply Array.toList_inj.1; rw [Array.toList_map, e]
  refine L.calls (by unfold Region.wanted; rw [hg]) (f := f) (args := vs.toArray ++ lb) ?_ (hc.mono ?_)
  · unfold execOp
    have ef := hC.ev hxv All.nil
    simp [ho, resolve, invoke, Deferred.ofValue, ef, e', hcall]
  · rintro e w' ⟨v, rfl, h⟩
    refine ⟨v, rfl, ?_⟩
    rw [hd]
    exact h _ (hC.env.slot hn (none, v) rfl)
end
end Go.Proofs.E
