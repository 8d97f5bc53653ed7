/- Maps keyed by whole numbers; division, shifts; calls of function values; stores into a slice of the call's own. -/
import Derived.Test.YtgekiiildobfkabE6
set_option linter.unusedVariables false
set_option linter.unusedSimpArgs false
set_option linter.unusedSectionVars false
namespace Go.Proofs.E
open Go.RowKit

/-! ### maps -/
def mget : List (Int × Value) → Int → Option Value
  | [], _ => none
  | (k, v) :: r, x => if x = k then some v else mget r x
def mput : List (Int × Value) → Int → Value → List (Int × Value)
  | [], x, v => [(x, v)]
  | (k, u) :: r, x, v => if x = k then (x, v) :: r else (k, u) :: mput r x v
def mdel : List (Int × Value) → Int → List (Int × Value)
  | [], _ => []
  | (k, u) :: r, x => if x = k then r else (k, u) :: mdel r x
def mplace : List (Int × Value) → Int → Nat → Option (Nat × Value)
  | [], _, _ => none
  | (k, v) :: r, x, i => if x = k then some (i, v) else mplace r x (i + 1)
theorem mplace_get : ∀ (l : List (Int × Value)) (x : Int) (i : Nat), (mplace l x i).map (·.2) = mget l x
  | [], _, _ => rfl
  | (k, v) :: r, x, i => by
    simp only [mplace, mget]
    split
    · rfl
    · exact mplace_get r x (i + 1)
def encM (l : List (Int × Value)) : List (Value × Value) := l.map fun p => (.int .i64 p.1, p.2)
def mapR (b : Nat) (l : List (Int × Value)) : Res where
  fp := fun k => k = b
  rp := Nob
  ok w := ∃ es clock, w.heap[b]? = some (.map es clock) ∧ es.toList.map (fun e => (e.key, e.val)) = encM l
  st := by
    rintro w w' ⟨es, c, h, he⟩ hs
    exact ⟨es, c, (hs b (.inl rfl)).trans h, he⟩
  bd := by
    rintro w ⟨es, c, h, he⟩ k hk
    rcases hk with rfl | hk
    · exact (Array.getElem?_eq_some_iff.1 h).1
    · exact hk.elim
theorem findNow_int {kk : IntKind} : ∀ (es : List MapEntry) (l : List (Int × Value)) (x : Int) (i : Nat), es.map (fun e => (e.key, e.val)) = encM l → Instr.findNow (.int kk) (.int .i64 x) es i = some (mplace l x i)
  | [], l, x, i, h => by
    cases l with
    | nil => rfl
    | cons p l => simp [encM] at h
  | e :: es, l, x, i, h => by
    cases l with
    | nil => simp [encM] at h
    | cons p l =>
      simp only [encM, List.map_cons, List.cons.injEq, Prod.mk.injEq] at h
      obtain ⟨⟨h1, h2⟩, h3⟩ := h
      simp only [Instr.findNow, h1, Instr.sameNow, if_true, mplace]
      by_cases hx : x = p.1
      · simp [hx, h2]
      · have : (x == p.1) = false := by simpa using hx
        simp only [this, if_neg hx]
        exact findNow_int es l x (i + 1) h3
theorem mplace_lt : ∀ {l : List (Int × Value)} {x : Int} {i j : Nat} {v : Value}, mplace l x i = some (j, v) → i ≤ j ∧ j < i + l.length
  | [], x, i, j, v, h => by simp [mplace] at h
  | (k, u) :: r, x, i, j, v, h => by
    simp only [mplace] at h
    split at h
    · simp only [Option.some.injEq, Prod.mk.injEq] at h
      obtain ⟨rfl, _⟩ := h
      simp
    · have := mplace_lt h
      simp only [List.length_cons]
      omega
theorem enc_put : ∀ (es : List MapEntry) (l : List (Int × Value)) (x : Int) (i : Nat) (u v : Value) (j : Nat), es.map (fun e => (e.key, e.val)) = encM l → mplace l x i = some (i + j, u) →
    (es.modify j fun e => { e with key := .int .i64 x, val := v }).map (fun e => (e.key, e.val)) = encM (mput l x v) ∧ (es[j]?).map (·.key) = some (.int .i64 x)
  | [], l, x, i, u, v, j, h, hp => by
    cases l with
    | nil => simp [mplace] at hp
    | cons p l => simp [encM] at h
  | e :: es, l, x, i, u, v, j, h, hp => by
    cases l with
    | nil => simp [encM] at h
    | cons p l =>
      obtain ⟨k, pv⟩ := p
      simp only [encM, List.map_cons, List.cons.injEq, Prod.mk.injEq] at h
      obtain ⟨⟨h1, h2⟩, h3⟩ := h
      simp only [mplace] at hp
      split at hp
      · rename_i hx
        simp only [Option.some.injEq, Prod.mk.injEq] at hp
        obtain rfl : j = 0 := by omega
        subst hx
        simp only [List.modify_zero_cons, List.map_cons, mput, if_true, encM, List.getElem?_cons_zero, Option.map_some, h1, and_true]
        rw [h3]
      · rename_i hx
        have hlt := mplace_lt hp
        obtain ⟨j', rfl⟩ : ∃ j', j = j' + 1 := ⟨j - 1, by omega⟩
        have ih := enc_put es l x (i + 1) u v j' h3 (by rw [hp]; congr 2 <;> omega)
        simp only [List.modify_succ_cons, List.map_cons, mput, if_neg hx, encM, List.getElem?_cons_succ]
        refine ⟨?_, ih.2⟩
        rw [ih.1, h1, h2]; rfl
theorem enc_push : ∀ (l : List (Int × Value)) (x : Int) (i : Nat) (v : Value), mplace l x i = none → encM l ++ [(.int .i64 x, v)] = encM (mput l x v)
  | [], _, _, _, _ => rfl
  | (k, u) :: r, x, i, v, h => by
    simp only [mplace] at h
    split at h
    · cases h
    · rename_i hx
      have := enc_push r x (i + 1) v h
      simp only [encM, List.map_cons, mput, if_neg hx, List.cons_append] at this ⊢
      rw [this]
theorem enc_del : ∀ (es : List MapEntry) (l : List (Int × Value)) (x : Int) (i : Nat) (u : Value) (j : Nat), es.map (fun e => (e.key, e.val)) = encM l → mplace l x i = some (i + j, u) →
    (es.eraseIdx j).map (fun e => (e.key, e.val)) = encM (mdel l x)
  | [], l, x, i, u, j, h, hp => by
    cases l with
    | nil => simp [mplace] at hp
    | cons p l => simp [encM] at h
  | e :: es, l, x, i, u, j, h, hp => by
    cases l with
    | nil => simp [encM] at h
    | cons p l =>
      obtain ⟨k, pv⟩ := p
      simp only [encM, List.map_cons, List.cons.injEq, Prod.mk.injEq] at h
      obtain ⟨⟨h1, h2⟩, h3⟩ := h
      simp only [mplace] at hp
      split at hp
      · rename_i hx
        simp only [Option.some.injEq, Prod.mk.injEq] at hp
        obtain rfl : j = 0 := by omega
        simp only [List.eraseIdx_zero, List.tail_cons, mdel, if_pos hx]
        exact h3
      · rename_i hx
        have hlt := mplace_lt hp
        obtain ⟨j', rfl⟩ : ∃ j', j = j' + 1 := ⟨j - 1, by omega⟩
        have ih := enc_del es l x (i + 1) u j' h3 (by rw [hp]; congr 2 <;> omega)
        simp only [List.eraseIdx_cons_succ, List.map_cons, mdel, if_neg hx, encM, ih, h1, h2]
theorem mdel_none : ∀ (l : List (Int × Value)) (x : Int) (i : Nat), mplace l x i = none → mdel l x = l
  | [], _, _, _ => rfl
  | (k, u) :: r, x, i, h => by
    simp only [mplace] at h
    split at h
    · cases h
    · rename_i hx
      simp only [mdel, if_neg hx, mdel_none r x (i + 1) h]

section
variable {P : Program} {ops : Array Oper} {o : Oper} {rest : List Oper} {K : Kn} {a : Act} {w : World} {n : Nat} {S : Nat → Prop} {w0 : World} {ρ : Env} {μ : List Res} {G : Option Bool}

theorem run_checkInt (b : Bool) (m : Nat) {t : TypeId} {kk k : IntKind} {x : Int} (ht : P.underlying t = some (.int kk)) : (Instr.checkKey b (m + 1) t (.int k x)).run P w = .ok () w := by
  simp [Instr.checkKey, run_underlying ht]
theorem run_getMap {b : Nat} {es : Array MapEntry} {c : Nat} (h : w.heap[b]? = some (.map es c)) : (getObj b).run P w = .ok (.map es c) w := by
  simp [getObj, Sem.run, h]
theorem run_setMap {b : Nat} {es : Array MapEntry} {c : Nat} (h : w.heap[b]? = some (.map es c)) (o : Obj) : (setObj b o).run P w = .ok () { w with heap := w.heap.setIfInBounds b o } := by
  simp [setObj, Sem.run, h]
theorem frm_setObj (b : Nat) (o : Obj) : Frm (fun k => k = b) w { w with heap := w.heap.setIfInBounds b o } :=
  ⟨rfl, rfl, rfl, by simp, fun k _ hk => by simp only; rw [Array.getElem?_setIfInBounds_ne (fun e => hk e.symm)], Nat.le_refl _⟩

theorem L.mkmap (hC : Conf n S w0 ρ μ a w) (hg : o.guard = none) {t : TypeId} (ho : o.op = .makeMap t none) {d : Nat} (hd : o.dst = some d) (hn : Nat.blt d n = true)
    (k : ∀ b a w', Frm Nob w w' → Conf n S w0 ((d, (none, .map (some b))) :: ρ) (mapR b [] :: μ) a w' → L P ops rest K a w') : L P ops (o :: rest) K a w := by
  refine L.value (by unfold Region.wanted; rw [hg]) (v := .map (some w.heap.size)) (w' := w.alloc (.map #[] 0)) ?_ ?_
  · unfold execOp
    simp [ho, Instr.makeMap]
  · rw [hd]
    have hC' := hC.cons (Frm.alloc w (.map #[] 0)) (r := mapR w.heap.size []) ⟨#[], 0, heap_alloc_new w _, rfl⟩ (fun b hb => by have : b = w.heap.size := hb; omega) (fun b hb => hb.elim)
    exact k _ _ _ (Frm.alloc _ _) ⟨hC'.env.slot hn (none, _) rfl, hC'.mem, hC'.frm, hC'.own⟩
theorem L.look (hC : Conf n S w0 ρ μ a w) (hG : guardOf ρ ops o = some G) {t : TypeId} {x ix : Operand} (ho : o.op = .lookup t x ix false) {b : Nat} {y : Int} {cs ds : List Bool} (hx : ev ρ x = some (cs, .map (some b))) (hy : ev ρ ix = some (ds, .int .i64 y)) (hcs : Gt G → All cs) (hds : Gt G → All ds)
    {l : List (Int × Value)} (hm : mapR b l ∈ μ) {kt e : TypeId} {kk : IntKind} (hu : P.underlying t = some (.map kt e)) (hk : P.underlying kt = some (.int kk)) {z : Value} (hz : ∀ w, (zeroValue e).run P w = .ok z w) {d : Nat} (hd : o.dst = some d) (hn : Nat.blt d n = true)
    {v : Value} (hv : (mget l y).getD z = v) (k : ∀ a, Conf n S w0 ((d, (G, v)) :: ρ) μ a w → L P ops rest K a w) : L P ops (o :: rest) K a w := by
  subst hv
  refine L.step hC hG (fun hg => ?_) hd hn k
  obtain ⟨es, c, hb, he⟩ := hC.at hm
  have hf := findNow_int (kk := kk) es.toList l y 0 he
  have hp := mplace_get l y 0
  unfold execOp
  simp only [ho, hC.ev hx (hcs hg), hC.ev hy (hds hg), Instr.lookup, Sem.run_bind, run_underlying hu, Result.andThen_ok, run_getMap hb, Sem.run_pure, run_checkInt es.isEmpty 9999 hk, Instr.findKey, run_underlying hk, hf]
  cases hq : mplace l y 0 with
  | none =>
    rw [hq] at hp
    simp [← hp, hz]
  | some q =>
    obtain ⟨i, v⟩ := q
    rw [hq] at hp
    simp [← hp]
theorem L.mupd {b : Nat} {l : List (Int × Value)} (hC : Conf n S w0 ρ (mapR b l :: μ) a w) (hg : o.guard = none) {t : TypeId} {x ix y : Operand} (ho : o.op = .mapUpdate t x ix y) {q : Int} {v : Value} (hx : ev ρ x = some ([], .map (some b))) (hi : ev ρ ix = some ([], .int .i64 q)) (hy : ev ρ y = some ([], v))
    {kt e : TypeId} {kk : IntKind} (hu : P.underlying t = some (.map kt e)) (hk : P.underlying kt = some (.int kk)) (hd : o.dst = none)
    (k : ∀ a w', FrmF (mapR b l :: μ) (mapR b (mput l q v) :: μ) w w' → Conf n S w0 ρ (mapR b (mput l q v) :: μ) a w' → L P ops rest K a w') : L P ops (o :: rest) K a w := by
  obtain ⟨es, c, hb, he⟩ := hC.at m0
  have hf := findNow_int (kk := kk) es.toList l q 0 he
  have fin : ∀ (es' : Array MapEntry) (c' : Nat), es'.toList.map (fun e => (e.key, e.val)) = encM (mput l q v) → (execOp a.eval o).run P w = .ok .skip { w with heap := w.heap.setIfInBounds b (.map es' c') } → L P ops (o :: rest) K a w := by
    intro es' c' he' hr
    refine L.effect (by unfold Region.wanted; rw [hg]) hr ?_
    rw [hd]
    refine k _ _ (FrmF.upd (frm_setObj b _) (fun i hi => .inl (hi.resolve_right (fun h => h)))) (hC.upd (frm_setObj b _) ⟨es', c', ?_, he'⟩ (fun i hi => .inl (hi.resolve_right (fun h => h))))
    have hlt : b < w.heap.size := (Array.getElem?_eq_some_iff.1 hb).1
    simp [hlt]
  cases hq : mplace l q 0 with
  | none =>
    refine fin (es.push { key := .int .i64 q, val := v, born := c }) (c + 1) ?_ ?_
    · rw [Array.toList_push, List.map_append, he]
      exact enc_push l q 0 v hq
    · unfold execOp
      simp only [ho, hC.ev hx All.nil, hC.ev hi All.nil, hC.ev hy All.nil, Instr.mapUpdate, Sem.run_bind, run_underlying hu, Result.andThen_ok, run_getMap hb, Sem.run_pure, run_checkInt false 9999 hk, Instr.findKey, run_underlying hk, hf, hq, run_setMap hb]
  | some p =>
    obtain ⟨i, u⟩ := p
    have hpp := enc_put es.toList l q 0 u v i he (by rw [hq]; simp)
    refine fin (es.modify i fun e => { e with key := .int .i64 q, val := v }) c ?_ ?_
    · rw [Array.toList_modify]; exact hpp.1
    · have hkey : ((es[i]?).map (·.key)).getD (.int .i64 q) = .int .i64 q := by
        have := hpp.2
        simp only [Array.getElem?_toList] at this
        rw [this]; rfl
      unfold execOp
      simp only [ho, hC.ev hx All.nil, hC.ev hi All.nil, hC.ev hy All.nil, Instr.mapUpdate, Sem.run_bind, run_underlying hu, Result.andThen_ok, run_getMap hb, Sem.run_pure, run_checkInt false 9999 hk, Instr.findKey, run_underlying hk, hf, hq, hkey, Instr.keyThatStays]
      simp [Instr.sameBits, run_setMap hb]
theorem L.mdelete {b : Nat} {l : List (Int × Value)} (hC : Conf n S w0 ρ (mapR b l :: μ) a w) (hg : o.guard = none) {t kt : TypeId} {x ix : Operand} (ho : o.op = .call { callee := .builtin .delete, args := #[x, ix], argTypes := #[t, kt] }) {q : Int} (hx : ev ρ x = some ([], .map (some b))) (hi : ev ρ ix = some ([], .int .i64 q))
    {kt' e : TypeId} {kk : IntKind} (hu : P.underlying t = some (.map kt' e)) (hk : P.underlying kt' = some (.int kk)) {d : Option Nat} (hd : o.dst = d) (hn : ∀ i, d = some i → Nat.blt i n = true)
    (k : ∀ a w, Conf n S w0 (match d with | some i => (i, (none, .tuple #[])) :: ρ | none => ρ) (mapR b (mdel l q) :: μ) a w → L P ops rest K a w) : L P ops (o :: rest) K a w := by
  obtain ⟨es, c, hb, he⟩ := hC.at m0
  have hf := findNow_int (kk := kk) es.toList l q 0 he
  have hlt : b < w.heap.size := (Array.getElem?_eq_some_iff.1 hb).1
  have fin : ∀ (es' : Array MapEntry), es'.toList.map (fun e => (e.key, e.val)) = encM (mdel l q) → (execOp a.eval o).run P w = .ok (.value (.tuple #[])) { w with heap := w.heap.setIfInBounds b (.map es' c) } → L P ops (o :: rest) K a w := by
    intro es' he' hr
    refine L.value (by unfold Region.wanted; rw [hg]) hr ?_
    have hC' := hC.upd (r' := mapR b (mdel l q)) (frm_setObj b (.map es' c)) ⟨es', c, by simp [hlt], he'⟩ (fun i hi => .inl (hi.resolve_right (fun h => h)))
    cases d with
    | none => rw [hd]; exact k _ _ hC'
    | some i => rw [hd]; exact k _ _ ⟨hC'.env.slot (hn i rfl) (none, _) rfl, hC'.mem, hC'.frm, hC'.own⟩
  cases hq : mplace l q 0 with
  | none =>
    refine fin es ?_ ?_
    · rw [mdel_none l q 0 hq]; exact he
    · unfold execOp
      simp only [ho, resolve, invoke, builtin, Builtin.delete_, Sem.run_bind, Sem.run_pure, Result.andThen_ok, List.map_toArray, List.map_cons, List.map_nil, hC.ev hx All.nil, hC.ev hi All.nil, List.getElem?_toArray, List.getElem?_cons_zero, List.getElem?_cons_succ, run_underlying hu, run_getMap hb, run_checkInt es.isEmpty 9999 hk, Instr.findKey, run_underlying hk, hf, hq, run_setMap hb]
  | some p =>
    obtain ⟨i, u⟩ := p
    have hpp := enc_del es.toList l q 0 u i he (by rw [hq]; simp)
    refine fin (es.eraseIdxIfInBounds i) ?_ ?_
    · rw [← hpp]
      congr 1
      simp
    · unfold execOp
      simp only [ho, resolve, invoke, builtin, Builtin.delete_, Sem.run_bind, Sem.run_pure, Result.andThen_ok, List.map_toArray, List.map_cons, List.map_nil, hC.ev hx All.nil, hC.ev hi All.nil, List.getElem?_toArray, List.getElem?_cons_zero, List.getElem?_cons_succ, run_underlying hu, run_getMap hb, run_checkInt es.isEmpty 9999 hk, Instr.findKey, run_underlying hk, hf, hq, run_setMap hb]
theorem L.mlen (hC : Conf n S w0 ρ μ a w) (hG : guardOf ρ ops o = some G) {t : TypeId} {x : Operand} (ho : o.op = .call { callee := .builtin .len, args := #[x], argTypes := #[t] }) {b : Nat} {cs : List Bool} (hx : ev ρ x = some (cs, .map (some b))) (hcs : Gt G → All cs)
    {l : List (Int × Value)} (hm : mapR b l ∈ μ) {kt e : TypeId} (hu : P.underlying t = some (.map kt e)) {d : Nat} (hd : o.dst = some d) (hn : Nat.blt d n = true)
    (k : ∀ a, Conf n S w0 ((d, (G, .int .i64 (l.length : Int))) :: ρ) μ a w → L P ops rest K a w) : L P ops (o :: rest) K a w := by
  refine L.step hC hG (fun hg => ?_) hd hn k
  obtain ⟨es, c, hb, he⟩ := hC.at hm
  have hlen : es.size = l.length := by
    have := congrArg List.length he
    simpa [encM] using this
  unfold execOp
  have e1 := hC.ev hx (hcs hg)
  simp [ho, resolve, invoke, builtin, Builtin.len_, run_underlying hu, e1, run_getMap hb, goInt, hlen]

/-! ### division, shifts -/
theorem run_quo {t : TypeId} {X Y : Operand} {k : IntKind} {x y : Int} (hy : y ≠ 0) (w : World) : ((eqGuard .quo t X Y (.int k x) (.int k y)).run P w).andThen (fun _ w => (binOp .quo t (.int k x) (.int k y)).run P w) = .ok (.int k (k.wrap (x.tdiv y))) w := by
  simp [eqGuard, binOp, Op.intDiv, hy]
theorem run_rem {t : TypeId} {X Y : Operand} {k : IntKind} {x y : Int} (hy : y ≠ 0) (w : World) : ((eqGuard .rem t X Y (.int k x) (.int k y)).run P w).andThen (fun _ w => (binOp .rem t (.int k x) (.int k y)).run P w) = .ok (.int k (x.tmod y)) w := by
  simp [eqGuard, binOp, Op.intDiv, hy]
theorem run_shl {t : TypeId} {X Y : Operand} {k k' : IntKind} {x y : Int} (hy : 0 ≤ y) (w : World) : ((eqGuard .shl t X Y (.int k x) (.int k' y)).run P w).andThen (fun _ w => (binOp .shl t (.int k x) (.int k' y)).run P w) = .ok (.int k (k.wrap (x * 2 ^ (min y.toNat k.bits)))) w := by
  have : ¬ y < 0 := by omega
  simp [eqGuard, binOp, Op.shift, this]
theorem run_shr {t : TypeId} {X Y : Operand} {k k' : IntKind} {x y : Int} (hy : 0 ≤ y) (w : World) : ((eqGuard .shr t X Y (.int k x) (.int k' y)).run P w).andThen (fun _ w => (binOp .shr t (.int k x) (.int k' y)).run P w) = .ok (.int k (x.fdiv (2 ^ (min y.toNat k.bits)))) w := by
  have : ¬ y < 0 := by omega
  simp [eqGuard, binOp, Op.shift, this]

/-! ### function values -/
theorem L.callf (hC : Conf n S w0 ρ μ a w) (hG : guardOf ρ ops o = some G) {x : Operand} {f : FuncId} {lb : Array Value} {args : Array Operand} {ts : Array TypeId} (ho : o.op = .call { callee := .value x, args := args, argTypes := ts })
    {ds : List Bool} (hxv : ev ρ x = some (ds, .func (.func f) #[] lb)) (hds : Gt G → All ds)
    (hcall : ∀ (vs : Array Value) (w : World), (callFunc f vs).run P w = .ok (.enter f vs) w)
    {cs : List Bool} {vs : List Value} (hx : evs ρ args.toList = some (cs, vs)) (hcs : Gt G → All cs) {v : Value} (hc : Gt G → Calls P f (vs.toArray ++ lb) w fun e w' => e = .returned v ∧ Frm Nob w w') {d : Nat} (hd : o.dst = some d) (hn : Nat.blt d n = true)
    (k : ∀ a w', Frm Nob w w' → Conf n S w0 ((d, (G, v)) :: ρ) μ a w' → L P ops rest K a w') : L P ops (o :: rest) K a w := by
  refine L.grows hC hG (fun hg => ?_) hc hd hn k
  have e := evs_eval hC.env hx (hcs hg)
  have e' : args.map a.eval = vs.toArray := by apply Array.toList_inj.1; rw [Array.toList_map, e]
  unfold execOp
  have ef := hC.ev hxv (hds hg)
  simp [ho, resolve, invoke, Deferred.ofValue, ef, e', hcall]

/-! ### a store into a slice of the call's own -/
theorem Enc.flat_set {α : Type _} (E : Enc α) : ∀ (l : List α) (j : Nat) (x : α) (off : Nat) (us : List Value), j < l.length → over (E.enc (l[j]?.getD x)) off us = E.enc x → off + us.length ≤ E.sz →
    over (E.flat l) (j * E.sz + off) us = E.flat (l.set j x)
  | [], j, x, off, us, hj, _, _ => by simp at hj
  | y :: l, 0, x, off, us, _, h, hs => by
    simp only [List.getElem?_cons_zero, Option.getD_some] at h
    simp only [Enc.flat, List.flatMap_cons, List.set_cons_zero, Nat.zero_mul, Nat.zero_add]
    rw [← h]
    unfold over
    have hy := E.len y
    rw [List.take_append_of_le_length (by omega), List.drop_append_of_le_length (by omega)]
    simp
  | y :: l, j + 1, x, off, us, hj, h, hs => by
    have ih := Enc.flat_set E l j x off us (by simpa using hj) (by simpa using h) hs
    simp only [Enc.flat, List.flatMap_cons, List.set_cons_succ] at ih ⊢
    rw [← ih]
    unfold over
    have hy := E.len y
    have e1 : (j + 1) * E.sz + off = (E.enc y).length + (j * E.sz + off) := by rw [hy, Nat.add_mul]; omega
    have e2 : (j + 1) * E.sz + off + us.length = (E.enc y).length + (j * E.sz + off + us.length) := by rw [e1]; omega
    rw [e2, e1, List.take_length_add_append, List.drop_length_add_append]
    simp
theorem over_take (cur : List Value) (A m : Nat) (us : List Value) (h1 : A + us.length ≤ m) (h2 : m ≤ cur.length) : (over cur A us).take m = over (cur.take m) A us := by
  have e1 : (cur.take A).length = A := by rw [List.length_take]; omega
  have e2 : (cur.take A ++ us).length = A + us.length := by rw [List.length_append, e1]
  have e3 : (cur.take m).drop (A + us.length) = (cur.drop (A + us.length)).take (m - (A + us.length)) := by rw [List.drop_take]
  have e4 : (cur.take m).take A = cur.take A := by rw [List.take_take]; congr 1; omega
  unfold over
  rw [List.take_append, e2, e3, e4, List.take_of_length_le (l := cur.take A ++ us) (by omega)]
theorem L.ste {α : Type _} [Inhabited α] {v : Value} {ty : TypeId} {E : Enc α} {l : List α} (hC : Conf n S w0 ρ (ownR v ty E l :: μ) a w) (hg : o.guard = none) {t : TypeId} {x y : Operand} (ho : o.op = .store t x y) {j off z : Nat} (hx : ev ρ x = some ([], ep v j z off)) (hz : z = E.sz)
    {u : Value} (hy : ev ρ y = some ([], u)) {m : Nat} (hS : ∀ w, (sizeOf t).run P w = .ok m w) {us : List Value} (hu : cellsL u = us) (hl : Nat.beq us.length m = true) (h1 : oneAll us = true) (hj : j < l.length) (hfit : off + us.length ≤ E.sz) {x' : α} (hx' : over (E.enc l[j]!) off us = E.enc x') (hd : o.dst = none)
    (k : ∀ a w', FrmF (ownR v ty E l :: μ) (ownR v ty E (l.set j x') :: μ) w w' → Conf n S w0 ρ (ownR v ty E (l.set j x') :: μ) a w' → L P ops rest K a w') : L P ops (o :: rest) K a w := by
  subst hu; subst hz
  have hl := Nat.eq_of_beq_eq_true hl
  have hown : w.ownsRow 0 ty E.sz v l.length (E.flat l) := hC.at m0
  rcases hown.2 with ⟨_, h0⟩ | ⟨g, cap, cur, hv, _, hgh, hcap, hcm, hcs, htake⟩
  · omega
  have hp : ep v j E.sz off = .pointer (some ⟨g, j * E.sz + off, none⟩) := by
    rw [hv]; simp [ep, add_plain']
  have hbound : j * E.sz + off + (cellsL u).length ≤ l.length * E.sz := by
    have : (j + 1) * E.sz ≤ l.length * E.sz := Nat.mul_le_mul_right _ hj
    rw [Nat.add_mul] at this
    omega
  have hcur : l.length * E.sz ≤ cur.size := by rw [hcs]; exact Nat.mul_le_mul_right _ hcap
  have hr := run_st (P := P) (w := w) hgh hS hl (off := j * E.sz + off) (by rw [← hl]; omega) (oneAll_spec h1)
  have hfl := E.flat_set l j x' off (cellsL u) hj (by
    rw [List.getElem?_eq_getElem hj, Option.getD_some, ← bang hj]; exact hx') hfit
  refine L.effect (by unfold Region.wanted; rw [hg]) (w' := w.setRow g (over cur.toList (j * E.sz + off) (cellsL u)).toArray) ?_ ?_
  · unfold execOp
    have e := hC.ev hx All.nil
    rw [hp] at e
    simp only [ho, e, hC.ev hy All.nil, Sem.run_bind, hr, Result.andThen_ok, Sem.run_pure]
  · rw [hd]
    have hfr : Frm (ownR v ty E l).fp w (w.setRow g (over cur.toList (j * E.sz + off) (cellsL u)).toArray) := Frm.mono (frm_setRow g _) (fun i _ hi => by
      show v.ownBlock = some i
      rw [hv, hi]; rfl)
    refine k _ _ (FrmF.upd hfr (fun b hb => .inl (hb.resolve_right (fun h => h)))) (hC.upd (r' := ownR v ty E (l.set j x')) hfr ?_ (fun b hb => .inl (hb.resolve_right (fun h => h))))
    · refine ⟨E.flat_length _, .inr ⟨g, cap, (over cur.toList (j * E.sz + off) (cellsL u)).toArray, ?_, Nat.zero_le _, setRow_heap w g cur _ _ _ hgh, ?_, hcm, ?_, ?_⟩⟩
      · rw [List.length_set]; exact hv
      · rw [List.length_set]; exact hcap
      · simp only [over, List.size_toArray, List.length_append, List.length_take, List.length_drop, Array.length_toList]
        omega
      · rw [List.length_set, ← hfl, ← htake]
        exact over_take cur.toList (j * E.sz + off) (l.length * E.sz) (cellsL u) hbound (by simpa using hcur)
end
end Go.Proofs.E
