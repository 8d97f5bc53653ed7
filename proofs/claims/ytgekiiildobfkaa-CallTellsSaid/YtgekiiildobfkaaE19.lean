/- A range over a function: the iterator's contract, the statement, the function that holds it. -/
import Derived.Test.YtgekiiildobfkaaE18
set_option linter.unusedVariables false
set_option linter.unusedSimpArgs false
set_option linter.unusedSectionVars false
namespace Go.Proofs.E
open Go.RowKit

/-- A block that is known and only read. -/
def robR (b : Nat) (vs : List Value) (ty : TypeId) : Res where
  fp := Nob
  rp := fun k => k = b
  ok w := w.heap[b]? = some (.cells vs.toArray ty (0, 0))
  st := fun w w' h hs => (hs b (.inr rfl)).trans h
  bd := fun w h k hk => by
    rcases hk with hk | rfl
    · exact hk.elim
    · exact (Array.getElem?_eq_some_iff.1 h).1
/-- The loop's record, and the block for deferred calls. -/
def recR (L D : Nat) (o : Loop) : Res where
  fp := fun k => k = L ∨ k = D
  rp := Nob
  ok w := w.heap[L]? = some (.loop o) ∧ w.heap[D]? = some (.deferred (some []))
  st := fun w w' h hs => ⟨(hs L (.inl (.inl rfl))).trans h.1, (hs D (.inl (.inr rfl))).trans h.2⟩
  bd := fun w h k hk => by
    rcases hk with (rfl | rfl) | hk
    · exact (Array.getElem?_eq_some_iff.1 h.1).1
    · exact (Array.getElem?_eq_some_iff.1 h.2).1
    · exact hk.elim
def markR (D : Nat) : Res where
  fp := fun k => k = D
  rp := Nob
  ok w := w.heap[D]? = some (.deferred (some []))
  st := fun w w' h hs => (hs D (.inl rfl)).trans h
  bd := fun w h k hk => by
    rcases hk with rfl | hk
    · exact (Array.getElem?_eq_some_iff.1 h).1
    · exact hk.elim
def mark (D : Nat) : Deferred := { target := .collected D, args := #[] }

section
variable {P : Program} {ops : Array Oper} {o : Oper} {rest : List Oper} {K : Kn} {a : Act} {w w' : World} {n : Nat} {S T : Nat → Prop} {w0 : World} {ρ : Env} {μ : List Res} {G : Option Bool}

theorem robR_cell {b : Nat} {vs : List Value} {ty : TypeId} (h : (robR b vs ty).ok w) (j : Nat) : w.cell? ⟨b, j, none⟩ = vs[j]? := by
  have := cell_of_row w b j _ _ _ h
  simpa using this
theorem L.ldr (hC : Conf n S w0 ρ μ a w) (hG : guardOf ρ ops o = some G) {t : TypeId} {x : Operand} (ho : o.op = .load t x) {cs : List Bool} {b off : Nat} (hx : ev ρ x = some (cs, .pointer (some ⟨b, off, none⟩))) (hcs : Gt G → All cs)
    {vs : List Value} {ty : TypeId} (hm : robR b vs ty ∈ μ) (hA : ∀ w, (isAgg t).run P w = .ok false w) {v : Value} (hv : vs[off]? = some v) {d : Nat} (hd : o.dst = some d) (hn : Nat.blt d n = true)
    (k : ∀ a, Conf n S w0 ((d, (G, v)) :: ρ) μ a w → L P ops rest K a w) : L P ops (o :: rest) K a w := by
  refine L.step hC hG (fun hg => ?_) hd hn k
  have := run_ld (P := P) (w := w) hA (p := ⟨b, off, none⟩) ((robR_cell (hC.at hm) off).trans hv)
  unfold execOp
  simp [ho, hC.ev hx (hcs hg), this]
theorem L.ldar (hC : Conf n S w0 ρ μ a w) (hG : guardOf ρ ops o = some G) {t : TypeId} {x : Operand} (ho : o.op = .load t x) {cs : List Bool} {b off : Nat} (hx : ev ρ x = some (cs, .pointer (some ⟨b, off, none⟩))) (hcs : Gt G → All cs)
    {vs : List Value} {ty : TypeId} (hm : robR b vs ty ∈ μ) (hA : ∀ w, (isAgg t).run P w = .ok true w) {m : Nat} (hS : ∀ w, (sizeOf t).run P w = .ok m w) {us : List Value} (hv : (vs.drop off).take m = us) (hl : Nat.beq us.length m = true) {d : Nat} (hd : o.dst = some d) (hn : Nat.blt d n = true)
    (k : ∀ a, Conf n S w0 ((d, (G, .agg us.toArray)) :: ρ) μ a w → L P ops rest K a w) : L P ops (o :: rest) K a w := by
  refine L.step hC hG (fun hg => ?_) hd hn k
  have hl' := Nat.eq_of_beq_eq_true hl
  have := run_lda (P := P) (w := w) hA (by rw [hl']; exact hS) (p := ⟨b, off, none⟩) (us := us) (fun j v hj => by
    rw [add_plain', robR_cell (hC.at hm)]
    rw [← hv, List.getElem?_take] at hj
    split at hj
    · rw [List.getElem?_drop] at hj; exact hj
    · cases hj)
  unfold execOp
  simp [ho, hC.ev hx (hcs hg), this]

/-! ### A call of yield -/
theorem LI.yield {k : Kd} {ds : List Deferred} (hC : Conf n S w0 ρ μ a w) (hG : guardOf ρ ops o = some G) {x : Operand} {args : Array Operand} {ts : Array TypeId} (ho : o.op = .call { callee := .value x, args := args, argTypes := ts }) {l : Nat} {cs cs' : List Bool}
    (hx : ev ρ x = some (cs, .func (.yield l) #[] #[])) (hcs : Gt G → All cs) {vs : List Value} (hv : evs ρ args.toList = some (cs', vs)) (hcs' : Gt G → All cs') {d : Nat} (hd : o.dst = some d) (hn : Nat.blt d n = true) {R : Ending → World → Prop}
    (hy : Gt G → YieldAt (FR none) 0 P l vs.toArray w R)
    (hyes : Gt G → ∀ e w', R e w' → ∃ b, e = .returned (.bool b) ∧ ∀ a', EOk n ((d, (G, .bool b)) :: ρ) a' → LI none P ops rest k ds a' w')
    (hskip : ¬ Gt G → ∀ a', EOk n ((d, (G, .bool true)) :: ρ) a' → LI none P ops rest k ds a' w) : LI none P ops (o :: rest) k ds a w := by
  have hput : ∀ (o : Option Tmp) (v : Value) (a : Act), (wd a ds).put o v = wd (a.put o v) ds := fun o v a => by cases o <;> rfl
  have hev : (wd a ds).eval = a.eval := by funext x; cases x <;> rfl
  have hw := wanted_of hC.env hG
  show wpListIn (FR none) 0 P ops (LqI k) (o :: rest) (wd a ds) w
  unfold wpListIn
  by_cases hg : Gt G
  · have hw' : Region.wanted o (yielded ops (wd a ds).tmps) = true := hw.2 hg
    rw [if_pos hw']
    refine ⟨fun _ _ => trivial, ?_⟩
    obtain ⟨fn, tmps, assign, body, hrun, hR⟩ := hy hg
    have e := evs_eval hC.env hv (hcs' hg)
    have e' : args.map a.eval = vs.toArray := by apply Array.toList_inj.1; rw [Array.toList_map, e]
    have hop : (execOp a.eval o).run P w = .ok (.round l fn tmps assign body) w := by
      unfold execOp
      simp [ho, resolve, invoke, Deferred.ofValue, hC.ev hx (hcs hg), e', hrun]
    have hop' : (Oper.semAt none (wd a ds).eval o).run P w = .ok (.round l fn tmps assign body) w := by
      rw [hev, Oper.semAt_none]; exact hop
    show Oper.uponIn (FR none) 0 P o (wd a ds) _ _ ((Oper.semAt none (wd a ds).eval o).run P w)
    rw [hop']
    refine ⟨(fun h => by cases h), ?_⟩
    refine RoundIn.mono hR (fun ee w' he => ?_)
    obtain ⟨b, rfl, hk⟩ := hyes hg ee w' he
    show wpListIn _ _ _ _ _ _ _ _
    rw [hput]
    exact hk _ (by rw [hd]; exact hC.env.slot hn (G, .bool b) (Slot.value_of hg))
  · have hw' : ¬ Region.wanted o (yielded ops (wd a ds).tmps) = true := fun h => hg (hw.1 h)
    rw [if_neg hw']
    refine ⟨fun _ _ => trivial, ?_⟩
    rw [hput, hd]
    refine hskip hg _ (hC.env.slot hn (G, .bool true) ?_)
    cases G with
    | none => exact absurd trivial hg
    | some g =>
      have : g = false := by simpa [Gt] using hg
      subst this
      rfl

/-! ### Functions -/
theorem enterI {f : FuncId} {fn : Func} {c : Code} {n : Nat} {vs : List Value} {w : World} {R : Ending → World → Prop} {μ : List Res} {S : Nat → Prop} (hf : P.funcs[f]? = some fn) (hb : fn.body = some c) (hn : fn.ntmps = n) (hl : Nat.ble vs.length n = true)
    (hm : Mem μ w) (ho : ∀ r ∈ μ, ∀ b, r.fp b → S b)
    (h : ∀ a, Conf n S w (args0 0 vs) μ a w → WI none P c (fun ds a w => LeavesInM (FR none) 0 P fn a.tmps R ds .returning w) (fun _ _ _ _ => False) (fun ds a w => LeavesInM (FR none) 0 P fn a.tmps R ds .returning w) [] a w) : CallsIn (FR none) 0 P f vs.toArray w R := by
  refine callsIn_of_wp_marks hf hb trivial ?_ rfl
  have hl := Nat.le_of_ble_eq_true hl
  refine wpIn_mono (h { tmps := vs.toArray ++ Array.replicate (fn.ntmps - vs.toArray.size) undef, defers := [] } ⟨⟨rfl, ?_, ?_⟩, hm, Frm.refl _ _, fun r hr b hb => .inl (ho r hr b hb)⟩) (fun e a w hq => ?_)
  · simp [hn]; omega
  · intro i s hi
    obtain ⟨v, h1, _, rfl⟩ := args0_get vs 0 i s hi
    simp only [Nat.sub_zero] at h1
    have hi' : i < vs.length := (List.getElem?_eq_some_iff.1 h1).1
    rw [Array.getElem?_append_left (by simpa using hi')]
    simpa [Slot.value] using h1
  · cases e <;> first | exact hq | exact hq.elim
theorem leave0 {fn : Func} {R : Ending → World → Prop} (h : Kr P fn R a w) : LeavesInM (FR none) 0 P fn a.tmps R [] .returning w := h.2
theorem leave1 {fn : Func} {R : Ending → World → Prop} {D : Nat} (hC : Conf n S w0 ρ (μ ++ [markR D]) a w) (hS : w0.heap.size ≤ D) (h : ∀ w', Conf n S w0 ρ μ a w' → Kr P fn R a w') : LeavesInM (FR none) 0 P fn a.tmps R [mark D] .returning w := by
  have hD : w.heap[D]? = some (.deferred (some [])) := hC.at (r := markR D) (by simp)
  refine ⟨by simp, .inl ⟨D, w.putObj D (.deferred none), rfl, run_takeDeferred hD, ?_⟩⟩
  have hfr : Frm (markR D).fp w (w.putObj D (.deferred none)) := ⟨rfl, rfl, rfl, by simp, fun k _ hk => World.putObj_heap_other hk⟩
  have hmem := (List.pairwise_append.1 hC.mem.2)
  refine (h _ ⟨hC.env, ⟨fun r hr => ?_, hmem.1⟩, hC.frm.trans hfr (fun i hi hb => ?_), fun r hr b hb => hC.own r (List.mem_append.2 (.inl hr)) b hb⟩).2
  · refine r.st w _ (hC.at (List.mem_append.2 (.inl hr))) (fun b hb => hfr.block b (r.bd w (hC.at (List.mem_append.2 (.inl hr))) b hb) (fun hbD => ?_))
    have := hmem.2.2 r hr (markR D) (by simp) b
    rcases hb with hb | hb
    · exact this.1 hb (.inl hbD)
    · exact this.2 hb hbD
  · have hb : i = D := hb
    omega

/-! ### The iterator's contract -/
def Iter (P : Program) (gf : FuncId) (lb : Array Value) (xs : List (List Value)) (I : World → Prop) : Prop :=
  ∀ (l : Nat) (J : Nat → World → Prop) (Jx : World → Prop) (W : World),
    (∀ i W1 W2, J i W1 → Frm Nob W1 W2 → J i W2) → (∀ W1 W2, Jx W1 → Frm Nob W1 W2 → Jx W2) → (∀ i W1, J i W1 → I W1) →
    (∀ i (hi : i < xs.length) W1, J i W1 → YieldAt (FR none) 0 P l xs[i].toArray W1 fun e W' => (e = .returned (.bool true) ∧ J (i + 1) W') ∨ (e = .returned (.bool false) ∧ Jx W')) →
    J 0 W → CallsIn (FR none) 0 P gf (#[.func (.yield l) #[] #[]] ++ lb) W fun e W' => (∃ v, e = .returned v) ∧ (J xs.length W' ∨ Jx W')

def pars : List Tmp → List Value → Env → Env
  | t :: ts, v :: vs, ρ => pars ts vs ((t, (none, v)) :: ρ)
  | _, _, ρ => ρ
theorem pars_ok : ∀ (ts : List Tmp) (vs : List Value) (ρ : Env) (tm : Array Value), (∀ t ∈ ts, t < n) → EOk n ρ { tmps := tm, defers := [] } →
    EOk n (pars ts vs ρ) { tmps := (ts.zip vs).foldl (fun tmps (t, v) => tmps.setIfInBounds t v) tm, defers := [] }
  | [], vs, ρ, tm, _, h => by simpa [pars] using h
  | t :: ts, [], ρ, tm, _, h => by simpa [pars] using h
  | t :: ts, v :: vs, ρ, tm, ht, h => by
    have := h.put (ht t (List.mem_cons_self ..)) (none, v)
    exact pars_ok ts vs _ _ (fun u hu => ht u (List.mem_cons_of_mem _ hu)) this
theorem Conf.last {r r' : Res} (h : Conf n S w0 ρ (μ ++ [r]) a w) (hf : Frm r.fp w w') (hr : r'.ok w') (hn : ∀ b, r'.fp b ∨ r'.rp b → r.fp b ∨ w.heap.size ≤ b) : Conf n S w0 ρ (μ ++ [r']) a w' := by
  have h1 : Conf n S w0 ρ (r :: μ) a w := h.perm (List.perm_append_comm.trans (by simp))
  exact (h1.upd hf hr hn).perm ((List.perm_append_comm (l₁ := [r'])).trans (by simp))

/-- **The statement.** -/
theorem WI.range {kn : Kd} {kx : Nat → Kd} {kr : Kd} {X Y Z : Type} {g : Operand} {ps : List Tmp} {assign body : Code} {gf : FuncId} {lb : Array Value} {xs : List (List Value)} {I : World → Prop}
    (μ : Nat → X → List Res) (Q : Nat → X → Prop) (ρ1 : Nat → X → Y → Env) (μ1 : Nat → X → Y → List Res) (μx : Code → Z → List Res) (x0 : X)
    (hC : Conf n S w0 ρ (μ 0 x0) a w) (hQ0 : Q 0 x0) (hg : ev ρ g = some ([], .func (.func gf) #[] lb)) (eg : ∀ (args : Array Value) (w : World), (callFunc gf args).run P w = .ok (.enter gf args) w)
    (hI : Iter P gf lb xs I) (hIμ : ∀ i x W, Mem (μ i x) W → I W) (hps : ∀ v ∈ xs, v.length = ps.length) (hpn : ∀ t ∈ ps, t < n)
    (hassign : ∀ (i : Nat) (x : X) (l : Nat) (S' : Nat → Prop) (W : World) (a : Act) (R : Res) (hi : i < xs.length), Q i x → Conf n S' W (pars ps xs[i] ρ) (μ i x ++ [R]) a W →
      WI (some l) P assign (fun ds a1 W1 => ds = [] ∧ ∃ y, Conf n S' W (ρ1 i x y) (μ1 i x y ++ [R]) a1 W1) (fun _ _ _ _ => False) (fun _ _ _ => False) [] a W)
    (hbody : ∀ (i : Nat) (x : X) (y : Y) (l : Nat) (S' : Nat → Prop) (W W1 : World) (a : Act) (R : Res) (hi : i < xs.length), Q i x → Conf n S' W (ρ1 i x y) (μ1 i x y ++ [R]) a W1 →
      WI (some l) P body (fun ds a1 W2 => ds = [] ∧ ∃ x' ρ', Q (i + 1) x' ∧ Conf n S' W ρ' (μ (i + 1) x' ++ [R]) a1 W2)
        (fun j ds a1 W2 => ds = [] ∧ ∃ z ρ', Conf n S' W ρ' (μx (.exit j) z ++ [R]) a1 W2) (fun ds a1 W2 => ds = [] ∧ ∃ z ρ', Conf n S' W ρ' (μx .ret z ++ [R]) a1 W2) [] a W1)
    (hdone : ∀ (D : Nat) (x : X) (w' : World), w0.heap.size ≤ D → Q xs.length x → Conf n S w0 ρ (μ xs.length x ++ [markR D]) a w' → kn [mark D] a w')
    (hstop : ∀ (D : Nat) (c : Code) (z : Z) (w' : World), w0.heap.size ≤ D → (c = .ret ∨ ∃ j, c = .exit j) → Conf n S w0 ρ (μx c z ++ [markR D]) a w' → WI none P c kn kx kr [mark D] a w') :
    WI none P (.rangeFunc g ps.toArray assign body) kn kx kr [] a w := by
  have hda := hC.env.defers
  have hwa : wd a [] = a := by cases a; simp only at hda; subst hda; rfl
  refine wpIn_rangeFunc ?_
  intro fn hfn
  obtain ⟨rec, hrec⟩ : ∃ rec : LoopState → Option Code → Loop, rec = fun st pe => { state := st, pending := pe, fn, tmps := a.tmps, params := ps.toArray, assign, body, defers := w.heap.size } := ⟨_, rfl⟩
  obtain ⟨W1, hW1⟩ : ∃ W1, (w.alloc (.deferred (some []))).alloc (.loop (rec .ready none)) = W1 := ⟨_, rfl⟩
  have hfA : Frm Nob w (w.alloc (.deferred (some []))) := Frm.alloc _ _
  have hfB : Frm Nob (w.alloc (.deferred (some []))) W1 := by rw [← hW1]; exact Frm.alloc _ _
  have hfW : Frm Nob w W1 := hfA.trans hfB (fun _ _ h => h)
  have hL1 : W1.heap[w.heap.size + 1]? = some (.loop (rec .ready none)) := by
    rw [← hW1]; have := World.alloc_heap_new (w.alloc (.deferred (some []))) (.loop (rec .ready none)); rwa [World.size_alloc] at this
  have hD1 : W1.heap[w.heap.size]? = some (.deferred (some [])) := by
    exact (hfB.block _ (by simp) (fun h => h)).trans (World.alloc_heap_new w _)
  have hsz := hC.frm.size
  obtain ⟨R, hR⟩ : ∃ R : LoopState → Option Code → Res, R = fun st pe => recR (w.heap.size + 1) w.heap.size (rec st pe) := ⟨_, rfl⟩
  have hRfp : ∀ st pe b, (R st pe).fp b ↔ (b = w.heap.size + 1 ∨ b = w.heap.size) := by intro st pe b; rw [hR]; exact Iff.rfl
  have hRrp : ∀ st pe b, ¬ (R st pe).rp b := by intro st pe b; rw [hR]; exact fun h => h
  -- what holds between two rounds
  let St : List Res → World → Prop := fun ν W => Mem ν W ∧ Frm S w0 W ∧ ∀ r ∈ ν, ∀ b, r.fp b → S b ∨ w0.heap.size ≤ b
  have hSt : ∀ ν W W', St ν W → Frm Nob W W' → St ν W' := fun ν W W' h hf => ⟨h.1.grow hf, h.2.1.trans hf (fun _ _ h => h.elim), h.2.2⟩
  -- a turn of the record
  have turn : ∀ {N : Nat} {S' : Nat → Prop} {V : World} {ρ' : Env} {ν : List Res} {st : LoopState} {pe : Option Code} (st' : LoopState) (pe' : Option Code) {a' : Act} {W : World}, Conf N S' V ρ' (ν ++ [R st pe]) a' W →
      Conf N S' V ρ' (ν ++ [R st' pe']) a' (W.putObj (w.heap.size + 1) (.loop (rec st' pe'))) := by
    intro N S' V ρ' ν st pe st' pe' a' W h
    have hok : (R st pe).ok W := h.at (by simp)
    rw [hR] at hok
    have hlt : w.heap.size + 1 < W.heap.size := (Array.getElem?_eq_some_iff.1 hok.1).1
    refine h.last ⟨rfl, rfl, rfl, by simp, fun k _ hk => World.putObj_heap_other (fun e => hk ((hRfp _ _ _).2 (.inl e)))⟩ ?_ (fun b hb => .inl ?_)
    · rw [hR]
      exact ⟨World.putObj_heap_same hlt, (World.putObj_heap_other (by omega)).trans hok.2⟩
    · rcases hb with hb | hb
      · exact (hRfp _ _ _).2 ((hRfp _ _ _).1 hb)
      · exact absurd hb (hRrp _ _ _)
  -- from one round's state to the loop's
  have back : ∀ {N : Nat} {V : World} {ρ' : Env} {ν ν' : List Res} {st st' : LoopState} {pe pe' : Option Code} {a' : Act} {W : World}, St (ν ++ [R st pe]) V → Conf N (fun b => ∃ r ∈ ν ++ [R st pe], r.fp b) V ρ' (ν' ++ [R st' pe']) a' W → St (ν' ++ [R st' pe']) W := by
    intro N V ρ' ν ν' st st' pe pe' a' W h hc
    refine ⟨hc.mem, h.2.1.trans hc.frm (fun i hi hs => ?_), fun r hr b hb => ?_⟩
    · obtain ⟨r, hr, hb⟩ := hs
      exact (h.2.2 r hr i hb).elim id (fun h' => absurd h' (by omega))
    · rcases hc.own r hr b hb with ⟨s, hs, hb'⟩ | hge
      · exact h.2.2 s hs b hb'
      · exact .inr (Nat.le_trans h.2.1.size hge)
  refine ⟨w.heap.size + 1, [mark w.heap.size], W1, { target := .fn (.func gf) lb, args := #[.func (.yield (w.heap.size + 1)) #[] #[]] }, W1, gf,
    #[.func (.yield (w.heap.size + 1)) #[] #[]] ++ lb, W1, ?_, ?_, ?_, ?_, fun h => (by cases h), ?_⟩
  · rw [← hW1, hrec]; exact run_enterLoop_outer _ _ _ _ _
  · have : (wd a []).eval g = .func (.func gf) #[] lb := by rw [hwa]; exact hC.ev hg All.nil
    simp only [resolve, this]
    simp [go_sem]
  · intro f' hf'; trivial
  · simp [invoke, go_sem, eg]
  · have hstart : St (μ 0 x0 ++ [R .ready none]) W1 := by
      refine ⟨?_, hC.frm.trans hfW (fun _ _ h => h.elim), fun r hr b hb => ?_⟩
      · have h1 : Mem (R .ready none :: μ 0 x0) W1 := by
          refine hC.mem.cons hfW ?_ (fun b hb => ?_) (fun b hb => absurd hb (hRrp _ _ _))
          · rw [hR]; exact ⟨hL1, hD1⟩
          · have := (hRfp _ _ _).1 hb; omega
        exact h1.perm ((List.perm_append_comm (l₁ := [R .ready none])).trans (by simp))
      · rcases List.mem_append.1 hr with hr | hr
        · exact hC.own r hr b hb
        · simp only [List.mem_singleton] at hr
          subst hr
          have := (hRfp _ _ _).1 hb
          exact .inr (by omega)
    refine (hI (w.heap.size + 1) (fun i W => ∃ x, Q i x ∧ St (μ i x ++ [R .ready none]) W) (fun W => ∃ c z, (c = .ret ∨ ∃ j, c = .exit j) ∧ St (μx c z ++ [R .done (some c)]) W) W1
      (fun i A B h hf => by obtain ⟨x, hq, hs⟩ := h; exact ⟨x, hq, hSt _ _ _ hs hf⟩) (fun A B h hf => by obtain ⟨c, z, hc, hs⟩ := h; exact ⟨c, z, hc, hSt _ _ _ hs hf⟩)
      (fun i A h => by obtain ⟨x, hq, hs⟩ := h; exact hIμ i x A hs.1.app_left) ?_ ⟨x0, hQ0, hstart⟩).mono ?_
    · -- one round
      rintro i hi W ⟨x, hq, hs⟩
      have hok : (R .ready none).ok W := hs.1.1 _ (by simp)
      rw [hR] at hok
      have hy := run_yield (P := P) (args := xs[i].toArray) hok.1 (by rw [hrec]; simpa using hps _ (List.getElem_mem hi))
      rw [hrec] at hy
      refine ⟨fn, _, assign, body, hy, roundIn_of_wpIn hfn ?_⟩
      have hE : EOk n (pars ps xs[i] ρ) { tmps := (ps.zip xs[i]).foldl (fun tmps (t, v) => tmps.setIfInBounds t v) a.tmps, defers := [] } := pars_ok ps xs[i] ρ a.tmps hpn ⟨rfl, hC.env.size, hC.env.vals⟩
      have hCr : Conf n (fun b => ∃ r ∈ μ i x ++ [R .ready none], r.fp b) W (pars ps xs[i] ρ) (μ i x ++ [R .ready none]) { tmps := (ps.zip xs[i]).foldl (fun tmps (t, v) => tmps.setIfInBounds t v) a.tmps, defers := [] } W :=
        ⟨hE, hs.1, Frm.refl _ _, fun r hr b hb => .inl ⟨r, hr, hb⟩⟩
      have hfold : (ps.toArray.zip xs[i].toArray).foldl (fun tmps (x : Tmp × Value) => tmps.setIfInBounds x.1 x.2) a.tmps = (ps.zip xs[i]).foldl (fun tmps (x : Tmp × Value) => tmps.setIfInBounds x.1 x.2) a.tmps := by
        rw [List.zip_toArray, List.foldl_toArray]
      have hA := hassign i x (w.heap.size + 1) _ W _ (R .ready none) hi hq hCr
      dsimp only at hA ⊢
      rw [hfold]
      refine wpIn_mono hA (fun e a3 W3 he => ?_)
      cases e with
      | normal =>
        obtain ⟨hds, y, hc3⟩ := he
        have hok3 : (R .ready none).ok W3 := hc3.at (by simp)
        rw [hR] at hok3
        have hc4 := turn .busy none hc3
        refine ⟨_, run_beginRound hok3.1 (by rw [hrec]), ?_⟩
        have ew : ({ rec .ready none with state := .busy } : Loop) = rec .busy none := by rw [hrec]
        rw [ew]
        have hB := hbody i x y (w.heap.size + 1) _ W _ _ (R .busy none) hi hq hc4
        have ea : wd (wd a3 []) [] = a3 := by cases a3; simp only at hds; subst hds; rfl
        have hB' := hB
        unfold WI at hB'
        rw [ea] at hB'
        refine wpIn_mono hB' (fun e a5 W5 he => ?_)
        have fin : ∀ (jump : Option Code) {ν : List Res} {ρ5 : Env}, Conf n (fun b => ∃ r ∈ μ i x ++ [R .ready none], r.fp b) W ρ5 (ν ++ [R .busy none]) (wd a5 []) W5 →
            ∃ W6, (Instr.endRound (w.heap.size + 1) jump).run P W5 = .ok (.bool jump.isNone) W6 ∧ St (ν ++ [R (if jump.isNone then .ready else .done) jump]) W6 := fun jump ν ρ5 hc5 => by
          have hok5 : (R .busy none).ok W5 := hc5.at (by simp)
          rw [hR] at hok5
          have hr := run_endRound (P := P) jump hok5.1
          have ew : ({ rec .busy none with state := if jump.isNone then .ready else .done, pending := jump } : Loop) = rec (if jump.isNone then .ready else .done) jump := by rw [hrec]
          rw [ew] at hr
          exact ⟨_, hr, back hs (turn _ _ hc5)⟩
        cases e with
        | normal =>
          obtain ⟨hds5, x', ρ5, hq', hc5⟩ := he
          obtain ⟨W6, hr, hs6⟩ := fin none hc5
          exact ⟨_, _, hr, .inl ⟨rfl, x', hq', hs6⟩⟩
        | ret =>
          obtain ⟨hds5, z, ρ5, hc5⟩ := he
          obtain ⟨W6, hr, hs6⟩ := fin (some .ret) hc5
          exact ⟨_, _, hr, .inr ⟨rfl, .ret, z, .inl rfl, hs6⟩⟩
        | exit j =>
          obtain ⟨hds5, z, ρ5, hc5⟩ := he
          obtain ⟨W6, hr, hs6⟩ := fin (some (.exit j)) hc5
          exact ⟨_, _, hr, .inr ⟨rfl, .exit j, z, .inr ⟨j, rfl⟩, hs6⟩⟩
        | goto t => exact he.elim
        | panic ch => exact he.elim
        | outgrown => exact he.elim
      | ret => exact he.elim
      | exit j => exact he.elim
      | goto t => exact he.elim
      | panic ch => exact he.elim
      | outgrown => exact he.elim
    · -- behind the iterator
      have fin : ∀ {ν : List Res} {st : LoopState} {pe : Option Code} {W2 : World}, st ≠ .busy → St (ν ++ [R st pe]) W2 → ∃ W3, (Instr.endLoop (w.heap.size + 1)).run P W2 = .ok pe W3 ∧ Conf n S w0 ρ (ν ++ [markR w.heap.size]) a W3 := by
        intro ν st pe W2 hst hs
        have hok : (R st pe).ok W2 := hs.1.1 _ (by simp)
        rw [hR] at hok
        have hr := run_endLoop (P := P) hok.1 (by rw [hrec]; exact hst)
        have ep : (rec st pe).pending = pe := by rw [hrec]
        rw [ep] at hr
        refine ⟨_, hr, ?_⟩
        have hc : Conf n S w0 ρ (ν ++ [R st pe]) a W2 := ⟨hC.env, hs.1, hs.2.1, hs.2.2⟩
        refine hc.last ⟨rfl, rfl, rfl, by simp, fun k _ hk => World.putObj_heap_other (fun e => hk ((hRfp _ _ _).2 (.inl e)))⟩ ?_ (fun b hb => .inl ?_)
        · exact (World.putObj_heap_other (by omega)).trans hok.2
        · rcases hb with hb | hb
          · exact (hRfp _ _ _).2 (.inr hb)
          · exact hb.elim
      rintro e W2 ⟨⟨v, rfl⟩, ⟨x, hq, hs⟩ | ⟨c, z, hc, hs⟩⟩
      · obtain ⟨W3, hr, hc3⟩ := fin (by simp) hs
        refine ⟨none, W3, hr, ?_⟩
        show kn _ (wd _ []) W3
        have := hdone w.heap.size x W3 hsz hq hc3
        have e1 : wd ({ wd a [] with defers := [mark w.heap.size] ++ (wd a []).defers } : Act) [] = a := by
          cases a; simp only at hda; subst hda; rfl
        rw [e1]
        exact this
      · obtain ⟨W3, hr, hc3⟩ := fin (by simp) hs
        refine ⟨some c, W3, hr, ?_⟩
        exact hstop w.heap.size c z W3 hsz hc hc3
end
end Go.Proofs.E
