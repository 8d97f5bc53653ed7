/- Memory that is written: stores, new variables, literals of slices, append; the rest of what only computes. -/
import Derived.Test.YtgekiiildobfkabE3
import Derived.Great.BuildSlice
import Derived.Laws.StructEq
set_option linter.unusedVariables false
set_option linter.unusedSimpArgs false
set_option linter.unusedSectionVars false
namespace Go.Proofs.E
open Go.RowKit

/-- A value's cells. -/
def cellsL : Value → List Value
  | .agg cs => cs.toList
  | v => [v]
theorem cellsL_eq (v : Value) : v.cells.toList = cellsL v := by cases v <;> rfl
def oneAll : List Value → Bool
  | [] => true
  | v :: r => match v with | .agg _ | .tuple _ => false | _ => oneAll r
theorem oneAll_spec : ∀ {l : List Value}, oneAll l = true → ∀ u ∈ l, u.oneCell' = true
  | [], _, u, h => by cases h
  | v :: r, h, u, hu => by
    have h1 : v.oneCell' = true ∧ oneAll r = true := by cases v <;> simp_all [oneAll, Value.oneCell']
    rcases List.mem_cons.1 hu with rfl | hu
    · exact h1.1
    · exact oneAll_spec h1.2 u hu

/-- Cells written over. -/
def over (vs : List Value) (off : Nat) (us : List Value) : List Value := vs.take off ++ us ++ vs.drop (off + us.length)

section
variable {P : Program} {ops : Array Oper} {o : Oper} {rest : List Oper} {K : Kn} {a : Act} {w : World} {n : Nat} {S : Nat → Prop} {w0 : World} {ρ : Env} {μ : List Res} {G : Option Bool}

theorem run_st {t : TypeId} {b off m : Nat} {v : Value} {cur : Array Value} {ty : TypeId} (hg : w.heap[b]? = some (.cells cur ty (0, 0))) (hS : ∀ w, (sizeOf t).run P w = .ok m w) (hl : (cellsL v).length = m) (hfit : off + m ≤ cur.size) (h1 : ∀ u ∈ cellsL v, u.oneCell' = true) :
    (Instr.storeAt t (.pointer (some ⟨b, off, none⟩)) v).run P w = .ok () (w.setRow b (over cur.toList off (cellsL v)).toArray) := by
  have hst := run_storeCells_at (P := P) b off ty (cellsL v) 0 cur w hg (by rw [hl]; simpa using hfit) h1
  have hc : v.cells.size = m := by rw [← hl, ← cellsL_eq]; simp
  simp only [Instr.storeAt, Instr.sureAddr, storeVar, Sem.run_bind, Sem.run_pure, Result.andThen_ok, hS, hc]
  rw [if_neg (by simp), cellsL_eq]
  simpa [over] using hst
theorem frm_setRow (b : Nat) (cs : Array Value) : Frm (fun k => k = b) w (w.setRow b cs) :=
  ⟨rfl, rfl, rfl, by simp [World.setRow], fun k _ hk => setRow_other w b k cs hk, Nat.le_refl _⟩

/-- A store into a block that is known whole (the first piece). -/
theorem L.st {b off : Nat} {vs : List Value} {ty : TypeId} (hC : Conf n S w0 ρ (blkR b vs ty :: μ) a w) (hg : o.guard = none) {t : TypeId} {x y : Operand} (ho : o.op = .store t x y) (hx : ev ρ x = some ([], .pointer (some ⟨b, off, none⟩)))
    {v : Value} (hy : ev ρ y = some ([], v)) {m : Nat} (hS : ∀ w, (sizeOf t).run P w = .ok m w) {us : List Value} (hu : cellsL v = us) (hl : Nat.beq us.length m = true) (h1 : oneAll us = true) (hfit : Nat.ble (off + us.length) vs.length = true) (hd : o.dst = none)
    (k : ∀ a w', FrmF (blkR b vs ty :: μ) (blkR b (over vs off us) ty :: μ) w w' → Conf n S w0 ρ (blkR b (over vs off us) ty :: μ) a w' → L P ops rest K a w') : L P ops (o :: rest) K a w := by
  subst hu
  have hl := Nat.eq_of_beq_eq_true hl
  have hfit := Nat.le_of_ble_eq_true hfit
  have hr := run_st (P := P) (w := w) (hC.at m0) hS hl (off := off) (by simpa [hl] using hfit) (oneAll_spec h1)
  refine L.effect (by unfold Region.wanted; rw [hg]) (w' := w.setRow b (over vs off (cellsL v)).toArray) ?_ ?_
  · unfold execOp
    simp only [ho, hC.ev hx All.nil, hC.ev hy All.nil, Sem.run_bind, hr, Result.andThen_ok, Sem.run_pure]
  · rw [hd]
    exact k _ _ (FrmF.upd (frm_setRow b _) (fun c hc => .inl (hc.resolve_right (fun h => h)))) (hC.upd (frm_setRow b _) (setRow_heap w b _ _ _ _ (hC.at m0)) (fun c hc => .inl (hc.resolve_right (fun h => h))))

/-- A new variable. -/
theorem Conf.new (hC : Conf n S w0 ρ μ a w) (cs : List Value) (ty : TypeId) : Conf n S w0 ρ (blkR w.heap.size cs ty :: μ) a (w.alloc (.cells cs.toArray ty)) :=
  hC.cons (Frm.alloc _ _) (heap_alloc_new w _) (fun b hb => by have : b = w.heap.size := hb; omega) (fun b hb => hb.elim)
theorem L.box (hC : Conf n S w0 ρ μ a w) (hg : o.guard = none) {t : TypeId} {x : Operand} (ho : o.op = .box t x) {v : Value} (hx : ev ρ x = some ([], v)) {us : List Value} (hu : cellsL v = us) {d : Nat} (hd : o.dst = some d) (hn : Nat.blt d n = true)
    (k : ∀ b a w', Frm Nob w w' → Conf n S w0 ((d, (none, .pointer (some ⟨b, 0, none⟩))) :: ρ) (blkR b us t :: μ) a w' → L P ops rest K a w') : L P ops (o :: rest) K a w := by
  subst hu
  refine L.value (by unfold Region.wanted; rw [hg]) (v := .pointer (some ⟨w.heap.size, 0, none⟩)) (w' := w.alloc (.cells (cellsL v).toArray t)) ?_ ?_
  · unfold execOp
    simp [ho, hC.ev hx All.nil, Instr.box, newVar, newRow, ← cellsL_eq]
  · rw [hd]
    have hC' := hC.new (cellsL v) t
    exact k _ _ _ (Frm.alloc _ _) ⟨hC'.env.slot hn (none, _) rfl, hC'.mem, hC'.frm, hC'.own⟩
theorem L.alloc (hC : Conf n S w0 ρ μ a w) (hg : o.guard = none) {t : TypeId} (ho : o.op = .alloc t) {v : Value} (hz : ∀ w, (zeroValue t).run P w = .ok v w) {us : List Value} (hu : cellsL v = us) {d : Nat} (hd : o.dst = some d) (hn : Nat.blt d n = true)
    (k : ∀ b a w', Frm Nob w w' → Conf n S w0 ((d, (none, .pointer (some ⟨b, 0, none⟩))) :: ρ) (blkR b us t :: μ) a w' → L P ops rest K a w') : L P ops (o :: rest) K a w := by
  subst hu
  refine L.value (by unfold Region.wanted; rw [hg]) (v := .pointer (some ⟨w.heap.size, 0, none⟩)) (w' := w.alloc (.cells (cellsL v).toArray t)) ?_ ?_
  · unfold execOp
    simp [ho, Instr.alloc, hz, newVar, newRow, ← cellsL_eq]
  · rw [hd]
    have hC' := hC.new (cellsL v) t
    exact k _ _ _ (Frm.alloc _ _) ⟨hC'.env.slot hn (none, _) rfl, hC'.mem, hC'.frm, hC'.own⟩

/-! ### append -/
theorem info_parts' {e : TypeId} {z : Value} {m bytes : Nat} (h : (P.info? e).map (fun i => (i.zero, i.size, i.bytes)) = some (some z, m, bytes)) : ∃ i, P.info? e = some i ∧ i.zero = some z ∧ i.size = m ∧ i.bytes = bytes := by
  cases hi : P.info? e with
  | none => simp [hi] at h
  | some i => simp [hi] at h; exact ⟨i, rfl, h.1, h.2.1, h.2.2⟩
/-- An append draws no fewer. -/
theorem append_drawn (w : World) (base : Nat) (t ty e : TypeId) (i : TypeInfo) (z : Value) (size bytes : Nat) (ht : P.underlying t = some (.slice e)) (hi : P.info? e = some i) (hz : i.zero = some z)
    (hsize : i.size = size) (hby : i.bytes = bytes) (hzs : z.cells.size = size)
    (v : Value) (n : Nat) (xs : List Value) (hown : w.ownsRow base e size v n xs)
    (a : Addr) (m c : Nat) (news : List Value) (hl : news.length = m * size) (hnews : ∀ j u, news[j]? = some u → w.cell? (a.add j) = some u) (h1 : ∀ u ∈ news, u.oneCell' = true)
    (h63 : n + m ≤ maxLen) (hbytes : (n + m) * bytes ≤ 140737488355328) {v' : Value} {w' : World}
    (hr : (Builtin.append_ #[t, t] ty #[v, .slice (some a) m c]).run P w = .ok v' w') : w.drawn ≤ w'.drawn := by
  subst hsize
  subst hby
  have hsmall : n + m ≤ 9223372036854775807 := by simp only [maxLen] at h63; omega
  rcases hown.2 with ⟨rfl, rfl⟩ | ⟨g, cap, cur, rfl, hbg, hg, hnc, hcm, hcs, htake⟩
  · have hx : xs = [] := List.eq_nil_of_length_eq_zero (by simpa using hown.1)
    subst hx
    by_cases hm : m = 0
    · subst hm
      have hn : news = [] := List.eq_nil_of_length_eq_zero (by simpa using hl)
      subst hn
      simp [Builtin.append_, run_underlying ht, Go.sizeOf, typeInfo, hi, Builtin.lenOf, Builtin.firstCells, loadCells, loadCellsFrom] at hr
      rw [hr.2]; exact Nat.le_refl _
    · rw [run_append_nil (P := P) w t ty e i z ht hi hz a m c news hl hnews (by omega) (by omega) (by have hb := hbytes; simp only [Nat.zero_add] at hb; omega)] at hr
      cases hr
      exact Nat.le_succ _
  · by_cases hroom : n + m ≤ cap
    · have hfit : n * i.size + news.length ≤ cur.size := by rw [hl, hcs, ← Nat.add_mul]; exact Nat.mul_le_mul_right _ hroom
      rw [run_append_room (P := P) w t ty e i ht hi g n cap cur hg a m c news hl hnews h1 hroom hfit] at hr
      cases hr
      exact Nat.le_refl _
    · have holds : ∀ j u, xs[j]? = some u → w.cell? ((⟨g, 0, none⟩ : Addr).add j) = some u := hown.cells (g := g) rfl
      rw [run_append_grow (P := P) w t ty e i z ht hi hz ⟨g, 0, none⟩ n cap xs hown.1 holds a m c news hl hnews (by omega) (by omega) (growslice_fits (by omega) hbytes)] at hr
      cases hr
      exact Nat.le_succ _
/-- 'append(v, xs..)', v of the call's own: what is appended lies in a block that is known. -/
theorem L.app {α : Type _} {v : Value} {ty : TypeId} {E : Enc α} {l xs : List α} (hC : Conf n S w0 ρ (ownR v ty E l :: μ) a w) (hg : o.guard = none) {t : TypeId} {x y : Operand}
    (ho : o.op = .call { callee := .builtin .append, args := #[x, y], argTypes := #[t, t] }) (hx : ev ρ x = some ([], v)) {u : Value} (hy : ev ρ y = some ([], u))
    (hm : ∃ q c, u = .slice (some q) xs.length c ∧ ∀ j r, (E.flat xs)[j]? = some r → w.cell? (q.add j) = some r)
    (hu : P.underlying t = some (.slice ty)) {z : Value} {bytes : Nat} (hi : (P.info? ty).map (fun i => (i.zero, i.size, i.bytes)) = some (some z, E.sz, bytes)) (hz : z.cells.size = E.sz)
    (hroom : (l.length + xs.length) * bytes ≤ 140737488355328) (hlen : l.length + xs.length ≤ 9223372036854775807) {d : Nat} (hd : o.dst = some d) (hn : Nat.blt d n = true)
    (k : ∀ v' a w', FrmF (ownR v ty E l :: μ) (ownR v' ty E (l ++ xs) :: μ) w w' → Conf n S w0 ((d, (none, v')) :: ρ) (ownR v' ty E (l ++ xs) :: μ) a w' → L P ops rest K a w') : L P ops (o :: rest) K a w := by
  obtain ⟨i, h1, h2, h3, h4⟩ := info_parts' hi
  obtain ⟨q, c, rfl, hcell⟩ := hm
  obtain ⟨v', w', hr, ho', hgr, _, hat⟩ := run_append_own_at (P := P) w 0 t o.type ty i z E.sz bytes hu h1 h2 h3 h4 hz E.pos v l.length (E.flat l) (hC.at m0) q xs.length c (E.flat xs) (E.flat_length xs) hcell (E.flat_one_cell xs) (by simpa [maxLen] using hlen) hroom (Nat.zero_le _)
  refine L.value (by unfold Region.wanted; rw [hg]) (v := v') (w' := w') ?_ ?_
  · unfold execOp
    simp [ho, resolve, invoke, builtin, hC.ev hx All.nil, hC.ev hy All.nil, hr]
  · rw [hd]
    have hf : Frm (ownR v ty E l).fp w w' := Frm.grown hgr (append_drawn w 0 t o.type ty i z E.sz bytes hu h1 h2 h3 h4 hz v l.length (E.flat l) (hC.at m0) q xs.length c (E.flat xs) (E.flat_length xs) hcell (E.flat_one_cell xs) (by simpa [maxLen] using hlen) hroom hr)
    have hn' : ∀ b, (ownR v' ty E (l ++ xs)).fp b ∨ (ownR v' ty E (l ++ xs)).rp b → (ownR v ty E l).fp b ∨ w.heap.size ≤ b := fun b hb => by
      rcases hb with hb | hb
      · rcases hat with hat | hat
        · left
          show v.ownBlock = some b
          rw [← hat]; exact hb
        · right
          have hb : v'.ownBlock = some b := hb
          rw [hat] at hb
          simp only [Option.some.injEq] at hb
          omega
      · exact hb.elim
    have hC' := hC.upd (r' := ownR v' ty E (l ++ xs)) hf (by
        show w'.ownsRow 0 ty E.sz v' (l ++ xs).length (E.flat (l ++ xs))
        rw [List.length_append, E.flat_app]; exact ho') hn'
    exact k _ _ _ (FrmF.upd hf hn') ⟨hC'.env.slot hn (none, v') rfl, hC'.mem, hC'.frm, hC'.own⟩
/-- A slice literal, as cells. -/
theorem L.bs (hC : Conf n S w0 ρ μ a w) (hg : o.guard = none) {t e : TypeId} {len : Nat} {parts : Array (Nat × Operand)} (ho : o.op = .buildSlice t len parts) {vs : List Value} (hx : evs ρ (parts.toList.map (·.2)) = some ([], vs))
    (hu : P.underlying t = some (.slice e)) {z : Value} {m bytes : Nat} (hi : (P.info? e).map (fun i => (i.zero, i.size, i.bytes)) = some (some z, m, bytes)) (hm : Nat.blt 0 m = true) (hl : Nat.blt 0 len = true) (hs : Nat.ble (len * m) 1000 = true)
    {cells : List Value} (hf : Instr.fill (fun i => some (i * m, m)) ((Array.range (len * m)).map (z.cells[· % z.cells.size]!)) ((parts.toList.map (·.1)).zip vs) = some cells.toArray) {d : Nat} (hd : o.dst = some d) (hn : Nat.blt d n = true)
    (k : ∀ b a w', Frm Nob w w' → Conf n S w0 ((d, (none, .slice (some ⟨b, 0, none⟩) len len)) :: ρ) (blkR b cells e :: μ) a w' → L P ops rest K a w') : L P ops (o :: rest) K a w := by
  obtain ⟨i, h1, h2, h3, h4⟩ := info_parts' hi
  subst h3
  have hm : 0 < i.size := by simpa [Nat.blt_eq] using hm
  have hl : 0 < len := by simpa [Nat.blt_eq] using hl
  have hs := Nat.le_of_ble_eq_true hs
  have hpos : ¬ len * i.size = 0 := by have := Nat.mul_pos hl hm; omega
  have ee := evs_eval hC.env hx All.nil
  have hp : (parts.map fun p => (p.1, a.eval p.2)).toList = (parts.toList.map (·.1)).zip vs := by
    rw [← ee, Array.toList_map]
    generalize parts.toList = q
    induction q with
    | nil => rfl
    | cons p q ih => simp [ih]
  have hr := run_buildSlice (P := P) w t e len (parts.map fun p => (p.1, a.eval p.2)) cells.toArray i z hu h1 h2 (by omega) hpos (by rw [hp]; exact hf)
  refine L.value (by unfold Region.wanted; rw [hg]) (v := .slice (some ⟨w.heap.size, 0, none⟩) len len) (w' := w.alloc (.cells cells.toArray e)) ?_ ?_
  · unfold execOp
    simp only [ho, Sem.run_bind, hr, Result.andThen_ok, Sem.run_pure]
  · rw [hd]
    have hC' := hC.new cells e
    exact k _ _ _ (Frm.alloc _ _) ⟨hC'.env.slot hn (none, _) rfl, hC'.mem, hC'.frm, hC'.own⟩

/-! ### the rest of what only computes -/
theorem L.eqb (hC : Conf n S w0 ρ μ a w) (hG : guardOf ρ ops o = some G) {t t' : TypeId} {x y : Operand} (ho : o.op = .binOp .eql t x y t') {cs ds : List Bool} {p q : Bool} (hx : ev ρ x = some (cs, .bool p)) (hy : ev ρ y = some (ds, .bool q)) (hcs : Gt G → All cs) (hds : Gt G → All ds)
    (hu : P.underlying t = some .bool) {d : Nat} (hd : o.dst = some d) (hn : Nat.blt d n = true) (k : ∀ a, Conf n S w0 ((d, (G, .bool (p == q))) :: ρ) μ a w → L P ops rest K a w) : L P ops (o :: rest) K a w := by
  refine L.step hC hG (fun hg => ?_) hd hn k
  unfold execOp
  have h1 : (eqGuard .eql t x y (.bool p) (.bool q)).run P w = .ok () w := by simp [eqGuard]
  have h2 : (binOp .eql t (.bool p) (.bool q)).run P w = .ok (.bool (p == q)) w := by
    have := run_equalIn_bool' (P := P) (w := w) 9999 t p q hu
    simp only [binOp, Op.equal, Op.maxDepth, Sem.run_bind, this, Result.andThen_ok, Sem.run_pure]
  simp only [ho, hC.ev hx (hcs hg), hC.ev hy (hds hg), Sem.run_bind, h1, h2, Result.andThen_ok, Sem.run_pure]
theorem L.neb (hC : Conf n S w0 ρ μ a w) (hG : guardOf ρ ops o = some G) {t t' : TypeId} {x y : Operand} (ho : o.op = .binOp .neq t x y t') {cs ds : List Bool} {p q : Bool} (hx : ev ρ x = some (cs, .bool p)) (hy : ev ρ y = some (ds, .bool q)) (hcs : Gt G → All cs) (hds : Gt G → All ds)
    (hu : P.underlying t = some .bool) {d : Nat} (hd : o.dst = some d) (hn : Nat.blt d n = true) (k : ∀ a, Conf n S w0 ((d, (G, .bool (!(p == q)))) :: ρ) μ a w → L P ops rest K a w) : L P ops (o :: rest) K a w := by
  refine L.step hC hG (fun hg => ?_) hd hn k
  unfold execOp
  have h1 : (eqGuard .neq t x y (.bool p) (.bool q)).run P w = .ok () w := by simp [eqGuard]
  have h2 : (binOp .neq t (.bool p) (.bool q)).run P w = .ok (.bool (!(p == q))) w := by
    have := run_equalIn_bool' (P := P) (w := w) 9999 t p q hu
    simp only [binOp, Op.equal, Op.maxDepth, Sem.run_bind, this, Result.andThen_ok, Sem.run_pure]
  simp only [ho, hC.ev hx (hcs hg), hC.ev hy (hds hg), Sem.run_bind, h1, h2, Result.andThen_ok, Sem.run_pure]
/-- An operation on two integers that are given by an equation on its run (division, shifts, structs compared ..). -/
theorem L.bin (hC : Conf n S w0 ρ μ a w) (hG : guardOf ρ ops o = some G) {op : BinOp} {t t' : TypeId} {x y : Operand} (ho : o.op = .binOp op t x y t') {cs ds : List Bool} {p q r : Value} (hx : ev ρ x = some (cs, p)) (hy : ev ρ y = some (ds, q)) (hcs : Gt G → All cs) (hds : Gt G → All ds)
    (hr : Gt G → ((eqGuard op t x y p q).run P w).andThen (fun _ w => (binOp op t p q).run P w) = .ok r w) {d : Nat} (hd : o.dst = some d) (hn : Nat.blt d n = true) (k : ∀ a, Conf n S w0 ((d, (G, r)) :: ρ) μ a w → L P ops rest K a w) : L P ops (o :: rest) K a w := by
  refine L.step hC hG (fun hg => ?_) hd hn k
  have := hr hg
  unfold execOp
  simp only [ho, hC.ev hx (hcs hg), hC.ev hy (hds hg), Sem.run_bind, this, Result.andThen_ok, Sem.run_pure]
theorem L.conv (hC : Conf n S w0 ρ μ a w) (hG : guardOf ρ ops o = some G) {s t : TypeId} {x : Operand} (ho : o.op = .convert s t x) {cs : List Bool} {k' k'' kk : IntKind} {i : Int} (hx : ev ρ x = some (cs, .int k' i)) (hcs : Gt G → All cs)
    (hs : P.underlying s = some (.int k'')) (hu : P.underlying t = some (.int kk)) {d : Nat} (hd : o.dst = some d) (hn : Nat.blt d n = true) (k : ∀ a, Conf n S w0 ((d, (G, .int kk (kk.wrap i))) :: ρ) μ a w → L P ops rest K a w) : L P ops (o :: rest) K a w := by
  refine L.step hC hG (fun hg => ?_) hd hn k
  unfold execOp
  simp [ho, hC.ev hx (hcs hg), convert, run_underlying hs, run_underlying hu, Conv.intToInt]
def imin (x y : Int) : Int := if y < x then y else x
def imax (x y : Int) : Int := if x < y then y else x
theorem L.min2 (hC : Conf n S w0 ρ μ a w) (hG : guardOf ρ ops o = some G) {x y : Operand} {ts : Array TypeId} (ho : o.op = .call { callee := .builtin .min, args := #[x, y], argTypes := ts }) {cs ds : List Bool} {kk k2 : IntKind} {i j : Int} (hx : ev ρ x = some (cs, .int kk i)) (hy : ev ρ y = some (ds, .int k2 j)) (hcs : Gt G → All cs) (hds : Gt G → All ds)
    {d : Nat} (hd : o.dst = some d) (hn : Nat.blt d n = true) (k : ∀ a, Conf n S w0 ((d, (G, .int kk (imin i j))) :: ρ) μ a w → L P ops rest K a w) : L P ops (o :: rest) K a w := by
  refine L.step hC hG (fun hg => ?_) hd hn k
  unfold execOp
  simp [ho, resolve, invoke, builtin, Builtin.min_, Builtin.min2, hC.ev hx (hcs hg), hC.ev hy (hds hg), imin]
theorem L.max2 (hC : Conf n S w0 ρ μ a w) (hG : guardOf ρ ops o = some G) {x y : Operand} {ts : Array TypeId} (ho : o.op = .call { callee := .builtin .max, args := #[x, y], argTypes := ts }) {cs ds : List Bool} {kk k2 : IntKind} {i j : Int} (hx : ev ρ x = some (cs, .int kk i)) (hy : ev ρ y = some (ds, .int k2 j)) (hcs : Gt G → All cs) (hds : Gt G → All ds)
    {d : Nat} (hd : o.dst = some d) (hn : Nat.blt d n = true) (k : ∀ a, Conf n S w0 ((d, (G, .int kk (imax i j))) :: ρ) μ a w → L P ops rest K a w) : L P ops (o :: rest) K a w := by
  refine L.step hC hG (fun hg => ?_) hd hn k
  unfold execOp
  simp [ho, resolve, invoke, builtin, Builtin.max_, Builtin.max2, hC.ev hx (hcs hg), hC.ev hy (hds hg), imax]
/-- A struct out of its parts. -/
theorem L.build (hC : Conf n S w0 ρ μ a w) (hG : guardOf ρ ops o = some G) {t : TypeId} {parts : Array (Nat × Operand)} (ho : o.op = .build t parts) {cs : List Bool} {vs : List Value} (hx : evs ρ (parts.toList.map (·.2)) = some (cs, vs)) (hcs : Gt G → All cs)
    {cells : List Value} (hf : ∀ w, (Instr.build t ((parts.toList.map (·.1)).zip vs).toArray).run P w = .ok (.agg cells.toArray) w) {d : Nat} (hd : o.dst = some d) (hn : Nat.blt d n = true)
    (k : ∀ a, Conf n S w0 ((d, (G, .agg cells.toArray)) :: ρ) μ a w → L P ops rest K a w) : L P ops (o :: rest) K a w := by
  refine L.step hC hG (fun hg => ?_) hd hn k
  have e := evs_eval hC.env hx (hcs hg)
  have hp : (parts.map fun p => (p.1, a.eval p.2)) = ((parts.toList.map (·.1)).zip vs).toArray := by
    rw [← e]
    apply Array.toList_inj.1
    rw [Array.toList_map]
    generalize parts.toList = q
    induction q with
    | nil => rfl
    | cons p q ih => simp at ih ⊢; exact ih
  unfold execOp
  simp only [ho, Sem.run_bind, hp, hf, Result.andThen_ok, Sem.run_pure]
end
end Go.Proofs.E
