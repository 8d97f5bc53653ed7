/- Memory: blocks that are known whole, slices that are read, slices that are owned; loads, stores, new blocks. -/
import Derived.Test.YtgekiiildobfkabE2
set_option linter.unusedVariables false
set_option linter.unusedSimpArgs false
set_option linter.unusedSectionVars false
namespace Go.Proofs.E
open Go.RowKit

theorem add_plain' (b o j : Nat) : (⟨b, o, none⟩ : Addr).add j = ⟨b, o + j, none⟩ := by unfold Addr.add; split <;> simp_all

/-- How an element stands in its cells. -/
structure Enc (α : Type _) where
  sz : Nat
  enc : α → List Value
  len : ∀ x, (enc x).length = sz
  one : ∀ x, ∀ u ∈ enc x, u.oneCell' = true
  pos : 0 < sz
def Enc.flat {α : Type _} (E : Enc α) (l : List α) : List Value := l.flatMap E.enc
theorem Enc.flat_length {α : Type _} (E : Enc α) (l : List α) : (E.flat l).length = l.length * E.sz := by
  induction l with
  | nil => simp [Enc.flat]
  | cons x l ih =>
    simp only [Enc.flat, List.flatMap_cons, List.length_append, List.length_cons, E.len] at ih ⊢
    rw [ih, Nat.add_mul]; omega
theorem Enc.flat_app {α : Type _} (E : Enc α) (l m : List α) : E.flat (l ++ m) = E.flat l ++ E.flat m := by simp [Enc.flat]
theorem Enc.flat_one {α : Type _} (E : Enc α) (x : α) : E.flat [x] = E.enc x := by simp [Enc.flat]
theorem Enc.flat_at {α : Type _} (E : Enc α) : ∀ (l : List α) (j o : Nat) (h : j < l.length), o < E.sz → (E.flat l)[j * E.sz + o]? = (E.enc l[j])[o]?
  | [], j, o, h, _ => by simp at h
  | x :: l, 0, o, h, ho => by
    simp only [Enc.flat, List.flatMap_cons, Nat.zero_mul, Nat.zero_add, List.getElem_cons_zero]
    rw [List.getElem?_append_left (by rw [E.len]; exact ho)]
  | x :: l, j + 1, o, h, ho => by
    have ih := Enc.flat_at E l j o (by simpa using h) ho
    simp only [Enc.flat, List.flatMap_cons, List.getElem_cons_succ] at ih ⊢
    rw [List.getElem?_append_right (by rw [E.len, Nat.add_mul]; omega), E.len]
    rw [← ih]
    congr 1
    rw [Nat.add_mul]; omega
theorem Enc.flat_one_cell {α : Type _} (E : Enc α) (l : List α) : ∀ u ∈ E.flat l, u.oneCell' = true := by
  intro u hu
  simp only [Enc.flat, List.mem_flatMap] at hu
  obtain ⟨x, _, hx⟩ := hu
  exact E.one x u hx

/-- A block that is known whole. -/
def blkR (b : Nat) (vs : List Value) (ty : TypeId) : Res where
  fp := fun k => k = b
  rp := Nob
  ok w := w.heap[b]? = some (.cells vs.toArray ty (0, 0))
  st := fun w w' h hs => (hs b (.inl rfl)).trans h
  bd := fun w h k hk => by
    rcases hk with rfl | hk
    · exact (Array.getElem?_eq_some_iff.1 h).1
    · exact hk.elim

/-- A slice that is read. -/
def rdR {α : Type _} (v : Value) (E : Enc α) (l : List α) : Res where
  fp := Nob
  rp := fun b => l ≠ [] ∧ ∃ a n c, v = .slice (some a) n c ∧ a.block = b
  ok w := ∃ A c, v = .slice A l.length c ∧ (l.length ≤ 9223372036854775807 ∧ l.length ≤ c) ∧ (l ≠ [] → ∃ a, A = some a ∧ a.block < w.heap.size ∧ ∀ j u, (E.flat l)[j]? = some u → w.cell? (a.add j) = some u)
  st := by
    rintro w w' ⟨A, c, rfl, hm, h⟩ hs
    refine ⟨A, c, rfl, hm, fun hl => ?_⟩
    obtain ⟨a, rfl, hb, hc⟩ := h hl
    have hsame := hs a.block (.inr ⟨hl, a, _, _, rfl, rfl⟩)
    refine ⟨a, rfl, ?_, fun j u hj => ?_⟩
    · have : a.block < w'.heap.size := by
        rw [Array.getElem?_eq_getElem hb] at hsame
        exact (Array.getElem?_eq_some_iff.1 hsame).1
      exact this
    · have hblk : (a.add j).block = a.block := by unfold Addr.add; split <;> rfl
      rw [World.cell?_of_block (w := w) (by rw [hblk]; exact hsame)]
      exact hc j u hj
  bd := by
    rintro w ⟨A, c, rfl, hm, h⟩ b hb
    rcases hb with hb | ⟨hl, a, n, c', he, rfl⟩
    · exact hb.elim
    · obtain ⟨a', rfl, hb, _⟩ := h hl
      simp only [Value.slice.injEq, Option.some.injEq] at he
      obtain ⟨rfl, _⟩ := he
      exact hb

/-- A slice of the call's own. -/
def ownR {α : Type _} (v : Value) (ty : TypeId) (E : Enc α) (l : List α) : Res where
  fp := fun b => v.ownBlock = some b
  rp := Nob
  ok w := w.ownsRow 0 ty E.sz v l.length (E.flat l)
  st := by
    intro w w' h hs
    refine ⟨h.1, ?_⟩
    rcases h.2 with hn | ⟨g, cap, cur, rfl, hb, hg, rest⟩
    · exact .inl hn
    · exact .inr ⟨g, cap, cur, rfl, hb, (hs g (.inl rfl)).trans hg, rest⟩
  bd := by
    intro w h b hb
    rcases hb with hb | hb
    · exact (h.lt b hb).2
    · exact hb.elim

/-- The address of a slice's element's cell. -/
def ep (v : Value) (j sz o : Nat) : Value :=
  match v with
  | .slice (some a) _ _ => .pointer (some (a.add (j * sz + o)))
  | _ => undef

section
variable {P : Program} {ops : Array Oper} {o : Oper} {rest : List Oper} {K : Kn} {a : Act} {w : World} {n : Nat} {S : Nat → Prop} {w0 : World} {ρ : Env} {μ : List Res} {G : Option Bool}

theorem blk_cell {b : Nat} {vs : List Value} {ty : TypeId} (h : (blkR b vs ty).ok w) (j : Nat) : w.cell? ⟨b, j, none⟩ = vs[j]? := by
  have := cell_of_row w b j _ _ _ h
  simpa using this

/-! ### addresses -/
theorem L.fa (hC : Conf n S w0 ρ μ a w) (hG : guardOf ρ ops o = some G) {s i : Nat} {x : Operand} (ho : o.op = .fieldAddr s x i) {cs : List Bool} {b off : Nat} (hx : ev ρ x = some (cs, .pointer (some ⟨b, off, none⟩))) (hcs : Gt G → All cs)
    {fs : Array Field} (hu : P.underlying s = some (.struct fs)) {f : Field} (hf : fs[i]? = some f) {sz : Nat} (hs : ∀ w, (sizeOf f.type).run P w = .ok sz w) (hz : Nat.beq sz 0 = false) {d : Nat} (hd : o.dst = some d) (hn : Nat.blt d n = true)
    (k : ∀ a, Conf n S w0 ((d, (G, .pointer (some ⟨b, off + f.offset, none⟩))) :: ρ) μ a w → L P ops rest K a w) : L P ops (o :: rest) K a w := by
  refine L.step hC hG (fun hg => ?_) hd hn k
  have hz' : ¬ sz = 0 := fun h => by subst h; simp at hz
  unfold execOp
  simp [ho, hC.ev hx (hcs hg), Instr.fieldAt, run_underlying hu, hf, Instr.sureAddr, fieldPlace, hs, hz', add_plain']
theorem L.fae (hC : Conf n S w0 ρ μ a w) (hG : guardOf ρ ops o = some G) {s i : Nat} {x : Operand} (ho : o.op = .fieldAddr s x i) {cs : List Bool} {v : Value} {j z off : Nat} (hx : ev ρ x = some (cs, ep v j z off)) (hcs : Gt G → All cs)
    {fs : Array Field} (hu : P.underlying s = some (.struct fs)) {f : Field} (hf : fs[i]? = some f) {sz : Nat} (hs : ∀ w, (sizeOf f.type).run P w = .ok sz w) (hz : Nat.beq sz 0 = false) (hp : Gt G → ∃ q m c, v = .slice (some q) m c) {d : Nat} (hd : o.dst = some d) (hn : Nat.blt d n = true)
    (k : ∀ a, Conf n S w0 ((d, (G, ep v j z (off + f.offset))) :: ρ) μ a w → L P ops rest K a w) : L P ops (o :: rest) K a w := by
  refine L.step hC hG (fun hg => ?_) hd hn k
  have hz' : ¬ sz = 0 := fun h => by subst h; simp at hz
  obtain ⟨q, m, c, rfl⟩ := hp hg
  unfold execOp
  have e := hC.ev hx (hcs hg)
  simp only [ep] at e ⊢
  simp [ho, e, Instr.fieldAt, run_underlying hu, hf, Instr.sureAddr, fieldPlace, hs, hz', Addr.add_add, Nat.add_assoc]

theorem rd_form {α : Type _} {v : Value} {E : Enc α} {l : List α} (h : (rdR v E l).ok w) : ∃ A c, v = .slice A l.length c := by
  obtain ⟨A, c, h, _⟩ := h; exact ⟨A, c, h⟩
theorem own_form {α : Type _} {v : Value} {ty : TypeId} {E : Enc α} {l : List α} (h : (ownR v ty E l).ok w) : ∃ A c, v = .slice A l.length c := by
  rcases h.2 with ⟨h1, h2⟩ | ⟨g, cap, cur, h1, _⟩
  · exact ⟨none, 0, by rw [h1, h2]⟩
  · exact ⟨_, cap, h1⟩
theorem rd_some {α : Type _} {v : Value} {E : Enc α} {l : List α} (h : (rdR v E l).ok w) (hl : 0 < l.length) : ∃ q m c, v = .slice (some q) m c := by
  obtain ⟨A, c, rfl, _, h⟩ := h
  obtain ⟨q, rfl, _⟩ := h (by intro e; simp [e] at hl)
  exact ⟨_, _, _, rfl⟩
theorem own_some {α : Type _} {v : Value} {ty : TypeId} {E : Enc α} {l : List α} (h : (ownR v ty E l).ok w) (hl : 0 < l.length) : ∃ q m c, v = .slice (some q) m c := by
  rcases h.2 with ⟨h1, h2⟩ | ⟨g, cap, cur, h1, _⟩
  · omega
  · exact ⟨_, _, _, h1⟩

theorem run_ix {t e : TypeId} {v : Value} {len cap : Nat} {A : Option Addr} (hv : v = .slice A len cap) {k : IntKind} {i : Int} (h0 : 0 ≤ i) (h1 : i < len) (hA : ∃ q m c, v = .slice (some q) m c) (hu : P.underlying t = some (.slice e)) {sz : Nat} (hs : ∀ w, (sizeOf e).run P w = .ok sz w) :
    (Instr.indexAt t v (.int k i)).run P w = .ok (ep v i.toNat sz 0) w := by
  subst hv
  obtain ⟨q, m, c, he⟩ := hA
  simp only [Value.slice.injEq] at he
  obtain ⟨rfl, rfl, rfl⟩ := he
  simp [Instr.indexAt, run_underlying hu, asIntOf, h0, h1, hs, ep]
/-- 'x[i]'s address. -/
theorem L.ixr (hC : Conf n S w0 ρ μ a w) (hG : guardOf ρ ops o = some G) {t e : TypeId} {x ix : Operand} (ho : o.op = .indexAddr t x ix) {α : Type _} {v : Value} {E : Enc α} {l : List α} {cs ds : List Bool} {kk : IntKind} {i : Int}
    (hx : ev ρ x = some (cs, v)) (hi : ev ρ ix = some (ds, .int kk i)) (hm : rdR v E l ∈ μ) (hcs : Gt G → All cs) (hds : Gt G → All ds) (hu : P.underlying t = some (.slice e)) (hs : ∀ w, (sizeOf e).run P w = .ok E.sz w)
    (hb : Gt G → 0 ≤ i ∧ i < (l.length : Int)) {d : Nat} (hd : o.dst = some d) (hn : Nat.blt d n = true)
    (k : ∀ a, Conf n S w0 ((d, (G, ep v i.toNat E.sz 0)) :: ρ) μ a w → L P ops rest K a w) : L P ops (o :: rest) K a w := by
  refine L.step hC hG (fun hg => ?_) hd hn k
  obtain ⟨h0, h1⟩ := hb hg
  have hr := hC.at hm
  obtain ⟨A, c, hv⟩ := rd_form hr
  have := run_ix (P := P) (w := w) hv (k := kk) h0 h1 (rd_some hr (by omega)) hu hs
  unfold execOp
  simp [ho, hC.ev hx (hcs hg), hC.ev hi (hds hg), this]
theorem L.ixo (hC : Conf n S w0 ρ μ a w) (hG : guardOf ρ ops o = some G) {t e : TypeId} {x ix : Operand} (ho : o.op = .indexAddr t x ix) {α : Type _} {v : Value} {ty : TypeId} {E : Enc α} {l : List α} {cs ds : List Bool} {kk : IntKind} {i : Int}
    (hx : ev ρ x = some (cs, v)) (hi : ev ρ ix = some (ds, .int kk i)) (hm : ownR v ty E l ∈ μ) (hcs : Gt G → All cs) (hds : Gt G → All ds) (hu : P.underlying t = some (.slice e)) (hs : ∀ w, (sizeOf e).run P w = .ok E.sz w)
    (hb : Gt G → 0 ≤ i ∧ i < (l.length : Int)) {d : Nat} (hd : o.dst = some d) (hn : Nat.blt d n = true)
    (k : ∀ a, Conf n S w0 ((d, (G, ep v i.toNat E.sz 0)) :: ρ) μ a w → L P ops rest K a w) : L P ops (o :: rest) K a w := by
  refine L.step hC hG (fun hg => ?_) hd hn k
  obtain ⟨h0, h1⟩ := hb hg
  have hr := hC.at hm
  obtain ⟨A, c, hv⟩ := own_form hr
  have := run_ix (P := P) (w := w) hv (k := kk) h0 h1 (own_some hr (by omega)) hu hs
  unfold execOp
  simp [ho, hC.ev hx (hcs hg), hC.ev hi (hds hg), this]

/-! ### loads -/
theorem run_ld {t : TypeId} {p : Addr} {v : Value} (hA : ∀ w, (isAgg t).run P w = .ok false w) (hv : w.cell? p = some v) : (Instr.loadAt t (.pointer (some p))).run P w = .ok v w := by
  simp [Instr.loadAt, Instr.sureAddr, loadVar, hA, hv]
theorem run_lda {t : TypeId} {p : Addr} {us : List Value} (hA : ∀ w, (isAgg t).run P w = .ok true w) (hS : ∀ w, (sizeOf t).run P w = .ok us.length w) (hv : ∀ j v, us[j]? = some v → w.cell? (p.add j) = some v) :
    (Instr.loadAt t (.pointer (some p))).run P w = .ok (.agg us.toArray) w := by
  have := run_loadCells_list (P := P) w p us hv
  simp [Instr.loadAt, Instr.sureAddr, loadVar, hA, hS, this]
theorem L.ld (hC : Conf n S w0 ρ μ a w) (hG : guardOf ρ ops o = some G) {t : TypeId} {x : Operand} (ho : o.op = .load t x) {cs : List Bool} {b off : Nat} (hx : ev ρ x = some (cs, .pointer (some ⟨b, off, none⟩))) (hcs : Gt G → All cs)
    {vs : List Value} {ty : TypeId} (hm : blkR b vs ty ∈ μ) (hA : ∀ w, (isAgg t).run P w = .ok false w) {v : Value} (hv : vs[off]? = some v) {d : Nat} (hd : o.dst = some d) (hn : Nat.blt d n = true)
    (k : ∀ a, Conf n S w0 ((d, (G, v)) :: ρ) μ a w → L P ops rest K a w) : L P ops (o :: rest) K a w := by
  refine L.step hC hG (fun hg => ?_) hd hn k
  have := run_ld (P := P) (w := w) hA (p := ⟨b, off, none⟩) ((blk_cell (hC.at hm) off).trans hv)
  unfold execOp
  simp [ho, hC.ev hx (hcs hg), this]
theorem L.lda (hC : Conf n S w0 ρ μ a w) (hG : guardOf ρ ops o = some G) {t : TypeId} {x : Operand} (ho : o.op = .load t x) {cs : List Bool} {b off : Nat} (hx : ev ρ x = some (cs, .pointer (some ⟨b, off, none⟩))) (hcs : Gt G → All cs)
    {vs : List Value} {ty : TypeId} (hm : blkR b vs ty ∈ μ) (hA : ∀ w, (isAgg t).run P w = .ok true w) {m : Nat} (hS : ∀ w, (sizeOf t).run P w = .ok m w) {us : List Value} (hv : (vs.drop off).take m = us) (hl : Nat.beq us.length m = true) {d : Nat} (hd : o.dst = some d) (hn : Nat.blt d n = true)
    (k : ∀ a, Conf n S w0 ((d, (G, .agg us.toArray)) :: ρ) μ a w → L P ops rest K a w) : L P ops (o :: rest) K a w := by
  refine L.step hC hG (fun hg => ?_) hd hn k
  have hl' := Nat.eq_of_beq_eq_true hl
  have := run_lda (P := P) (w := w) hA (by rw [hl']; exact hS) (p := ⟨b, off, none⟩) (us := us) (fun j v hj => by
    rw [add_plain', blk_cell (hC.at hm)]
    rw [← hv, List.getElem?_take] at hj
    split at hj
    · rw [List.getElem?_drop] at hj; exact hj
    · cases hj)
  unfold execOp
  simp [ho, hC.ev hx (hcs hg), this]

theorem ep_cells {α : Type _} {v : Value} {E : Enc α} {l : List α} {A : Option Addr} {cap : Nat} (hv : v = .slice A l.length cap) (hc : ∃ q, A = some q ∧ ∀ j u, (E.flat l)[j]? = some u → w.cell? (q.add j) = some u) {j : Nat} (hj : j < l.length) (off : Nat) :
    ∃ q, ep v j E.sz off = .pointer (some q) ∧ ∀ i u, off + i < E.sz → (E.enc l[j])[off + i]? = some u → w.cell? (q.add i) = some u := by
  subst hv
  obtain ⟨q, rfl, hc⟩ := hc
  refine ⟨_, rfl, fun i u hi hu => ?_⟩
  rw [Addr.add_add, Nat.add_assoc]
  exact hc _ u (by rw [E.flat_at l j (off + i) hj hi]; exact hu)
theorem rd_cells {α : Type _} {v : Value} {E : Enc α} {l : List α} (h : (rdR v E l).ok w) {j : Nat} (hj : j < l.length) (off : Nat) :
    ∃ q, ep v j E.sz off = .pointer (some q) ∧ ∀ i u, off + i < E.sz → (E.enc l[j])[off + i]? = some u → w.cell? (q.add i) = some u := by
  obtain ⟨A, c, hv, _, h⟩ := h
  obtain ⟨q, hq, _, hc⟩ := h (by intro e; simp [e] at hj)
  exact ep_cells hv ⟨q, hq, hc⟩ hj off
theorem own_cells {α : Type _} {v : Value} {ty : TypeId} {E : Enc α} {l : List α} (h : (ownR v ty E l).ok w) {j : Nat} (hj : j < l.length) (off : Nat) :
    ∃ q, ep v j E.sz off = .pointer (some q) ∧ ∀ i u, off + i < E.sz → (E.enc l[j])[off + i]? = some u → w.cell? (q.add i) = some u := by
  rcases h.2 with ⟨h1, h2⟩ | ⟨g, cap, cur, h1, _⟩
  · omega
  · exact ep_cells h1 ⟨_, rfl, fun i u hi => World.ownsRow.cells h (g := g) (by rw [h1]; rfl) i u hi⟩ hj off
theorem L.ldx (hC : Conf n S w0 ρ μ a w) (hG : guardOf ρ ops o = some G) {t : TypeId} {x : Operand} (ho : o.op = .load t x) {α : Type _} [Inhabited α] {v : Value} {E : Enc α} {l : List α} {cs : List Bool} {j off z : Nat} (hx : ev ρ x = some (cs, ep v j z off)) (hz : z = E.sz) (hcs : Gt G → All cs)
    (hm : Gt G → ∃ q, ep v j E.sz off = .pointer (some q) ∧ ∀ i u, off + i < E.sz → (E.enc l[j]!)[off + i]? = some u → w.cell? (q.add i) = some u)
    (hA : ∀ w, (isAgg t).run P w = .ok false w) {u : Value} (hv : (E.enc l[j]!)[off]? = some u) {d : Nat} (hd : o.dst = some d) (hn : Nat.blt d n = true)
    (k : ∀ a, Conf n S w0 ((d, (G, u)) :: ρ) μ a w → L P ops rest K a w) : L P ops (o :: rest) K a w := by
  subst hz
  refine L.step hC hG (fun hg => ?_) hd hn k
  obtain ⟨q, he, hq⟩ := hm hg
  have hlt : off < E.sz := by
    have := (List.getElem?_eq_some_iff.1 hv).1
    rwa [E.len] at this
  have hc := hq 0 u (by simpa using hlt) (by simpa using hv)
  have hq0 : q.add 0 = q := by simp [Addr.add]
  rw [hq0] at hc
  have := run_ld (P := P) (w := w) hA hc
  have e := hC.ev hx (hcs hg)
  rw [he] at e
  unfold execOp
  simp [ho, e, this]
theorem bang {α : Type _} [Inhabited α] {l : List α} {j : Nat} (h : j < l.length) : l[j]! = l[j] := by simp [h]
theorem rd_bang {α : Type _} [Inhabited α] {v : Value} {E : Enc α} {l : List α} (hC : Conf n S w0 ρ μ a w) (hm : rdR v E l ∈ μ) {j : Nat} (hj : j < l.length) (off : Nat) :
    ∃ q, ep v j E.sz off = .pointer (some q) ∧ ∀ i u, off + i < E.sz → (E.enc l[j]!)[off + i]? = some u → w.cell? (q.add i) = some u := by
  rw [bang hj]; exact rd_cells (hC.at hm) hj off
theorem own_bang {α : Type _} [Inhabited α] {v : Value} {ty : TypeId} {E : Enc α} {l : List α} (hC : Conf n S w0 ρ μ a w) (hm : ownR v ty E l ∈ μ) {j : Nat} (hj : j < l.length) (off : Nat) :
    ∃ q, ep v j E.sz off = .pointer (some q) ∧ ∀ i u, off + i < E.sz → (E.enc l[j]!)[off + i]? = some u → w.cell? (q.add i) = some u := by
  rw [bang hj]; exact own_cells (hC.at hm) hj off
theorem L.ldxa (hC : Conf n S w0 ρ μ a w) (hG : guardOf ρ ops o = some G) {t : TypeId} {x : Operand} (ho : o.op = .load t x) {α : Type _} [Inhabited α] {v : Value} {E : Enc α} {l : List α} {cs : List Bool} {j off z : Nat} (hx : ev ρ x = some (cs, ep v j z off)) (hz : z = E.sz) (hcs : Gt G → All cs)
    (hm : Gt G → ∃ q, ep v j E.sz off = .pointer (some q) ∧ ∀ i u, off + i < E.sz → (E.enc l[j]!)[off + i]? = some u → w.cell? (q.add i) = some u)
    (hA : ∀ w, (isAgg t).run P w = .ok true w) {m : Nat} (hS : ∀ w, (sizeOf t).run P w = .ok m w) {us : List Value} (hv : ((E.enc l[j]!).drop off).take m = us) (hl : Nat.beq us.length m = true) {d : Nat} (hd : o.dst = some d) (hn : Nat.blt d n = true)
    (k : ∀ a, Conf n S w0 ((d, (G, .agg us.toArray)) :: ρ) μ a w → L P ops rest K a w) : L P ops (o :: rest) K a w := by
  subst hz
  refine L.step hC hG (fun hg => ?_) hd hn k
  obtain ⟨q, he, hq⟩ := hm hg
  have hl' := Nat.eq_of_beq_eq_true hl
  have := run_lda (P := P) (w := w) hA (by rw [hl']; exact hS) (p := q) (us := us) (fun i u hi => by
    rw [← hv, List.getElem?_take] at hi
    split at hi
    · rw [List.getElem?_drop] at hi
      have hlt := (List.getElem?_eq_some_iff.1 hi).1
      rw [E.len] at hlt
      exact hq i u hlt hi
    · cases hi)
  have e := hC.ev hx (hcs hg)
  rw [he] at e
  unfold execOp
  simp [ho, e, this]
theorem L.len (hC : Conf n S w0 ρ μ a w) (hG : guardOf ρ ops o = some G) {t : TypeId} {x : Operand} (ho : o.op = .call { callee := .builtin .len, args := #[x], argTypes := #[t] }) {v : Value} {m : Nat} {cs : List Bool} (hx : ev ρ x = some (cs, v)) (hcs : Gt G → All cs)
    (hm : ∃ A c, v = .slice A m c) {e : TypeId} (hu : P.underlying t = some (.slice e)) {d : Nat} (hd : o.dst = some d) (hn : Nat.blt d n = true)
    (k : ∀ a, Conf n S w0 ((d, (G, .int .i64 (m : Int))) :: ρ) μ a w → L P ops rest K a w) : L P ops (o :: rest) K a w := by
  refine L.step hC hG (fun hg => ?_) hd hn k
  obtain ⟨A, c, rfl⟩ := hm
  unfold execOp
  have e1 := hC.ev hx (hcs hg)
  simp [ho, resolve, invoke, builtin, Builtin.len_, run_underlying hu, e1, goInt]
end
end Go.Proofs.E
