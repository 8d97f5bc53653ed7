/- The row of a law: what it reads stays, and it returns true; arguments opened. -/
import Derived.Test.YtgekiiildobfkabE13
import Derived.WalkKit
import Derived.ProofKit
import Derived.OpenShut
import Derived.Carry
import Derived.Deep.Slices
set_option linter.unusedVariables false
set_option linter.unusedSimpArgs false
set_option linter.unusedSectionVars false
namespace Go.Proofs.E
open Go.RowKit Go.ChangeShapes Go.WideShapes Go.ChangeAt Go.Deep

section
variable {H : Type} {enc : TypeId × Value → H} {P : Program} {w w' W W' : World}

/-- Types whose readings stay where their places stay. -/
def Stays (P : Program) (ts : List TypeId) : Prop := laidOutB P = true ∧ ts.all (fun t => P.readableRec t && decide (t < P.types.size)) = true
theorem all_stays {sp : Nat → Bool} (hl : laidOutB P = true) (hb : Frm Nob W W') : ∀ {ts : List TypeId} {vs : List Value} {ds : List (DataW H)} {ps : List MemPlace}, ts.all (fun t => P.readableRec t && decide (t < P.types.size)) = true →
    DataW.TrodAll enc P W 0 (fun _ => true) true ts vs ds ps → (∀ p ∈ ps, p.block < W.heap.size) → (∀ p ∈ ps, sp p.block = true) → DataW.TrodAll enc P W' 0 sp true ts vs ds ps
  | [], [], [], _, _, h, _, _ => h
  | t :: ts, v :: vs, d :: ds, ps, hr, ⟨p, q, h1, h2, e⟩, hlt, hs => by
    subst e
    simp only [List.all_cons, Bool.and_eq_true, decide_eq_true_eq] at hr
    have hr2 : ts.all (fun t => P.readableRec t && decide (t < P.types.size)) = true := by simpa using hr.2
    exact ⟨p, q, WideElems.Trod_stays hl hr.1.1 hr.1.2 h1 (fun x hx => hb.below.same (hlt x (List.mem_append_left _ hx))) (fun x hx => hs x (List.mem_append_left _ hx)),
      all_stays hl hb hr2 h2 (fun x hx => hlt x (List.mem_append_right _ hx)) (fun x hx => hs x (List.mem_append_right _ hx)), rfl⟩
  | [], [], _ :: _, _, _, h, _, _ => h.elim
  | [], _ :: _, _, _, _, h, _, _ => h.elim
  | _ :: _, [], _, _, _, h, _, _ => h.elim
  | _ :: _, _ :: _, [], _, _, h, _, _ => h.elim

/-- A law returned true and wrote nothing that was there. -/
theorem law_post {fn : Func} {s : ChangeSpec} {apart fresh handsOn again : Bool} {args : Array Value} {ds gs : List (DataW H)} {before : List MemPlace}
    (hS : Stays P fn.params.toList) {tb : TypeId} (hr : fn.resultTypes = #[tb]) (hb : P.underlying tb = some .bool) (hv : s.vars = [])
    (hs : (s.fn H ds).results = [.lit (.bool true)] ∧ (s.fn H ds).args = ds ∧ (s.fn H ds).vars = [])
    (hW : DataW.Whole enc P fn.params.toList s.vars apart W args.toList ds gs before) (hf : Frm Nob W W') : s.post enc P fn apart fresh handsOn again W args (.bool true) W' := by
  have hlt := hW.lt
  obtain ⟨p, q, hA, hV, he, hz, hn⟩ := id hW
  rw [hv] at hV
  obtain ⟨hgs, hq⟩ : gs = [] ∧ q = [] := by cases gs with
    | nil => exact ⟨rfl, hV⟩
    | cons g gs => exact hV.elim
  subst hgs; subst hq
  rw [List.append_nil] at he
  subst he
  have hA' : ∀ sp : Nat → Bool, (∀ x ∈ before, sp x.block = true) → DataW.TrodAll enc P W' 0 sp true fn.params.toList args.toList ds before := fun sp hsp => all_stays hS.1 hf hS.2 hA hlt hsp
  have hR : ∀ (b : Nat) (sp : Nat → Bool) (hd : Bool), DataW.TrodAll enc P W' b sp hd fn.resultTypes.toList ((Value.bool true).resultList fn.resultTypes.size) [.lit (.bool true)] [] := fun b sp hd => by
    rw [hr]
    exact trodAll_mk1 ⟨1, by simp [DataW.trod, Value.cells, hb]⟩
  refine ⟨ds, [], before, [], before, [], by rw [hv] at hW ⊢; exact hW, ?_, ?_, ?_, ?_, fun _ => ⟨?_, ?_⟩⟩
  · rw [List.append_nil, hs.1]; exact hR _ _ _
  · rw [List.append_nil, hs.2.1]; exact hA' _ (fun x hx => by simpa using hlt x hx)
  · rw [List.append_nil, hs.2.2, hv]; rfl
  · exact World.keptBut_mono (fun x hx => ⟨hx, .inr (.inl hx)⟩) (hf.below.frame _)
  · intro j t r h1 h2
    rw [hr] at h1 h2
    cases j with
    | zero =>
      simp [Value.resultList] at h1 h2
      subst h1; subst h2
      simp [Value.okWide, hb, Cell.okWide, Cell.ok]
    | succ j => simp at h1
  · refine ⟨[.lit (.bool true)] ++ ds, [], [] ++ before, ⟨[] ++ before, [], trodAll_append (hA' _ (fun _ _ => rfl)) (hR _ _ _), by rw [hv]; rfl, by simp, ?_, fun ha => by simpa using hn ha⟩, fun x hx _ => by simpa using hx⟩
    intro b off hp
    have hp : MemPlace.cell b off ∈ before := by simpa using hp
    have := hf.below.frozen (p := ⟨b, off, none⟩) (hlt _ hp)
    rw [this]
    exact hz b off hp

/-- A slice argument is read: its elements are of the given kind. -/
theorem open_rd {α : Type} [Inhabited α] {E : Enc α} {Gd : α → Prop} {t e : TypeId} {v : Value} {x : DataW H} {ps : List MemPlace} (ht : P.underlying t = some (.slice e)) (hc : P.cellsOf e = E.sz)
    (hel : ∀ n cs y, DataW.trod enc P W 0 (fun _ => true) true n e cs = some y → ∃ x, cs = E.enc x ∧ Gd x) (hv : ∃ a l c, v = .slice a l c) (h : DataW.Trod enc P W 0 (fun _ => true) true t v x ps) :
    ∃ l : List α, (rdR v E l).ok W ∧ (∀ y ∈ l, Gd y) := by
  obtain ⟨fuel, hf⟩ := h
  obtain ⟨a0, l0, c0, rfl⟩ := hv
  have hf : DataW.trod enc P W 0 (fun _ => true) true fuel t [.slice a0 l0 c0] = some (x, ps) := by simpa [Value.cells] using hf
  rcases open_slice ht hf with ⟨h0, _⟩ | ⟨a, len, cap, m, n, D, Pl, h0, hb, hl, hm, hmm, _, hx⟩
  · simp only [List.cons.injEq, Value.slice.injEq, and_true] at h0
    obtain ⟨rfl, rfl, rfl⟩ := h0
    exact ⟨[], rd_nil, by simp⟩
  · simp only [List.cons.injEq, Value.slice.injEq, and_true] at h0
    obtain ⟨rfl, rfl, rfl⟩ := h0
    have hlm : l0 ≤ m := by rw [hmm]; split <;> omega
    have each : ∀ i, i < l0 → ∃ y : α, W.cells? 0 (a.add (i * P.cellsOf e)) (P.cellsOf e) = some (E.enc y) ∧ Gd y := fun i hi => by
      obtain ⟨cs, h1, h2⟩ := hx i (by omega)
      obtain ⟨y, rfl, hy⟩ := hel _ _ _ h2
      exact ⟨y, h1, hy⟩
    obtain ⟨X, hX⟩ := choose_lt each
    have hget : ∀ i (hi : i < l0), ((List.range l0).map X)[i]? = some (X i) := fun i hi => by simp [hi]
    refine ⟨(List.range l0).map X, ⟨some a, c0, by simp, ⟨by simp only [maxLen] at hm; simp; omega, by simp; omega⟩, fun hne => ⟨a, rfl, ?_, ?_⟩⟩, fun y hy => ?_⟩
    · have h0 : 0 < l0 := by
        cases l0 with
        | zero => exact absurd rfl hne
        | succ k => omega
      obtain ⟨_, hlen, hcell⟩ := World.cells?_some (hX 0 h0).1
      have hp := E.pos
      have := hcell 0 (by rw [hc]; exact hp)
      rw [List.getElem?_eq_getElem (by rw [E.len]; exact hp)] at this
      have hlt := World.block_lt_of_cell? _ _ this
      simpa [Addr.add] using hlt
    · intro j u hj
      have hjl : j < l0 * E.sz := by
        have := (List.getElem?_eq_some_iff.1 hj).1
        rw [E.flat_length] at this; simpa using this
      have hp := E.pos
      have hi : j / E.sz < l0 := (Nat.div_lt_iff_lt_mul hp).2 hjl
      obtain ⟨_, hlen, hcell⟩ := World.cells?_some (hX (j / E.sz) hi).1
      have h2 := hcell (j % E.sz) (by rw [hc]; exact Nat.mod_lt _ hp)
      rw [add_add, hc] at h2
      have hji : j / E.sz * E.sz + j % E.sz = j := Nat.div_add_mod' j E.sz
      rw [hji] at h2
      rw [h2, ← hj]
      have h3 := E.flat_at ((List.range l0).map X) (j / E.sz) (j % E.sz) (by simpa using hi) (Nat.mod_lt _ hp)
      rw [hji] at h3
      rw [h3]
      simp
    · obtain ⟨i, hi, rfl⟩ := List.mem_map.1 hy
      exact (hX i (by simpa using hi)).2

/-- A number that fits its kind. -/
def In64 (x : Int) : Prop := -9223372036854775808 ≤ x ∧ x ≤ 9223372036854775807
theorem wf64 {x : Int} (h : (Lit.int .i64 x).wf = true) : In64 x := by
  simp [Lit.wf, IntKind.min, IntKind.max, IntKind.signed, IntKind.bits] at h
  exact ⟨by omega, by omega⟩
/-- One cell of a struct that is a number. -/
theorem cell_int {cs : List Value} {o : Nat} {t : TypeId} {k : IntKind} {n base : Nat} {sp : Nat → Bool} {hd : Bool} {y : DataW H × List MemPlace} (ht : P.underlying t = some (.int k)) (h : DataW.trod enc P W base sp hd n t ((cs.drop o).take 1) = some y) : ∃ i, cs[o]? = some (.int k i) ∧ (Lit.int k i).wf = true := by
  obtain ⟨i, h1, _, h2⟩ := DataW.trod_int ht h
  refine ⟨i, ?_, h2⟩
  rw [← List.head?_drop]
  cases hd : cs.drop o with
  | nil => simp [hd] at h1
  | cons a l => simp [hd] at h1; simp [h1]
theorem cell_bool {cs : List Value} {o : Nat} {t : TypeId} {n base : Nat} {sp : Nat → Bool} {hd : Bool} {y : DataW H × List MemPlace} (ht : P.underlying t = some .bool) (h : DataW.trod enc P W base sp hd n t ((cs.drop o).take 1) = some y) : ∃ b, cs[o]? = some (.bool b) := by
  obtain ⟨i, h1, _⟩ := DataW.trod_bool ht h
  refine ⟨i, ?_⟩
  rw [← List.head?_drop]
  cases hd : cs.drop o with
  | nil => simp [hd] at h1
  | cons a l => simp [hd] at h1; simp [h1]
theorem trod_flds {t : TypeId} {fs : Array Field} {cs : List Value} {n base m : Nat} {sp : Nat → Bool} {hd : Bool} {y : DataW H × List MemPlace} (ht : P.underlying t = some (.struct fs)) (hc : fs.toList.all (fun f => Nat.beq (P.cellsOf f.type) 1) = true) (hm : P.cellsOf t = m)
    (h : DataW.trod enc P W base sp hd n t cs = some y) : cs.length = m ∧ ∃ k, ∀ (i : Nat) (f : Field), fs[i]? = some f → ∃ z, DataW.trod enc P W base sp hd k f.type ((cs.drop f.offset).take 1) = some z := by
  obtain ⟨xs, k, _, _, hl, hsz, hf⟩ := DataW.trod_struct ht h
  refine ⟨hl.trans hm, k, fun i f hi => ?_⟩
  have h1 := hf i f hi
  have hi' : i < fs.size := (Array.getElem?_eq_some_iff.1 hi).1
  have hmem : f ∈ fs.toList := by
    obtain ⟨_, e⟩ := Array.getElem?_eq_some_iff.1 hi
    rw [← e]; simp
  have hc1 := Nat.eq_of_beq_eq_true (List.all_eq_true.1 hc f hmem)
  rw [hc1] at h1
  rw [h1, List.getElem?_eq_getElem (by omega)]
  exact ⟨_, rfl⟩
end
end Go.Proofs.E
