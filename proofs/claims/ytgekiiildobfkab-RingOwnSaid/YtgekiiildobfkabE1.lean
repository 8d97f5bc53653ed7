/- The state of a walk ('Conf'), code by its three ways out ('W'), and operations one by one ('L'). -/
import Derived.Test.YtgekiiildobfkabE0
import Derived.Deep.LoopGhost
set_option linter.unusedVariables false
set_option linter.unusedSimpArgs false
set_option linter.unusedSectionVars false
namespace Go.Proofs.E
open Go.RowKit

structure Conf (n : Nat) (S : Nat → Prop) (w0 : World) (ρ : Env) (μ : List Res) (a : Act) (w : World) : Prop where
  env : EOk n ρ a
  mem : Mem μ w
  frm : Frm S w0 w
  own : ∀ r ∈ μ, ∀ b, r.fp b → S b ∨ w0.heap.size ≤ b

section
variable {n : Nat} {S : Nat → Prop} {w0 : World} {ρ ρ' : Env} {μ : List Res} {a a' : Act} {w w' : World}

theorem Conf.ev (h : Conf n S w0 ρ μ a w) {x : Operand} {cs : List Bool} {v : Value} (hx : ev ρ x = some (cs, v)) (hc : All cs) : a.eval x = v := h.env.eval hx hc
theorem Conf.put (h : Conf n S w0 ρ μ a w) {d : Nat} (hd : d < n) (s : Slot) : Conf n S w0 ((d, s) :: ρ) μ (a.put (some d) s.value) w :=
  ⟨h.env.put hd s, h.mem, h.frm, h.own⟩
theorem Conf.sub (h : Conf n S w0 ρ μ a w) (hs : ∀ i s, ρ'.get i = some s → ρ.get i = some s) : Conf n S w0 ρ' μ a w :=
  ⟨h.env.sub hs, h.mem, h.frm, h.own⟩
theorem Conf.grow (h : Conf n S w0 ρ μ a w) (hf : Frm Nob w w') : Conf n S w0 ρ μ a w' :=
  ⟨h.env, h.mem.grow hf, h.frm.trans hf (fun _ _ hf => hf.elim), h.own⟩
theorem Conf.at (h : Conf n S w0 ρ μ a w) {r : Res} (hr : r ∈ μ) : r.ok w := h.mem.at hr
theorem Conf.cons (h : Conf n S w0 ρ μ a w) (hf : Frm Nob w w') {r : Res} (hr : r.ok w') (hn : ∀ b, r.fp b → w.heap.size ≤ b)
    (hp : ∀ b, r.rp b → w.heap.size ≤ b ∨ ∀ s ∈ μ, ¬ s.fp b) : Conf n S w0 ρ (r :: μ) a w' :=
  ⟨h.env, h.mem.cons hf hr hn hp, h.frm.trans hf (fun _ _ hf => hf.elim), fun s hs b hb => by
    rcases List.mem_cons.1 hs with rfl | hs
    · exact .inr (Nat.le_trans h.frm.size (hn b hb))
    · exact h.own s hs b hb⟩
/-- The first piece is changed. -/
theorem Conf.upd {r r' : Res} (h : Conf n S w0 ρ (r :: μ) a w) (hf : Frm r.fp w w') (hr : r'.ok w') (hn : ∀ b, r'.fp b ∨ r'.rp b → r.fp b ∨ w.heap.size ≤ b) :
    Conf n S w0 ρ (r' :: μ) a w' := by
  refine ⟨h.env, Mem.upd (l1 := []) h.mem hf hr hn, h.frm.trans hf (fun i hi hr => ?_), fun s hs b hb => ?_⟩
  · exact (h.own r (List.mem_cons_self ..) i hr).elim id (fun h' => absurd h' (by omega))
  · rcases List.mem_cons.1 hs with rfl | hs
    · rcases hn b (.inl hb) with h' | h'
      · exact h.own r (List.mem_cons_self ..) b h'
      · exact .inr (Nat.le_trans h.frm.size h')
    · exact h.own s (List.mem_cons_of_mem _ hs) b hb
theorem Conf.perm {ν : List Res} (h : Conf n S w0 ρ μ a w) (hp : μ.Perm ν) : Conf n S w0 ρ ν a w :=
  ⟨h.env, h.mem.perm hp, h.frm, fun s hs => h.own s (hp.mem_iff.2 hs)⟩
theorem Conf.tail {r : Res} (h : Conf n S w0 ρ (r :: μ) a w) : Conf n S w0 ρ μ a w := ⟨h.env, h.mem.tail, h.frm, fun s hs => h.own s (List.mem_cons_of_mem _ hs)⟩
theorem Conf.fr1 {r0 r1 : Res} {l : List Res} (h : Conf n S w0 ρ (r0 :: r1 :: l) a w) : Conf n S w0 ρ (r1 :: r0 :: l) a w := h.perm (List.Perm.swap ..)
theorem Conf.fr2 {r0 r1 r2 : Res} {l : List Res} (h : Conf n S w0 ρ (r0 :: r1 :: r2 :: l) a w) : Conf n S w0 ρ (r2 :: r0 :: r1 :: l) a w :=
  h.perm ((List.Perm.cons r0 (List.Perm.swap ..)).trans (List.Perm.swap ..))
theorem Conf.fr3 {r0 r1 r2 r3 : Res} {l : List Res} (h : Conf n S w0 ρ (r0 :: r1 :: r2 :: r3 :: l) a w) : Conf n S w0 ρ (r3 :: r0 :: r1 :: r2 :: l) a w :=
  h.perm ((List.Perm.cons r0 ((List.Perm.cons r1 (List.Perm.swap ..)).trans (List.Perm.swap ..))).trans (List.Perm.swap ..))
end

/-- What a write leaves of the rest. -/
structure FrmF (μ μ' : List Res) (w w' : World) : Prop where
  frm : Frm (fun b => ∃ s ∈ μ, s.fp b) w w'
  fps : ∀ b, b < w.heap.size → (∀ s ∈ μ, ¬ s.fp b) → ∀ s ∈ μ', ¬ s.fp b
theorem FrmF.of_nob {μ : List Res} {w w' : World} (h : Frm Nob w w') : FrmF μ μ w w' := ⟨h.mono (fun _ _ hf => hf.elim), fun _ _ h => h⟩
theorem FrmF.upd {r r' : Res} {μ : List Res} {w w' : World} (hf : Frm r.fp w w') (hn : ∀ b, r'.fp b ∨ r'.rp b → r.fp b ∨ w.heap.size ≤ b) : FrmF (r :: μ) (r' :: μ) w w' :=
  ⟨hf.mono (fun i _ hi => ⟨r, List.mem_cons_self .., hi⟩), fun b hb h s hs hfp => by
    rcases List.mem_cons.1 hs with rfl | hs
    · rcases hn b (.inl hfp) with h' | h'
      · exact h r (List.mem_cons_self ..) h'
      · omega
    · exact h s (List.mem_cons_of_mem _ hs) hfp⟩
/-- The same, seen from other lists of the same pieces. -/
theorem FrmF.of {μ μ' ν ν' : List Res} {w w' : World} (h : FrmF ν ν' w w') (h1 : ∀ s ∈ ν, (∀ b, ¬ s.fp b) ∨ s ∈ μ) (h2 : ∀ s ∈ μ', s ∈ ν') : FrmF μ μ' w w' :=
  ⟨h.frm.mono (fun i _ ⟨s, hs, hf⟩ => ⟨s, (h1 s hs).resolve_left (fun hn => hn i hf), hf⟩), fun b hb hm s hs => h.fps b hb (fun t ht hf => (h1 t ht).elim (fun hn => hn b hf) (fun hm' => hm t hm' hf)) s (h2 s hs)⟩
theorem Conf.dr1 {n : Nat} {S : Nat → Prop} {w0 : World} {ρ : Env} {a : Act} {w : World} {r0 r1 : Res} {l : List Res} (h : Conf n S w0 ρ (r0 :: r1 :: l) a w) : Conf n S w0 ρ (r0 :: l) a w := h.fr1.tail
theorem Conf.dr2 {n : Nat} {S : Nat → Prop} {w0 : World} {ρ : Env} {a : Act} {w : World} {r0 r1 r2 : Res} {l : List Res} (h : Conf n S w0 ρ (r0 :: r1 :: r2 :: l) a w) : Conf n S w0 ρ (r0 :: r1 :: l) a w := h.fr2.tail
theorem m0 {α : Type _} {x : α} {l : List α} : x ∈ x :: l := List.mem_cons_self ..
theorem m1 {α : Type _} {x a : α} {l : List α} : x ∈ a :: x :: l := .tail _ m0
theorem m2 {α : Type _} {x a b : α} {l : List α} : x ∈ a :: b :: x :: l := .tail _ m1
theorem m3 {α : Type _} {x a b c : α} {l : List α} : x ∈ a :: b :: c :: x :: l := .tail _ m2
theorem m4 {α : Type _} {x a b c d : α} {l : List α} : x ∈ a :: b :: c :: d :: x :: l := .tail _ m3
theorem m5 {α : Type _} {x a b c d e : α} {l : List α} : x ∈ a :: b :: c :: d :: e :: x :: l := .tail _ m4
theorem m6 {α : Type _} {x a b c d e f : α} {l : List α} : x ∈ a :: b :: c :: d :: e :: f :: x :: l := .tail _ m5
theorem m7 {α : Type _} {x a b c d e f g : α} {l : List α} : x ∈ a :: b :: c :: d :: e :: f :: g :: x :: l := .tail _ m6

/-! ### Code -/
abbrev Kn := Act → World → Prop
def Kq (kn : Kn) (kx : Nat → Kn) (kr : Kn) : Exit → Act → World → Prop
  | .normal, a, w => kn a w
  | .exit i, a, w => kx i a w
  | .ret, a, w => kr a w
  | _, _, _ => False
def W (P : Program) (c : Code) (kn : Kn) (kx : Nat → Kn) (kr : Kn) (a : Act) (w : World) : Prop := c.wp P (Kq kn kx kr) a w
def Lq (k : Kn) : Exit → Act → World → Prop
  | .normal, a, w => k a w
  | _, _, _ => False
def L (P : Program) (ops : Array Oper) (l : List Oper) (k : Kn) (a : Act) (w : World) : Prop := wpList P ops (Lq k) l a w

section
variable {P : Program} {kn : Kn} {kx : Nat → Kn} {kr : Kn} {a : Act} {w : World} {c x y : Code}

theorem W.skip (h : kn a w) : W P .skip kn kx kr a w := wp_skip (Q := Kq kn kx kr) h
theorem W.ret (h : kr a w) : W P .ret kn kx kr a w := wp_ret (Q := Kq kn kx kr) h
theorem W.exit {i : Nat} (h : kx i a w) : W P (.exit i) kn kx kr a w := wp_exit (Q := Kq kn kx kr) h
theorem W.seq (h : W P x (fun a w => W P y kn kx kr a w) kx kr a w) : W P (.seq x y) kn kx kr a w := by
  refine wp_seq (Code.wp_mono (fun e a w hq => ?_) h)
  cases e <;> first | exact hq | exact hq.elim
theorem W.seqk (h : ∀ k : Kn, (∀ a w, W P y kn kx kr a w → k a w) → W P x k kx kr a w) : W P (.seq x y) kn kx kr a w := W.seq (h _ fun _ _ h => h)
def Kb (i : Nat) (kn : Kn) (kx : Nat → Kn) : Nat → Kn := fun j a w => if j = i then kn a w else kx j a w
theorem W.block {i : Nat} (h : W P c kn (Kb i kn kx) kr a w) : W P (.block i c) kn kx kr a w := by
  refine wp_block (Code.wp_mono (fun e a w hq => ?_) h)
  cases e with
  | exit j =>
    simp only [Exit.inBlock]
    simp only [Kq, Kb] at hq
    split
    · rename_i hj
      rw [if_pos hj] at hq
      exact hq
    · rename_i hj
      rw [if_neg hj] at hq
      exact hq
  | _ => first | exact hq | exact hq.elim
theorem Kb.here {i : Nat} (h : kn a w) : Kb i kn kx i a w := by simp only [Kb, if_true]; exact h
theorem Kb.there {i j : Nat} (hj : (j == i) = false) (h : kx j a w) : Kb i kn kx j a w := by
  have : ¬ j = i := by simpa using hj
  simp only [Kb, if_neg this]; exact h
theorem W.cond {n : Nat} {S : Nat → Prop} {w0 : World} {ρ : Env} {μ : List Res} {o : Operand} {b : Bool} (hC : Conf n S w0 ρ μ a w) (hb : ev ρ o = some ([], .bool b))
    (ht : b = true → W P x kn kx kr a w) (hf : b = false → W P y kn kx kr a w) : W P (.cond o x y) kn kx kr a w :=
  wp_cond_split (hC.ev hb All.nil) ht hf
theorem W.loop {α : Type _} (I : α → Kn) (μ : α → Nat) (s : α) (h0 : I s a w) (round : ∀ s a w, I s a w → W P c (fun a' w' => ∃ s', I s' a' w' ∧ μ s' < μ s) kx kr a w) :
    W P (.loop c) kn kx kr a w := by
  refine wp_loop_ghost (fun n a w => ∃ s, I s a w ∧ μ s = n) (μ s) ⟨s, h0, rfl⟩ ?_
  rintro n a w ⟨s, hs, rfl⟩
  refine Code.wp_mono (fun e a w hq => ?_) (round s a w hs)
  cases e <;> first | exact hq.elim | exact hq | skip
  obtain ⟨s', h1, h2⟩ := hq
  exact ⟨_, h2, s', h1, rfl⟩
theorem W.mono {kn' : Kn} {kx' : Nat → Kn} {kr' : Kn} (h : W P c kn kx kr a w) (hn : ∀ a w, kn a w → kn' a w) (hx : ∀ i a w, kx i a w → kx' i a w) (hr : ∀ a w, kr a w → kr' a w) : W P c kn' kx' kr' a w :=
  Code.wp_mono (fun e a w hq => by cases e <;> first | exact hn _ _ hq | exact hx _ _ _ hq | exact hr _ _ hq | exact hq) h
/-- A piece of code whose ways meet again. -/
theorem W.cut (M : Kn) (h : W P c M kx kr a w) (hM : ∀ a w, M a w → kn a w) : W P c kn kx kr a w := h.mono hM (fun _ _ _ h => h) (fun _ _ h => h)
theorem W.region {id : Nat} {l : List Oper} (h : L P l.toArray l kn a w) : W P (.region id l.toArray false) kn kx kr a w :=
  Code.wp_mono (fun e a w hq => by cases e <;> first | exact hq | exact hq.elim) (wp_region_lit (Q := Lq kn) h)

/-! ### A function's body -/
def Kr (P : Program) (fn : Func) (R : Ending → World → Prop) : Kn := fun a w => a.defers = [] ∧ ∃ v, (results fn a.tmps).run P w = .ok v w ∧ R (.returned v) w
def args0 : Nat → List Value → Env
  | _, [] => []
  | i, v :: r => (i, (none, v)) :: args0 (i + 1) r
theorem args0_get : ∀ (l : List Value) (i j : Nat) (s : Slot), (args0 i l).get j = some s → ∃ v, l[j - i]? = some v ∧ i ≤ j ∧ s = (none, v)
  | [], _, _, _, h => by simp [args0, Env.get] at h
  | v :: r, i, j, s, h => by
    simp only [args0, Env.get] at h
    by_cases hi : i = j
    · subst hi
      simp only [Nat.beq_refl, cond_true, Option.some.injEq] at h
      exact ⟨v, by simp, Nat.le_refl _, h.symm⟩
    · have hb : Nat.beq i j = false := by
        cases hb : Nat.beq i j with
        | false => rfl
        | true => exact absurd (Nat.eq_of_beq_eq_true hb) hi
      rw [hb] at h
      obtain ⟨u, h1, h2, h3⟩ := args0_get r (i + 1) j s h
      refine ⟨u, ?_, by omega, h3⟩
      have : j - i = (j - (i + 1)) + 1 := by omega
      rw [this, List.getElem?_cons_succ]
      exact h1
theorem enter {f : FuncId} {fn : Func} {c : Code} {n : Nat} {vs : List Value} {w : World} {R : Ending → World → Prop} {μ : List Res} {S : Nat → Prop} (hf : P.funcs[f]? = some fn) (hb : fn.body = some c) (hn : fn.ntmps = n) (hl : Nat.ble vs.length n = true)
    (hm : Mem μ w) (ho : ∀ r ∈ μ, ∀ b, r.fp b → S b)
    (h : ∀ a, Conf n S w (args0 0 vs) μ a w → W P c (Kr P fn R) (fun _ _ _ => False) (Kr P fn R) a w) : Calls P f vs.toArray w R := by
  refine calls_of_wp hf hb ?_
  have hl := Nat.le_of_ble_eq_true hl
  refine Code.wp_mono (fun e a w hq => ?_) (h _ ⟨⟨rfl, ?_, ?_⟩, hm, Frm.refl _ _, fun r hr b hb => .inl (ho r hr b hb)⟩)
  · cases e <;> first | exact hq | exact hq.elim
  · simp [hn]; omega
  · intro i s hi
    obtain ⟨v, h1, _, rfl⟩ := args0_get vs 0 i s hi
    simp only [Nat.sub_zero] at h1
    have hi' : i < vs.length := (List.getElem?_eq_some_iff.1 h1).1
    rw [Array.getElem?_append_left (by simpa using hi')]
    simpa [Slot.value] using h1
theorem ret1 {fn : Func} {n : Nat} {S : Nat → Prop} {w0 : World} {ρ : Env} {μ : List Res} {R : Ending → World → Prop} {t : Tmp} {v : Value} (hC : Conf n S w0 ρ μ a w) (hr : fn.results = #[.tmp t]) (hv : ev ρ (.tmp t) = some ([], v))
    (h : R (.returned v) w) : Kr P fn R a w := by
  refine ⟨hC.env.defers, v, ?_, h⟩
  rw [results_tmp hr]
  exact congrArg (fun x => Result.ok x w) (hC.ev hv All.nil)
theorem ret2 {fn : Func} {n : Nat} {S : Nat → Prop} {w0 : World} {ρ : Env} {μ : List Res} {R : Ending → World → Prop} {t u : Tmp} {v v' : Value} (hC : Conf n S w0 ρ μ a w) (hr : fn.results = #[.tmp t, .tmp u]) (hv : ev ρ (.tmp t) = some ([], v)) (hv' : ev ρ (.tmp u) = some ([], v'))
    (h : R (.returned (.tuple #[v, v'])) w) : Kr P fn R a w := by
  refine ⟨hC.env.defers, _, ?_, h⟩
  rw [results_tmp2 hr]
  have h1 := hC.ev hv All.nil
  have h2 := hC.ev hv' All.nil
  simp only [Act.eval] at h1 h2
  rw [h1, h2]
theorem ret0 {fn : Func} {n : Nat} {S : Nat → Prop} {w0 : World} {ρ : Env} {μ : List Res} {R : Ending → World → Prop} (hC : Conf n S w0 ρ μ a w) (hr : fn.results = #[])
    (h : R (.returned (.tuple #[])) w) : Kr P fn R a w := ⟨hC.env.defers, _, results_none hr _ _ _, h⟩
end
end Go.Proofs.E
