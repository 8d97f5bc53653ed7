/- Code in the frame of a round, or of a function that ranges over a function: the rules by which it is walked; the iterator's contract; the statement. -/
import Derived.Test.YtgekiiildobfkaaE17
import Derived.Sort.LoopGhostIn
import Derived.RangeFuncRecord
import Derived.RangeFuncCalls
import Derived.OwnWalkIn
set_option linter.unusedVariables false
set_option linter.unusedSimpArgs false
set_option linter.unusedSectionVars false
namespace Go.Proofs.E
open Go.RowKit

abbrev FR (r : Option Nat) : Fence := { Fence.wide with round := r }
def wd (a : Act) (ds : List Deferred) : Act := { a with defers := ds }
theorem wd_back {a : Act} {ds : List Deferred} (h : a.defers = []) : wd (wd a ds) [] = a := by
  cases a; simp only at h; subst h; rfl
abbrev Kd := List Deferred → Act → World → Prop
def KqI (kn : Kd) (kx : Nat → Kd) (kr : Kd) : Exit → Act → World → Prop
  | .normal, a, w => kn a.defers (wd a []) w
  | .exit i, a, w => kx i a.defers (wd a []) w
  | .ret, a, w => kr a.defers (wd a []) w
  | _, _, _ => False
def WI (r : Option Nat) (P : Program) (c : Code) (kn : Kd) (kx : Nat → Kd) (kr : Kd) (ds : List Deferred) (a : Act) (w : World) : Prop :=
  c.wpIn (FR r) 0 P (KqI kn kx kr) (wd a ds) w
def LqI (k : Kd) : Exit → Act → World → Prop
  | .normal, a, w => k a.defers (wd a []) w
  | _, _, _ => False
def LI (r : Option Nat) (P : Program) (ops : Array Oper) (l : List Oper) (k : Kd) (ds : List Deferred) (a : Act) (w : World) : Prop :=
  wpListIn (FR r) 0 P ops (LqI k) l (wd a ds) w

section
variable {r : Option Nat} {P : Program} {kn : Kd} {kx : Nat → Kd} {kr : Kd} {ds : List Deferred} {a : Act} {w : World} {c x y : Code}
theorem WI.skip (hd : a.defers = []) (h : kn ds a w) : WI r P .skip kn kx kr ds a w := wpIn_skip (by show kn ds (wd (wd a ds) []) w; rw [wd_back hd]; exact h)
theorem WI.ret (hd : a.defers = []) (h : kr ds a w) : WI r P .ret kn kx kr ds a w := wpIn_ret (by show kr ds (wd (wd a ds) []) w; rw [wd_back hd]; exact h)
theorem WI.exit {i : Nat} (hd : a.defers = []) (h : kx i ds a w) : WI r P (.exit i) kn kx kr ds a w := wpIn_exit (by show kx i ds (wd (wd a ds) []) w; rw [wd_back hd]; exact h)
theorem WI.seqk (h : ∀ k : Kd, (∀ ds a w, WI r P y kn kx kr ds a w → k ds a w) → WI r P x k kx kr ds a w) : WI r P (.seq x y) kn kx kr ds a w := by
  refine wpIn_seq (wpIn_mono (h _ (fun _ _ _ h => h)) (fun e a w hq => ?_))
  cases e <;> first | exact hq | exact hq.elim
def KbI (i : Nat) (kn : Kd) (kx : Nat → Kd) : Nat → Kd := fun j ds a w => if j = i then kn ds a w else kx j ds a w
theorem KbI.here {i : Nat} (h : kn ds a w) : KbI i kn kx i ds a w := by simp only [KbI, if_true]; exact h
theorem KbI.there {i j : Nat} (hj : (j == i) = false) (h : kx j ds a w) : KbI i kn kx j ds a w := by
  have : ¬ j = i := by simpa using hj
  simp only [KbI, if_neg this]; exact h
theorem WI.block {i : Nat} (h : WI r P c kn (KbI i kn kx) kr ds a w) : WI r P (.block i c) kn kx kr ds a w := by
  refine wpIn_block (wpIn_mono h (fun e a w hq => ?_))
  cases e with
  | exit j =>
    simp only [Exit.inBlock]
    simp only [KqI, KbI] at hq
    split
    · rename_i hj
      rw [if_pos hj] at hq
      exact hq
    · rename_i hj
      rw [if_neg hj] at hq
      exact hq
  | _ => first | exact hq | exact hq.elim
theorem WI.cond {n : Nat} {S : Nat → Prop} {w0 : World} {ρ : Env} {μ : List Res} {o : Operand} {b : Bool} (hC : Conf n S w0 ρ μ a w) (hb : ev ρ o = some ([], .bool b))
    (ht : b = true → WI r P x kn kx kr ds a w) (hf : b = false → WI r P y kn kx kr ds a w) : WI r P (.cond o x y) kn kx kr ds a w := by
  have e : (wd a ds).eval o = .bool b := by
    have := hC.ev hb All.nil
    cases o <;> exact this
  exact wpIn_cond_split e ht hf
theorem WI.loop {α : Type _} (I : α → Kd) (μ : α → Nat) (s : α) (h0 : I s ds a w) (hd : a.defers = []) (round : ∀ s ds a w, I s ds a w → WI r P c (fun ds' a' w' => ∃ s', I s' ds' a' w' ∧ μ s' < μ s) kx kr ds a w) :
    WI r P (.loop c) kn kx kr ds a w := by
  refine wpIn_loop_ghost (fun n a w => ∃ s, I s a.defers (wd a []) w ∧ μ s = n) (μ s) ⟨s, by show I s ds (wd (wd a ds) []) w; rw [wd_back hd]; exact h0, rfl⟩ ?_
  rintro n a w ⟨s, hs, rfl⟩
  refine wpIn_mono (show c.wpIn (FR r) 0 P _ a w from round s a.defers (wd a []) w hs) (fun e a w hq => ?_)
  cases e <;> first | exact hq.elim | exact hq | skip
  obtain ⟨s', h1, h2⟩ := hq
  exact ⟨_, h2, s', h1, rfl⟩
theorem WI.mono {kn' : Kd} {kx' : Nat → Kd} {kr' : Kd} (h : WI r P c kn kx kr ds a w) (hn : ∀ ds a w, kn ds a w → kn' ds a w) (hx : ∀ i ds a w, kx i ds a w → kx' i ds a w) (hr : ∀ ds a w, kr ds a w → kr' ds a w) : WI r P c kn' kx' kr' ds a w :=
  wpIn_mono h (fun e a w hq => by cases e <;> first | exact hn _ _ _ hq | exact hx _ _ _ _ hq | exact hr _ _ _ hq | exact hq)
theorem WI.region {id : Nat} {l : List Oper} (h : LI r P l.toArray l kn ds a w) : WI r P (.region id l.toArray false) kn kx kr ds a w :=
  wpIn_mono (wpIn_region_lit (Q := LqI kn) h) (fun e a w hq => by cases e <;> first | exact hq | exact hq.elim)

theorem L.defers_nil {ops : Array Oper} {K : Kn} (hK : ∀ a w, K a w → a.defers = []) : ∀ (l : List Oper) (a : Act) (w : World), L P ops l K a w → a.defers = []
  | [], a, w, h => hK a w h
  | o :: l, a, w, h => by
    have hput : ∀ (o : Option Tmp) (v : Value) (a : Act), (a.put o v).defers = a.defers := fun o v a => by cases o <;> rfl
    unfold L wpList at h
    split at h
    · rcases h with h | ⟨_, _, _, hf⟩
      · unfold Oper.wp at h
        generalize (execOp a.eval o).run P w = res at h
        cases res with
        | ok x w' =>
          cases x <;> simp only [Oper.upon] at h
          case value v => have := L.defers_nil hK l _ _ h; rwa [hput] at this
          case skip => have := L.defers_nil hK l _ _ h; rwa [hput] at this
          case defer d => have := L.defers_nil hK l _ _ h; rw [hput] at this; cases this
          case enter f args =>
            obtain ⟨e, w'', fr, he, _⟩ := h []
            cases e with
            | returned v => have := L.defers_nil hK l _ _ he; rwa [hput] at this
            | panicked c => exact he.elim
            | outgrown => obtain ⟨_, _, hf⟩ := he; exact hf.elim
          case row row args =>
            obtain ⟨v, w'', he, _⟩ := h default []
            have := L.defers_nil hK l _ _ he; rwa [hput] at this
        | halt x w' =>
          cases x <;> simp only [Oper.upon] at h
          case panic v => exact h.elim
      · exact hf.elim
    · have := L.defers_nil hK l _ _ h; rwa [hput] at this
def noDefer (l : List Oper) : Bool := l.all fun o => match o.op with | .defer _ => false | _ => true
theorem LI.run {ops : Array Oper} {k : Kd} {l2 : List Oper} : ∀ (l1 : List Oper) (a : Act) (w : World), noDefer l1 = true → L P ops l1 (fun a' w' => a'.defers = [] ∧ LI r P ops l2 k ds a' w') a w → LI r P ops (l1 ++ l2) k ds a w
  | [], a, w, _, h => h.2
  | o :: l, a, w, hn, h => by
    have hput : ∀ (o : Option Tmp) (v : Value) (a : Act), (wd a ds).put o v = wd (a.put o v) ds := fun o v a => by cases o <;> rfl
    have hn' : noDefer l = true := by
      unfold noDefer at hn ⊢
      rw [List.all_cons, Bool.and_eq_true] at hn
      exact hn.2
    have hop : ∀ c, o.op ≠ .defer c := by
      intro c hc
      unfold noDefer at hn
      rw [List.all_cons, Bool.and_eq_true, hc] at hn
      exact absurd hn.1 (by simp)
    have hev : (wd a ds).eval = a.eval := by
      funext x; cases x <;> rfl
    show wpListIn (FR r) 0 P ops (LqI k) (o :: (l ++ l2)) (wd a ds) w
    unfold L wpList at h
    unfold wpListIn
    split at h
    · rename_i hw
      have hw' : Region.wanted o (yielded ops (wd a ds).tmps) = true := hw
      rw [if_pos hw']
      rcases h with h | ⟨_, _, _, hf⟩
      · refine ⟨fun _ _ => trivial, ?_⟩
        rw [hev, Oper.semAt_eq _ _ _ hop]
        unfold Oper.wp at h
        generalize (execOp a.eval o).run P w = res at h ⊢
        cases res with
        | ok x w' =>
          cases x <;> simp only [Oper.upon] at h
          case value v => show wpListIn _ _ _ _ _ _ _ _; rw [hput]; exact LI.run l _ _ hn' h
          case skip => show wpListIn _ _ _ _ _ _ _ _; rw [hput]; exact LI.run l _ _ hn' h
          case defer d =>
            have := L.defers_nil (P := P) (ops := ops) (fun a w h => h.1) l _ _ h
            cases hd : o.dst <;> rw [hd] at this <;> cases this
          case enter f args =>
            refine ⟨(fun h => by cases h), ?_⟩
            show CallsIn Fence.wide _ P f args w' _
            refine callsIn_wide.2 (Calls.mono h (fun e w'' he => ?_))
            cases e with
            | returned v => show wpListIn _ _ _ _ _ _ _ _; rw [hput]; exact LI.run l _ _ hn' he
            | panicked c => exact he.elim
            | outgrown => obtain ⟨_, _, hf⟩ := he; exact hf.elim
          case row row args =>
            refine ⟨(fun h => by cases h), fun c cs _ => ?_⟩
            obtain ⟨v, w'', he, hs⟩ := h c cs
            refine ⟨v, w'', ?_, ?_⟩
            · show wpListIn _ _ _ _ _ _ _ _; rw [hput]; exact LI.run l _ _ hn' he
            · exact (stepsIn_wide (P := P)).2 hs
        | halt x w' =>
          cases x <;> simp only [Oper.upon] at h
          case panic v => exact h.elim
      · exact hf.elim
    · rename_i hw
      have hw' : ¬ Region.wanted o (yielded ops (wd a ds).tmps) = true := hw
      rw [if_neg hw']
      refine ⟨fun _ _ => trivial, ?_⟩
      rw [hput]
      exact LI.run l _ _ hn' h
/-- A whole piece of operations: what follows is asked behind it. -/
theorem LI.pre {ops : Array Oper} {k : Kd} (l1 : List Oper) {l2 l : List Oper} (hl : l = l1 ++ l2) (hn : noDefer l1 = true) (h : L P ops l1 (fun a' w' => a'.defers = [] ∧ LI r P ops l2 k ds a' w') a w) : LI r P ops l k ds a w := by
  subst hl
  exact LI.run l1 a w hn h
theorem LI.nil {ops : Array Oper} {k : Kd} (hd : a.defers = []) (h : k ds a w) : LI r P ops [] k ds a w := by
  show k ds (wd (wd a ds) []) w
  rw [wd_back hd]; exact h
theorem L.mono {ops : Array Oper} {K K' : Kn} (hK : ∀ a w, K a w → K' a w) : ∀ (l : List Oper) (a : Act) (w : World), L P ops l K a w → L P ops l K' a w
  | [], a, w, h => hK a w h
  | o :: l, a, w, h => by
    unfold L wpList at h ⊢
    split
    · rename_i hw
      rw [if_pos hw] at h
      rcases h with h | ⟨_, _, _, hf⟩
      · left
        unfold Oper.wp at h ⊢
        generalize (execOp a.eval o).run P w = res at h ⊢
        cases res with
        | ok x w' =>
          cases x <;> simp only [Oper.upon] at h ⊢
          case value v => exact L.mono hK l _ _ h
          case skip => exact L.mono hK l _ _ h
          case defer d => exact L.mono hK l _ _ h
          case enter f args =>
            refine Calls.mono h (fun e w'' he => ?_)
            cases e with
            | returned v => exact L.mono hK l _ _ he
            | panicked c => exact he.elim
            | outgrown => obtain ⟨_, _, hf⟩ := he; exact hf.elim
          case row row args => exact Rows.mono h (fun v w'' he => L.mono hK l _ _ he)
        | halt x w' =>
          cases x <;> simp only [Oper.upon] at h ⊢
          case panic v => exact h.elim
      · exact hf.elim
    · rename_i hw
      rw [if_neg hw] at h
      exact L.mono hK l _ _ h
/-- A region without a call of yield. -/
theorem WI.reg {id : Nat} {l : List Oper} (hn : noDefer l = true) (h : L P l.toArray l (fun a' w' => a'.defers = [] ∧ kn ds a' w') a w) : WI r P (.region id l.toArray false) kn kx kr ds a w := by
  refine WI.region (LI.pre l (l2 := []) (by simp) hn ?_)
  exact L.mono (fun a w h => ⟨h.1, LI.nil h.1 h.2⟩) l a w h
end
end Go.Proofs.E
