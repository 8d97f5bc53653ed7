/- Open orders in the frame of a round, or of a function that ranges over a function. -/
import Derived.Test.YtgekiiildobfkaaE19
import Derived.OrdersIn
set_option linter.unusedVariables false
set_option linter.unusedSimpArgs false
set_option linter.unusedSectionVars false
namespace Go.Proofs.E
open Go.RowKit
section
variable {r : Option Nat} {P : Program} {kn : Kd} {kx : Nat → Kd} {kr : Kd} {ds : List Deferred} {a : Act} {w : World} {ops : Array Oper} {n : Nat} {S : Nat → Prop} {w0 : World} {ρ : Env} {μ : List Res}
theorem put_def (o : Option Tmp) (v : Value) (a : Act) : (a.put o v).defers = a.defers := by cases o <;> rfl
theorem wpOp_defers {Q : Exit → Act → World → Prop} {k : Kn} {K : Kn} {i : Nat} (hQ : Q = Lq k) (hK : ∀ a w, K a w → a.defers = []) (h : wpOp P ops Q i K a w) : a.defers = [] := by
  subst hQ
  unfold wpOp at h
  cases ho : ops[i]? with
  | none => rw [ho] at h; exact hK _ _ h
  | some o =>
    simp only [ho] at h
    split at h
    · rcases h with h | ⟨_, _, _, hf⟩
      · unfold Oper.wp at h
        generalize (execOp a.eval o).run P w = res at h
        cases res with
        | ok x w' =>
          cases x <;> simp only [Oper.upon] at h
          case value v => have := hK _ _ h; rwa [put_def] at this
          case skip => have := hK _ _ h; rwa [put_def] at this
          case defer d => have := hK _ _ h; rw [put_def] at this; cases this
          case enter f args =>
            obtain ⟨e, w'', fr, he, _⟩ := h []
            cases e with
            | returned v => have := hK _ _ he; rwa [put_def] at this
            | panicked c => exact he.elim
            | outgrown => obtain ⟨_, _, hf⟩ := he; exact hf.elim
          case row row args =>
            obtain ⟨v, w'', he, _⟩ := h default []
            have := hK _ _ he; rwa [put_def] at this
        | halt x w' =>
          cases x <;> simp only [Oper.upon] at h
          case panic v => exact h.elim
      · exact hf.elim
    · have := hK _ _ h; rwa [put_def] at this
theorem wpAny_defers {k : Kn} {md : Region.Mode} (hk : ∀ a w, k a w → a.defers = []) : ∀ (fuel : Nat) (listed : Array Bool) (a : Act) (w : World), wpAny P md ops (Lq k) fuel listed a w → a.defers = []
  | 0, listed, a, w, h => hk a w h.2
  | fuel + 1, listed, a, w, h => by
    cases hr : Region.ready md ops listed with
    | nil => exact hk a w (h.1 hr)
    | cons i rs => exact wpOp_defers rfl (wpAny_defers hk fuel _) (h.2 i (by rw [hr]; exact List.mem_cons_self ..))
theorem wpOp_In {k : Kn} {K : Kn} {K' : Kn} {Q : Exit → Act → World → Prop} {i : Nat} (hno : noDefer ops.toList = true) (hK : ∀ a w, K a w → a.defers = []) (hKK : ∀ a w, K a w → K' (wd a ds) w) (h : wpOp P ops (Lq k) i K a w) : wpOpIn (FR r) 0 P ops Q i K' (wd a ds) w := by
  have hput : ∀ (o : Option Tmp) (v : Value) (a : Act), (wd a ds).put o v = wd (a.put o v) ds := fun o v a => by cases o <;> rfl
  have hev : (wd a ds).eval = a.eval := by funext x; cases x <;> rfl
  unfold wpOp at h
  unfold wpOpIn
  cases ho : ops[i]? with
  | none => simp only [ho] at h ⊢; exact hKK _ _ h
  | some o =>
    simp only [ho] at h ⊢
    have hop : ∀ c, o.op ≠ .defer c := by
      intro c hc
      unfold noDefer at hno
      have hm : o ∈ ops.toList := by
        have := Array.mem_of_getElem? ho
        simpa using this
      have := List.all_eq_true.1 hno o hm
      rw [hc] at this
      simp at this
    split at h
    · rename_i hw
      have hw' : Region.wanted o (yielded ops (wd a ds).tmps) = true := hw
      rw [if_pos hw']
      rcases h with h | ⟨_, _, _, hf⟩
      · refine ⟨fun _ _ => trivial, ?_⟩
        rw [hev, Oper.semAt_eq _ _ _ hop]
        unfold Oper.wp at h
        generalize (execOp a.eval o).run P w = res at h ⊢
        cases res with
        | ok x w' =>
          cases x <;> simp only [Oper.upon] at h
          case value v => show K' _ _; rw [hput]; exact hKK _ _ h
          case skip => show K' _ _; rw [hput]; exact hKK _ _ h
          case defer d => have := hK _ _ h; rw [put_def] at this; cases this
          case enter f args =>
            refine ⟨(fun h => by cases h), ?_⟩
            show CallsIn Fence.wide _ P f args w' _
            refine callsIn_wide.2 (Calls.mono h (fun e w'' he => ?_))
            cases e with
            | returned v => show K' _ _; rw [hput]; exact hKK _ _ he
            | panicked c => exact he.elim
            | outgrown => obtain ⟨_, _, hf⟩ := he; exact hf.elim
          case row row args =>
            refine ⟨(fun h => by cases h), fun c cs _ => ?_⟩
            obtain ⟨v, w'', he, hs⟩ := h c cs
            refine ⟨v, w'', ?_, ?_⟩
            · show K' _ _; rw [hput]; exact hKK _ _ he
            · exact (stepsIn_wide (P := P)).2 hs
        | halt x w' =>
          cases x <;> simp only [Oper.upon] at h
          case panic v => exact h.elim
      · exact hf.elim
    · rename_i hw
      have hw' : ¬ Region.wanted o (yielded ops (wd a ds).tmps) = true := hw
      rw [if_neg hw']
      refine ⟨fun _ _ => trivial, ?_⟩
      rw [hput]
      exact hKK _ _ h
theorem wpAny_In {k : Kn} {k' : Kd} {md : Region.Mode} (hno : noDefer ops.toList = true) (hk : ∀ a w, k a w → a.defers = [] ∧ k' ds a w) : ∀ (fuel : Nat) (listed : Array Bool) (a : Act) (w : World), wpAny P md ops (Lq k) fuel listed a w → wpAnyIn (FR r) 0 P md ops (LqI k') fuel listed (wd a ds) w
  | 0, listed, a, w, h => ⟨h.1, by
      have := hk a w h.2
      show k' ds (wd (wd a ds) []) w
      rw [wd_back this.1]; exact this.2⟩
  | fuel + 1, listed, a, w, h => ⟨fun hr => by
      have := hk a w (h.1 hr)
      show k' ds (wd (wd a ds) []) w
      rw [wd_back this.1]; exact this.2, fun i hi => wpOp_In hno (wpAny_defers (fun a w h => (hk a w h).1) fuel _) (fun a w h => wpAny_In hno hk fuel _ a w h) (h.2 i hi)⟩
theorem WI.any {id : Nat} {l : List Oper} {k : Kn} (hm : P.follows .mixedOrders = true) (hno : noDefer l = true) (hk : ∀ a w, k a w → a.defers = [] ∧ kn ds a w)
    (h : wpAny P .any l.toArray (Lq k) l.toArray.size (Array.replicate l.toArray.size false) a { w with drawn := w.drawn + 1 }) : WI r P (.region id l.toArray true) kn kx kr ds a w := by
  have h2 := wpAny_In (r := r) (ds := ds) (k' := kn) (by simpa using hno) hk _ _ _ _ h
  exact wpIn_mono (wpIn_region_any (Q := LqI kn) hm h2) (fun e a w hq => by cases e <;> first | exact hq | exact hq.elim)
theorem WI.drawN {id : Nat} {l : List Oper} (hno : noDefer l = true) (M : Nat → Value → List Res) (γ0 : Value) (hC : Conf n S w0 ρ (M 0 γ0) a w) (hm : P.follows .mixedOrders = true) (he : edgesOK 0 l = true) (hf : freshOK ρ l = true)
    (h : ERN P l.toArray n S w0 ρ M l [] 0 0 none (fun c es => ∀ γ w', EPre n S w0 (fun a w'' => w'' = w' → a.defers = [] ∧ kn ds a w'') γ es ρ (M c γ))) : WI r P (.region id l.toArray true) kn kx kr ds a w :=
  WI.any hm hno (fun _ _ h => h) (W.drawE_any M γ0 hC hm he hf (h rfl))
theorem WI.drawD {id : Nat} {l : List Oper} (hno : noDefer l = true) (hC : Conf n S w0 ρ μ a w) (hm : P.follows .mixedOrders = true) (he : edgesOK 0 l = true) (hf : freshOK ρ l = true)
    (h : DRN P l.toArray n S w0 ρ μ l [] 0 (fun es => ∀ w', Frm Nob w w' → DPre n S w0 (fun a w'' => w'' = w' → a.defers = [] ∧ kn ds a w'') es ρ μ)) : WI r P (.region id l.toArray true) kn kx kr ds a w :=
  WI.any hm hno (fun _ _ h => h) (W.draw_any hC hm he hf (h rfl))
theorem LI.preN {k : Kd} (i : Nat) {l : List Oper} (hn : noDefer (l.take i) = true) (h : L P ops (l.take i) (fun a' w' => a'.defers = [] ∧ LI r P ops (l.drop i) k ds a' w') a w) : LI r P ops l k ds a w :=
  LI.pre (l.take i) (List.take_append_drop i l).symm hn h
theorem leave1' {fn : Func} {R : Ending → World → Prop} {D : Nat} (hC : Conf n S w0 ρ (markR D :: μ) a w) (hS : w0.heap.size ≤ D) (h : ∀ w', Conf n S w0 ρ μ a w' → Kr P fn R a w') : LeavesInM (FR none) 0 P fn a.tmps R [mark D] .returning w :=
  leave1 (hC.perm ((List.perm_append_comm (l₁ := [markR D])).trans (by simp))) hS h
end
end Go.Proofs.E
