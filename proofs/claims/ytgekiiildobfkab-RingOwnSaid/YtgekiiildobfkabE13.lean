/- The same rules for statements whose order is open, with what went ahead kept by its number (quicker to look up). -/
import Derived.Test.YtgekiiildobfkabE12
set_option linter.unusedVariables false
set_option linter.unusedSimpArgs false
set_option linter.unusedSectionVars false
namespace Go.Proofs.E
open Go.RowKit

theorem cells_sl {v : Value} {m : Nat} (h : ∃ A c, v = .slice A m c) : cellsL v = [v] := by obtain ⟨A, c, rfl⟩ := h; rfl
theorem one_sl {v : Value} {m : Nat} (h : ∃ A c, v = .slice A m c) : oneAll [v] = true := by obtain ⟨A, c, rfl⟩ := h; rfl
/-- What was only read is as it was. -/
theorem Frm.unblk {S S' : Nat → Prop} {w0 w : World} {b : Nat} {vs : List Value} {ty : TypeId} (h : Frm S w0 w) (hs : ∀ c, S c → c = b ∨ S' c) (h0 : (blkR b vs ty).ok w0) (h1 : (blkR b vs ty).ok w) : Frm S' w0 w :=
  ⟨h.os, h.tape, h.output, h.size, fun k hk hn => by
    by_cases hb : k = b
    · subst hb
      have e0 : w0.heap[k]? = some (.cells vs.toArray ty (0, 0)) := h0
      have e1 : w.heap[k]? = some (.cells vs.toArray ty (0, 0)) := h1
      rw [e0, e1]
    · exact h.block k hk (fun hS => (hs k hS).elim hb hn), h.drawn⟩
theorem Conf.hd {n : Nat} {S : Nat → Prop} {w0 : World} {ρ : Env} {r r' : Res} {μ : List Res} {a : Act} {w : World} (h : Conf n S w0 ρ (r :: μ) a w) (e : r = r') : Conf n S w0 ρ (r' :: μ) a w := e ▸ h
theorem Conf.drop {n : Nat} {S : Nat → Prop} {w0 : World} {ρ : Env} {μ : List Res} {a : Act} {w : World} (h : Conf n S w0 ρ μ a w) : Conf n S w0 ρ [] a w := ⟨h.env, Mem.nil _, h.frm, by simp⟩
theorem Conf.one {n : Nat} {S : Nat → Prop} {w0 : World} {ρ : Env} {r : Res} {μ : List Res} {a : Act} {w : World} (h : Conf n S w0 ρ μ a w) (hm : r ∈ μ) : Conf n S w0 ρ [r] a w :=
  ⟨h.env, ⟨by simpa using h.at hm, by simp⟩, h.frm, fun s hs => h.own s (by simp at hs; rw [hs]; exact hm)⟩
theorem Conf.subl {n : Nat} {S : Nat → Prop} {w0 : World} {ρ : Env} {μ ν : List Res} {a : Act} {w : World} (h : Conf n S w0 ρ μ a w) (hs : ν.Sublist μ) : Conf n S w0 ρ ν a w :=
  ⟨h.env, ⟨fun r hr => h.mem.1 r (hs.subset hr), h.mem.2.sublist hs⟩, h.frm, fun r hr => h.own r (hs.subset hr)⟩
theorem geti {ρ : Env} {i : Nat} {k : IntKind} {a b : Int} {g : Option Bool} (h : ρ.get i = some (g, .int k a)) (e : a = b) : ρ.get i = some (g, .int k b) := by rw [h, e]
/-- A slot said otherwise. -/
theorem Conf.slot {n : Nat} {S : Nat → Prop} {w0 : World} {ρ : Env} {μ : List Res} {a : Act} {w : World} (h : Conf n S w0 ρ μ a w) {d : Nat} {s : Slot} (hs : ρ.get d = some s) : Conf n S w0 ((d, s) :: ρ) μ a w :=
  h.sub (fun i t hi => by
    simp only [Env.get] at hi
    by_cases hd : d = i
    · subst hd
      simp only [Nat.beq_refl, cond_true, Option.some.injEq] at hi
      subst hi; exact hs
    · have hb : Nat.beq d i = false := by
        cases hb : Nat.beq d i with
        | false => rfl
        | true => exact absurd (Nat.eq_of_beq_eq_true hb) hd
      rw [hb] at hi; exact hi)
def look {α : Type} : List (Nat × α) → Nat → Option α
  | [], _ => none
  | (i, x) :: r, k => bif Nat.beq i k then some x else look r k
def unnum {α : Type} : List (Nat × α) → List α → List α
  | [], acc => acc
  | (_, x) :: r, acc => unnum r (x :: acc)
theorem unnum_app {α : Type} : ∀ (l : List (Nat × α)) (acc : List α), unnum l acc = unnum l [] ++ acc
  | [], acc => rfl
  | (i, x) :: r, acc => by rw [unnum, unnum_app r (x :: acc), unnum, unnum_app r [x], List.append_assoc]; rfl
/-- The numbers count from nothing. -/
def Num {α : Type} : List (Nat × α) → Nat → Prop
  | [], n => n = 0
  | (i, _) :: r, n => n = i + 1 ∧ Num r i
theorem Num.length {α : Type} : ∀ {l : List (Nat × α)} {n : Nat}, Num l n → (unnum l []).length = n
  | [], n, h => by simp [unnum]; exact h.symm
  | (i, x) :: r, n, h => by
    rw [unnum, unnum_app]
    simp [Num.length h.2, h.1]
theorem Num.look {α : Type} : ∀ {l : List (Nat × α)} {n : Nat}, Num l n → ∀ k, look l k = (unnum l [])[k]?
  | [], n, h, k => by simp [E.look, unnum]
  | (i, x) :: r, n, h, k => by
    have hl := h.2.length
    rw [unnum, unnum_app]
    simp only [E.look]
    by_cases hk : i = k
    · subst hk
      rw [List.getElem?_append_right (by omega), hl]
      simp
    · have hb : Nat.beq i k = false := by
        cases hb : Nat.beq i k with
        | false => rfl
        | true => exact absurd (Nat.eq_of_beq_eq_true hb) hk
      rw [hb, cond_false, Num.look h.2 k]
      by_cases hlt : k < i
      · rw [List.getElem?_append_left (by omega)]
      · rw [List.getElem?_append_right (by omega), List.getElem?_eq_none (by omega)]
        rw [hl, List.getElem?_singleton, if_neg (by omega)]
def depsN {α : Type} (es : List (Nat × α)) : List Edge → List α
  | [] => []
  | e :: r =>
    bif Region.binds .any e then
      match look es e.on with
      | some x => x :: depsN es r
      | none => depsN es r
    else depsN es r
theorem depsN_E {es : List (Nat × EE)} {n : Nat} (h : Num es n) : ∀ l : List Edge, depsE (unnum es []) l = depsN es l
  | [] => rfl
  | e :: r => by
    simp only [depsE, depsN, h.look e.on, depsN_E h r]
    cases Region.binds .any e <;> simp only [cond_true, cond_false]
    cases (unnum es [])[e.on]? <;> rfl
theorem depsN_D {es : List (Nat × DE)} {n : Nat} (h : Num es n) : ∀ l : List Edge, depsOf (unnum es []) l = depsN es l
  | [] => rfl
  | e :: r => by
    simp only [depsOf, depsN, h.look e.on, depsN_D h r]
    cases Region.binds .any e <;> simp only [cond_true, cond_false]
    cases (unnum es [])[e.on]? <;> rfl

section
variable {P : Program} {ops : Array Oper} {n : Nat} {S : Nat → Prop} {w0 : World} {ρ : Env} {M : Nat → Value → List Res} {a : Act} {w : World} {μ : List Res}
def ERN (P : Program) (ops : Array Oper) (n : Nat) (S : Nat → Prop) (w0 : World) (ρ : Env) (M : Nat → Value → List Res) (l : List Oper) (es : List (Nat × EE)) (i c : Nat) (last : Option Nat) (F : Nat → List EE → Prop) : Prop :=
  Num es i → ER P ops n S w0 ρ M l (unnum es []) c last F
theorem ERN.nil {es : List (Nat × EE)} {i c : Nat} {last : Option Nat} {F : Nat → List EE → Prop} (h : F c (unnum es [])) : ERN P ops n S w0 ρ M [] es i c last F := fun _ => ER.nil h
theorem ERN.q {o : Oper} {rest : List Oper} {es : List (Nat × EE)} {i c : Nat} {last : Option Nat} {F : Nat → List EE → Prop} (e : DE) (lim : Nat) (hd : o.dst = some e.d) (hc : Nat.ble c lim = true)
    (h : ∀ c' γ, c' ≤ lim → EPre n S w0 (fun a w => L P ops [o] (QPost n S w0 (M c' γ) e w) a w) γ (depsN es o.after.toList) ρ (M c' γ)) (t : ERN P ops n S w0 ρ M rest ((i, .q e lim) :: es) (i + 1) c last F) : ERN P ops n S w0 ρ M (o :: rest) es i c last F := fun hN => by
  refine ER.q e lim hd hc (fun c' γ hc' => by rw [depsN_E hN]; exact h c' γ hc') ?_
  have := t ⟨rfl, hN⟩
  rwa [unnum, unnum_app] at this
theorem ERN.f {o : Oper} {rest : List Oper} {es : List (Nat × EE)} {i c : Nat} {last : Option Nat} {F : Nat → List EE → Prop} (gh : Bool) (hg : gh = true → noGh (unnum es []) = true) (hl : lastOK last o.after.toList = true) (hn : needOK c o.after.toList 0 (unnum es []) = true)
    (h : ∀ γ, EPre n S w0 (fun a w => L P ops [o] (FPost n S w0 M c γ o.dst gh w) a w) γ (depsN es o.after.toList) ρ (M c γ)) (t : ERN P ops n S w0 ρ M rest ((i, .f o.dst gh) :: es) (i + 1) (c + 1) (some i) F) : ERN P ops n S w0 ρ M (o :: rest) es i c last F := fun hN => by
  refine ER.f gh hg hl hn (fun γ => by rw [depsN_E hN]; exact h γ) ?_
  have := t ⟨rfl, hN⟩
  rw [hN.length]
  rwa [unnum, unnum_app] at this
theorem ERN.k {o : Oper} {rest : List Oper} {es : List (Nat × EE)} {i c : Nat} {last : Option Nat} {F : Nat → List EE → Prop} (hl : lastOK last o.after.toList = true) (hn : needOK c o.after.toList 0 (unnum es []) = true)
    (h : ∀ γ, EPre n S w0 (fun a w => L P ops [o] (FPostK n S w0 M c γ o.dst true true w) a w) γ (depsN es o.after.toList) ρ (M c γ)) (t : ERN P ops n S w0 ρ M rest ((i, .f o.dst true) :: es) (i + 1) (c + 1) (some i) F) : ERN P ops n S w0 ρ M (o :: rest) es i c last F := fun hN => by
  refine ER.k hl hn (fun γ => by rw [depsN_E hN]; exact h γ) ?_
  have := t ⟨rfl, hN⟩
  rw [hN.length]
  rwa [unnum, unnum_app] at this
theorem W.drawN {id : Nat} {l : List Oper} {kn : Kn} {kx : Nat → Kn} {kr : Kn} (M : Nat → Value → List Res) (γ0 : Value) (hC : Conf n S w0 ρ (M 0 γ0) a w) (hm : P.follows .mixedOrders = true) (he : edgesOK 0 l = true) (hf : freshOK ρ l = true)
    (h : ERN P l.toArray n S w0 ρ M l [] 0 0 none (fun c es => ∀ γ w', EPre n S w0 (fun a w'' => w'' = w' → kn a w'') γ es ρ (M c γ))) : W P (.region id l.toArray true) kn kx kr a w :=
  W.drawE M γ0 hC hm he hf (h rfl)

def DRN (P : Program) (ops : Array Oper) (n : Nat) (S : Nat → Prop) (w0 : World) (ρ : Env) (μ : List Res) (l : List Oper) (es : List (Nat × DE)) (i : Nat) (F : List DE → Prop) : Prop :=
  Num es i → DR P ops n S w0 ρ μ l (unnum es []) F
theorem DRN.nil {es : List (Nat × DE)} {i : Nat} {F : List DE → Prop} (h : F (unnum es [])) : DRN P ops n S w0 ρ μ [] es i F := fun _ => DR.nil h
theorem W.drawD {id : Nat} {l : List Oper} {kn : Kn} {kx : Nat → Kn} {kr : Kn} (hC : Conf n S w0 ρ μ a w) (hm : P.follows .mixedOrders = true) (he : edgesOK 0 l = true) (hf : freshOK ρ l = true)
    (h : DRN P l.toArray n S w0 ρ μ l [] 0 (fun es => ∀ w', Frm Nob w w' → DPre n S w0 (fun a w'' => w'' = w' → kn a w'') es ρ μ)) : W P (.region id l.toArray true) kn kx kr a w :=
  W.draw hC hm he hf (h rfl)
theorem DRN.cons {o : Oper} {rest : List Oper} {es : List (Nat × DE)} {i : Nat} {F : List DE → Prop} (e : DE) (hd : o.dst = some e.d) (h : DPre n S w0 (fun a w => L P ops [o] (fun a' w' => DPost n S w0 μ e a' w' ∧ Frm Nob w w') a w) (depsN es o.after.toList) ρ μ)
    (t : DRN P ops n S w0 ρ μ rest ((i, e) :: es) (i + 1) F) : DRN P ops n S w0 ρ μ (o :: rest) es i F := fun hN => by
  refine DR.cons e hd (by rw [depsN_D hN]; exact h) ?_
  have := t ⟨rfl, hN⟩
  rwa [unnum, unnum_app] at this
end
end Go.Proofs.E
