/- A statement whose order Go leaves open but for its last operation, which comes behind all others. -/
import Derived.Test.YtgekiiildobfkabE13
set_option linter.unusedVariables false
set_option linter.unusedSimpArgs false
set_option linter.unusedSectionVars false
namespace Go.Proofs.E
open Go.RowKit
def guardsOK (n : Nat) (l : List Oper) : Bool := l.all fun o => match o.guard with
  | none => true
  | some p => Nat.blt p.1 n
def lastAll (n : Nat) (o : Oper) : Bool := ((List.range n).all fun i => edgeTo o.after.toList i) && o.after.toList.all fun e => !(Region.binds .any e) || Nat.blt e.on n
section
variable {P : Program} {ops : Array Oper} {n : Nat} {S : Nat → Prop} {w0 : World} {ρ : Env} {M : Nat → Value → List Res} {a : Act} {w : World} {μ : List Res}
theorem wpOp_swap {ops ops' : Array Oper} {k k' X : Kn} {i : Nat} {a : Act} {w : World} (ho : ops[i]? = ops'[i]?) (hw : ∀ o, ops[i]? = some o → Region.wanted o (yielded ops a.tmps) = Region.wanted o (yielded ops' a.tmps))
    (h : wpOp P ops (Lq k) i X a w) : wpOp P ops' (Lq k') i X a w := by
  unfold wpOp at h ⊢
  rw [← ho]
  cases hs : ops[i]? with
  | none => rw [hs] at h; exact h
  | some o =>
    rw [hs] at h
    simp only at h ⊢
    rw [← hw o hs]
    split
    · rename_i hwt
      rw [if_pos hwt] at h
      rcases h with h | ⟨_, _, _, hf⟩
      · left
        unfold Oper.wp at h ⊢
        generalize (execOp a.eval o).run P w = res at h ⊢
        cases res with
        | ok x w' =>
          cases x <;> simp only [Oper.upon] at h ⊢
          case value v => exact h
          case skip => exact h
          case defer d => exact h
          case enter f args =>
            refine Calls.mono h (fun e w'' he => ?_)
            cases e with
            | returned v => exact he
            | panicked c => exact he.elim
            | outgrown => obtain ⟨_, _, hf⟩ := he; exact hf.elim
          case row row args => exact h
        | halt x w' =>
          cases x <;> simp only [Oper.upon] at h ⊢
          case panic v => exact h.elim
      · exact hf.elim
    · rename_i hwt
      rw [if_neg hwt] at h
      exact h
theorem wanted_app {l : List Oper} {o x : Oper} {tmps : Array Value} (hg : ∀ p, x.guard = some p → p.1 < l.length) : Region.wanted x (yielded l.toArray tmps) = Region.wanted x (yielded (l ++ [o]).toArray tmps) := by
  unfold Region.wanted
  cases h : x.guard with
  | none => rfl
  | some p =>
    have hp := hg p h
    simp only
    have : yielded l.toArray tmps p.1 = yielded (l ++ [o]).toArray tmps p.1 := by
      unfold yielded
      simp [List.getElem?_append_left hp]
    rw [this]
theorem getD_push {l : Array Bool} {i : Nat} {d : Bool} (h : i < l.size) : (l.push false).getD i d = l.getD i d := by
  simp only [Array.getD_eq_getD_getElem?]
  rw [Array.getElem?_push_lt (by exact h), Array.getElem?_eq_getElem h]
theorem wpAny_last {l : List Oper} {o : Oper} {kn : Kn} (he : edgesOK 0 l = true) (ha : lastAll l.length o = true) (hg : guardsOK l.length l = true) :
    ∀ (fuel : Nat) (listed : Array Bool) (a : Act) (w : World), listed.size = l.length → wpAny P .any l.toArray (Lq fun a w => wpOp P (l ++ [o]).toArray (Lq kn) l.length kn a w) fuel listed a w → wpAny P .any (l ++ [o]).toArray (Lq kn) (fuel + 1) (listed.push false) a w := by
  have ha1 : ∀ i, i < l.length → edgeTo o.after.toList i = true := fun i hi => List.all_eq_true.1 (Bool.and_eq_true_iff.1 ha).1 i (List.mem_range.2 hi)
  have ha2 : ∀ e ∈ o.after, Region.binds .any e = true → e.on < l.length := fun e hm hb => by
    have := List.all_eq_true.1 (Bool.and_eq_true_iff.1 ha).2 e (by simpa using hm)
    rw [hb] at this
    have h2 : Nat.blt e.on l.length = true := by simpa using this
    exact Nat.le_of_ble_eq_true h2
  have at1 : ∀ i, i < l.length → (l ++ [o]).toArray[i]? = l.toArray[i]? := fun i hi => by simp [List.getElem?_append_left hi]
  have at2 : (l ++ [o]).toArray[l.length]? = some o := by simp
  have out : ∀ i x, (l ++ [o]).toArray[i]? = some x → i < l.length ∨ i = l.length := fun i x h => by
    have := (Array.getElem?_eq_some_iff.1 h).1
    simp at this; omega
  have A : ∀ (listed : Array Bool) (i : Nat), listed.size = l.length → i < l.length → (i ∈ Region.ready .any (l ++ [o]).toArray (listed.push false) ↔ i ∈ Region.ready .any l.toArray listed) := by
    intro listed i hsz hi
    have edge : ∀ x, l.toArray[i]? = some x → ∀ e ∈ x.after, Region.binds .any e = true → e.on < listed.size := fun x hx e hm hb => by
      have := edgesOK_spec he i x (by simpa using hx) e hm hb
      omega
    rw [mem_ready, mem_ready, at1 i hi, getD_push (by omega)]
    constructor
    · rintro ⟨h1, x, h2, h3⟩
      exact ⟨h1, x, h2, fun e hm hb => by rw [← getD_push (edge x h2 e hm hb)]; exact h3 e hm hb⟩
    · rintro ⟨h1, x, h2, h3⟩
      exact ⟨h1, x, h2, fun e hm hb => by rw [getD_push (edge x h2 e hm hb)]; exact h3 e hm hb⟩
  have C : ∀ (listed : Array Bool), listed.size = l.length → Region.ready .any l.toArray listed = [] → ∀ i, i < l.length → listed.getD i false = true := by
    intro listed hsz hr i
    induction i using Nat.strongRecOn with
    | _ i ih =>
      intro hi
      cases hli : listed.getD i false with
      | true => rfl
      | false =>
        exfalso
        have hin : i ∈ Region.ready .any l.toArray listed := by
          refine mem_ready.2 ⟨?_, l[i], by simp [hi], fun e hm' hb => ?_⟩
          · have hi' : i < listed.size := by omega
            simp only [Array.getD_eq_getD_getElem?, Array.getElem?_eq_getElem hi', Option.getD_some] at hli ⊢
            exact hli
          · have := edgesOK_spec he i l[i] (by simp [hi]) e hm' hb
            exact ih e.on (by omega) (by omega)
        rw [hr] at hin
        cases hin
  have Cn : ∀ (listed : Array Bool), listed.size = l.length → (∀ i, i < l.length → listed.getD i false = true) → l.length ∈ Region.ready .any (l ++ [o]).toArray (listed.push false) := by
    intro listed hsz hall
    refine mem_ready.2 ⟨?_, o, at2, fun e hm hb => ?_⟩
    · rw [← hsz]; simp
    · have := ha2 e hm hb
      rw [getD_push (by omega)]
      exact hall _ this
  have B : ∀ (listed : Array Bool), listed.size = l.length → l.length ∈ Region.ready .any (l ++ [o]).toArray (listed.push false) → Region.ready .any l.toArray listed = [] := by
    intro listed hsz hin
    obtain ⟨_, x, h2, h3⟩ := mem_ready.1 hin
    rw [at2] at h2
    obtain rfl := Option.some.inj h2
    refine List.eq_nil_iff_forall_not_mem.2 fun i hi => ?_
    obtain ⟨h4, y, h5, _⟩ := mem_ready.1 hi
    have hi' : i < l.length := by have := (Array.getElem?_eq_some_iff.1 h5).1; simpa using this
    obtain ⟨e, g1, g2, g3⟩ := edgeTo_spec (ha1 i hi')
    have := h3 e (by simpa using g1) g2
    rw [g3, getD_push (by omega)] at this
    have hi2 : i < listed.size := by omega
    simp only [Array.getD_eq_getD_getElem?, Array.getElem?_eq_getElem hi2, Option.getD_some] at this h4
    rw [this] at h4; cases h4
  have D : ∀ (listed : Array Bool), listed.size = l.length → Region.ready .any l.toArray listed = [] → Region.ready .any (l ++ [o]).toArray ((listed.push false).setIfInBounds l.length true) = [] := by
    intro listed hsz hr
    refine List.eq_nil_iff_forall_not_mem.2 fun i hi => ?_
    obtain ⟨h4, y, h5, _⟩ := mem_ready.1 hi
    rcases out i y h5 with hi' | rfl
    · have := C listed hsz hr i hi'
      rw [getD_set_ne true (by omega), getD_push (by omega)] at h4
      have hi2 : i < listed.size := by omega
      simp only [Array.getD_eq_getD_getElem?, Array.getElem?_eq_getElem hi2, Option.getD_some] at this h4
      rw [this] at h4; cases h4
    · have : ((listed.push false).setIfInBounds l.length true).getD l.length true = true := by
        have hlt : l.length < (listed.push false).size := by simp; omega
        simp [hlt]
      rw [this] at h4; cases h4
  have G : ∀ (i : Nat) (x : Oper) (tmps : Array Value), l.toArray[i]? = some x → Region.wanted x (yielded l.toArray tmps) = Region.wanted x (yielded (l ++ [o]).toArray tmps) := fun i x tmps hx => by
    refine wanted_app (fun p hp => ?_)
    have hm : x ∈ l := by
      have : l[i]? = some x := by simpa using hx
      exact List.mem_of_getElem? this
    have := List.all_eq_true.1 hg x hm
    rw [hp] at this
    exact Nat.le_of_ble_eq_true this
  intro fuel
  induction fuel with
  | zero =>
    rintro listed a w hsz ⟨hr, hk⟩
    refine ⟨fun h0 => ?_, fun i hi => ?_⟩
    · have := Cn listed hsz (C listed hsz hr)
      rw [h0] at this; cases this
    · obtain ⟨_, y, h5, _⟩ := mem_ready.1 hi
      rcases out i y h5 with hi' | rfl
      · rw [A listed i hsz hi', hr] at hi; cases hi
      · exact wpOp_mono (fun a' w' hk' => ⟨D listed hsz hr, hk'⟩) hk
  | succ fuel ih =>
    rintro listed a w hsz ⟨h0, hs⟩
    refine ⟨fun hr => ?_, fun i hi => ?_⟩
    · exfalso
      have hrl : Region.ready .any l.toArray listed = [] := by
        refine List.eq_nil_iff_forall_not_mem.2 fun i hi => ?_
        obtain ⟨_, y, h5, _⟩ := mem_ready.1 hi
        have hi' : i < l.length := by have := (Array.getElem?_eq_some_iff.1 h5).1; simpa using this
        rw [← A listed i hsz hi', hr] at hi; cases hi
      have := Cn listed hsz (C listed hsz hrl)
      rw [hr] at this; cases this
    · obtain ⟨_, y, h5, _⟩ := mem_ready.1 hi
      rcases out i y h5 with hi' | rfl
      · have hs' := hs i ((A listed i hsz hi').1 hi)
        have e1 : (listed.push false).setIfInBounds i true = (listed.setIfInBounds i true).push false := by
          apply Array.ext_getElem?
          intro j
          simp only [Array.getElem?_setIfInBounds, Array.getElem?_push, Array.size_setIfInBounds, Array.size_push]
          by_cases hij : i = j
          · subst hij
            have h1 : ¬ i = listed.size := by omega
            simp [h1, show i < listed.size by omega, show i < listed.size + 1 by omega]
          · simp [hij]
        rw [e1]
        exact wpOp_swap (at1 i hi').symm (fun x hx => G i x a.tmps hx) (wpOp_mono (fun a' w' h' => ih _ a' w' (by simpa using hsz) h') hs')
      · have hrl := B listed hsz hi
        exact wpOp_mono (fun a' w' hk' => ⟨fun _ => hk', fun j hj => by rw [D listed hsz hrl] at hj; cases hj⟩) (h0 hrl)
theorem wpOp_last {o : Oper} {i : Nat} {k : Kn} {a : Act} {w : World} (ho : ops[i]? = some o) (h : L P ops [o] k a w) : wpOp P ops (Lq k) i k a w := by
  unfold wpOp
  unfold L wpList at h
  simp only [ho]
  exact h
theorem wpAny_monoK {k k' : Kn} (hk : ∀ a w, k a w → k' a w) : ∀ (fuel : Nat) (listed : Array Bool) (a : Act) (w : World), wpAny P .any ops (Lq k) fuel listed a w → wpAny P .any ops (Lq k') fuel listed a w
  | 0, listed, a, w, h => ⟨h.1, hk _ _ h.2⟩
  | fuel + 1, listed, a, w, h => ⟨fun hr => hk _ _ (h.1 hr), fun i hi => wpOp_swap rfl (fun _ _ => rfl) (wpOp_mono (fun a' w' h' => wpAny_monoK hk fuel _ a' w' h') (h.2 i hi))⟩
theorem W.drawL {id : Nat} {l' : List Oper} {o : Oper} {kn : Kn} {kx : Nat → Kn} {kr : Kn} (M : Nat → Value → List Res) (γ0 : Value) (hC : Conf n S w0 ρ (M 0 γ0) a w) (hm : P.follows .mixedOrders = true) (hl : l'.getLast? = some o) (he : edgesOK 0 l'.dropLast = true) (hf : freshOK ρ l'.dropLast = true)
    (ha : lastAll l'.dropLast.length o = true) (hg : guardsOK l'.dropLast.length l'.dropLast = true)
    (h : ERN P l'.dropLast.toArray n S w0 ρ M l'.dropLast [] 0 0 none (fun c es => ∀ γ w', EPre n S w0 (fun a w'' => w'' = w' → L P l'.toArray [o] kn a w'') γ es ρ (M c γ))) : W P (.region id l'.toArray true) kn kx kr a w := by
  have hl' : l' = l'.dropLast ++ [o] := by
    have := List.getLast?_eq_some_iff.1 hl
    obtain ⟨ys, hy⟩ := this
    rw [hy]; simp
  have key := W.drawE_any M γ0 hC hm he hf (h rfl)
  have k2 := wpAny_last (kn := kn) he ha hg _ _ a _ (by simp) (wpAny_monoK (fun a w h2 => by
    have e : (l'.dropLast ++ [o]).toArray[l'.dropLast.length]? = some o := by rw [List.getElem?_toArray, List.getElem?_append_right (Nat.le_refl _), Nat.sub_self]; rfl
    exact wpOp_last e (by rw [← hl']; exact h2)) _ _ _ _ key)
  rw [← hl'] at k2
  have hsz : l'.toArray.size = l'.dropLast.length + 1 := by
    rw [show l'.toArray.size = l'.length by simp, congrArg List.length hl']; simp
  have hrep : (Array.replicate l'.dropLast.toArray.size false).push false = Array.replicate l'.toArray.size false := by
    rw [hsz]; simp [Array.replicate_succ]
  rw [hrep] at k2
  refine Code.wp_mono (fun e a w hq => by cases e <;> first | exact hq | exact hq.elim) (wp_region_any (Q := Lq kn) hm ?_)
  rw [hsz] at k2 ⊢
  exact k2
end
end Go.Proofs.E
