/- The frame of a call, the memory that it owns or reads, and the rules by which its code is walked; over any program. -/
import Derived.WalkKit
import Derived.Maps.AppendAt
import Derived.Orders
set_option linter.unusedVariables false
set_option linter.unusedSimpArgs false
set_option linter.unusedSectionVars false
namespace Go.Proofs.E
open Go.RowKit

/-! ### 1. The frame's slots -/
/-- A slot: what it holds, and under which condition (none: always; else nothing is there where the condition is false). -/
abbrev Slot := Option Bool × Value
def Gt : Option Bool → Prop
  | none => True
  | some g => g = true
def Slot.value (s : Slot) : Value :=
  match s.1 with
  | none => s.2
  | some g => bif g then s.2 else undef
theorem Slot.value_of {s : Slot} (h : Gt s.1) : s.value = s.2 := by
  obtain ⟨g, v⟩ := s
  cases g with
  | none => rfl
  | some g =>
    have h : g = true := h
    subst h; rfl

abbrev Env := List (Nat × Slot)
def Env.get : Env → Nat → Option Slot
  | [], _ => none
  | (j, v) :: r, i => bif Nat.beq j i then some v else Env.get r i

structure EOk (n : Nat) (ρ : Env) (a : Act) : Prop where
  defers : a.defers = []
  size : a.tmps.size = n
  vals : ∀ i s, ρ.get i = some s → a.tmps[i]? = some s.value

/-- An operand's value, and the conditions under which it is there. -/
def ev (ρ : Env) : Operand → Option (List Bool × Value)
  | .tmp t =>
    match ρ.get t with
    | some (none, v) => some ([], v)
    | some (some g, v) => some ([g], v)
    | none => none
  | .const v => some ([], v)
  | .func f => some ([], .func (.func f) #[] #[])
  | .global _ => none
def All (cs : List Bool) : Prop := ∀ c ∈ cs, c = true
theorem All.nil : All [] := fun _ h => nomatch h
theorem All.app {a b : List Bool} (h : All (a ++ b)) : All a ∧ All b := ⟨fun c hc => h c (List.mem_append_left _ hc), fun c hc => h c (List.mem_append_right _ hc)⟩

theorem EOk.eval {n : Nat} {ρ : Env} {a : Act} (h : EOk n ρ a) {x : Operand} {cs : List Bool} {v : Value} (hx : ev ρ x = some (cs, v)) (hc : All cs) : a.eval x = v := by
  cases x with
  | tmp t =>
    simp only [ev] at hx
    cases hg : ρ.get t with
    | none => simp [hg] at hx
    | some s =>
      have h1 := h.vals t s hg
      obtain ⟨g, u⟩ := s
      cases g with
      | none =>
        simp only [hg, Option.some.injEq, Prod.mk.injEq] at hx
        obtain ⟨_, rfl⟩ := hx
        simp [Act.eval, Array.getD_eq_getD_getElem?, h1, Slot.value]
      | some g =>
        simp only [hg, Option.some.injEq, Prod.mk.injEq] at hx
        obtain ⟨rfl, rfl⟩ := hx
        have hg : g = true := hc g (by simp)
        subst hg
        simp [Act.eval, Array.getD_eq_getD_getElem?, h1, Slot.value]
  | const u => simp only [ev, Option.some.injEq, Prod.mk.injEq] at hx; simp [Act.eval, hx.2]
  | func f => simp only [ev, Option.some.injEq, Prod.mk.injEq] at hx; simp [Act.eval, hx.2]
  | global g => simp [ev] at hx

theorem EOk.put {n : Nat} {ρ : Env} {a : Act} (h : EOk n ρ a) {d : Nat} (hd : d < n) (s : Slot) : EOk n ((d, s) :: ρ) (a.put (some d) s.value) := by
  refine ⟨h.defers, by simp [Act.put, h.size], ?_⟩
  intro i t ht
  simp only [Env.get] at ht
  by_cases hi : d = i
  · subst hi
    simp only [Nat.beq_refl, cond_true, Option.some.injEq] at ht
    subst ht
    simp [Act.put, h.size, hd]
  · have : Nat.beq d i = false := by
      cases hb : Nat.beq d i with
      | false => rfl
      | true => exact absurd (Nat.eq_of_beq_eq_true hb) hi
    rw [this] at ht
    have := h.vals i t ht
    simp only [Act.put]
    rw [Array.getElem?_setIfInBounds_ne (by omega)]
    exact this

theorem EOk.sub {n : Nat} {ρ ρ' : Env} {a : Act} (h : EOk n ρ a) (hs : ∀ i s, ρ'.get i = some s → ρ.get i = some s) : EOk n ρ' a :=
  ⟨h.defers, h.size, fun i s hi => h.vals i s (hs i s hi)⟩

/-! ### 2. What became of the world -/
structure Frm (S : Nat → Prop) (w w' : World) : Prop where
  os : w'.os = w.os
  tape : w'.tape = w.tape
  output : w'.output = w.output
  size : w.heap.size ≤ w'.heap.size
  block : ∀ k, k < w.heap.size → ¬ S k → w'.heap[k]? = w.heap[k]?
  drawn : w.drawn ≤ w'.drawn
abbrev Nob : Nat → Prop := fun _ => False

theorem Frm.refl (S : Nat → Prop) (w : World) : Frm S w w := ⟨rfl, rfl, rfl, Nat.le_refl _, fun _ _ _ => rfl, Nat.le_refl _⟩
theorem Frm.trans {S S' : Nat → Prop} {a b c : World} (h : Frm S a b) (k : Frm S' b c) (hs : ∀ i, i < a.heap.size → S' i → S i) : Frm S a c :=
  ⟨k.os.trans h.os, k.tape.trans h.tape, k.output.trans h.output, Nat.le_trans h.size k.size, fun i hi hn =>
    (k.block i (Nat.lt_of_lt_of_le hi h.size) (fun hh => hn (hs i hi hh))).trans (h.block i hi hn), Nat.le_trans h.drawn k.drawn⟩
theorem Frm.mono {S S' : Nat → Prop} {a b : World} (h : Frm S a b) (hs : ∀ i, i < a.heap.size → S i → S' i) : Frm S' a b :=
  ⟨h.os, h.tape, h.output, h.size, fun i hi hn => h.block i hi (fun hh => hn (hs i hi hh)), h.drawn⟩
theorem Frm.below {w w' : World} (h : Frm Nob w w') : Below w.heap.size w w' := ⟨h.os, h.tape, h.output, h.size, fun k hk => h.block k hk (fun hf => hf)⟩
theorem Frm.alloc (w : World) (o : Obj) : Frm Nob w (w.alloc o) := ⟨rfl, rfl, rfl, by simp, fun k hk _ => Below.heap_alloc w o k hk, Nat.le_refl _⟩
theorem Frm.grown {w w' : World} {row : Option Nat} (h : w.grownBy w' row) (hd : w.drawn ≤ w'.drawn) : Frm (fun k => row = some k) w w' :=
  ⟨h.os, h.tape, h.output, h.size, fun k hk hn => h.block k hk (fun e => hn e.symm), hd⟩
theorem Frm.draws (w : World) (n : Nat) (h : w.drawn ≤ n) : Frm Nob w { w with drawn := n } := ⟨rfl, rfl, rfl, Nat.le_refl _, fun _ _ _ => rfl, h⟩

/-! ### 3. Pieces of memory -/
structure Res where
  fp : Nat → Prop
  rp : Nat → Prop
  ok : World → Prop
  st : ∀ w w', ok w → (∀ b, fp b ∨ rp b → w'.heap[b]? = w.heap[b]?) → ok w'
  bd : ∀ w, ok w → ∀ b, fp b ∨ rp b → b < w.heap.size

def apart (r s : Res) : Prop := ∀ b, (r.fp b → ¬ (s.fp b ∨ s.rp b)) ∧ (r.rp b → ¬ s.fp b)
theorem apart.symm {r s : Res} (h : apart r s) : apart s r := fun b =>
  ⟨fun hs hr => hr.elim (fun hf => (h b).1 hf (.inl hs)) (fun hp => (h b).2 hp hs), fun hp hr => (h b).1 hr (.inr hp)⟩
def Mem (μ : List Res) (w : World) : Prop := (∀ r ∈ μ, r.ok w) ∧ μ.Pairwise apart

theorem Mem.at {μ : List Res} {w : World} (h : Mem μ w) {r : Res} (hr : r ∈ μ) : r.ok w := h.1 r hr
theorem Mem.nil (w : World) : Mem [] w := ⟨by simp, List.Pairwise.nil⟩
theorem Mem.grow {μ : List Res} {w w' : World} (h : Mem μ w) (hf : Frm Nob w w') : Mem μ w' :=
  ⟨fun r hr => r.st w w' (h.1 r hr) (fun b hb => hf.block b (r.bd w (h.1 r hr) b hb) (fun x => x)), h.2⟩
/-- A new piece, in blocks that are new, or that are only read and owned by nobody. -/
theorem Mem.cons {μ : List Res} {w w' : World} (h : Mem μ w) (hf : Frm Nob w w') {r : Res} (hr : r.ok w') (hn : ∀ b, r.fp b → w.heap.size ≤ b)
    (hp : ∀ b, r.rp b → w.heap.size ≤ b ∨ ∀ s ∈ μ, ¬ s.fp b) : Mem (r :: μ) w' := by
  refine ⟨fun s hs => ?_, List.pairwise_cons.2 ⟨fun s hs b => ⟨fun hb hh => ?_, fun hb hh => ?_⟩, h.2⟩⟩
  · rcases List.mem_cons.1 hs with rfl | hs
    · exact hr
    · exact (h.grow hf).1 s hs
  · have := s.bd w (h.1 s hs) b hh; have := hn b hb; omega
  · rcases hp b hb with h1 | h1
    · have := s.bd w (h.1 s hs) b (.inl hh); omega
    · exact h1 s hs hh

theorem pairwise_replace {α : Type _} {R : α → α → Prop} {l1 l2 : List α} {x y : α} (h : (l1 ++ x :: l2).Pairwise R) (hl : ∀ z ∈ l1, R z x → R z y) (hr : ∀ z ∈ l2, R x z → R y z) : (l1 ++ y :: l2).Pairwise R := by
  rw [List.pairwise_append] at h ⊢
  obtain ⟨h1, h2, h3⟩ := h
  rw [List.pairwise_cons] at h2 ⊢
  refine ⟨h1, ⟨fun z hz => hr z hz (h2.1 z hz), h2.2⟩, fun z hz u hu => ?_⟩
  rcases List.mem_cons.1 hu with rfl | hu
  · exact hl z hz (h3 z hz x (List.mem_cons_self ..))
  · exact h3 z hz u (List.mem_cons_of_mem _ hu)

/-- One piece is changed: it stays within its blocks, or takes new ones. -/
theorem Mem.upd {l1 l2 : List Res} {r r' : Res} {w w' : World} (h : Mem (l1 ++ r :: l2) w) (hf : Frm r.fp w w') (hr : r'.ok w')
    (hn : ∀ b, r'.fp b ∨ r'.rp b → r.fp b ∨ w.heap.size ≤ b) : Mem (l1 ++ r' :: l2) w' := by
  obtain ⟨h1, h2⟩ := h
  have hap : ∀ s, s ∈ l1 ∨ s ∈ l2 → apart s r := fun s hs => by
    rw [List.pairwise_append, List.pairwise_cons] at h2
    rcases hs with hs | hs
    · exact h2.2.2 s hs r (List.mem_cons_self ..)
    · exact (h2.2.1.1 s hs).symm
  have hok : ∀ s, s ∈ l1 ∨ s ∈ l2 → s.ok w := fun s hs => h1 s (by rcases hs with hs | hs <;> simp [hs])
  have hap' : ∀ s, s ∈ l1 ∨ s ∈ l2 → apart s r' := fun s hs b => by
    have ha := hap s hs b
    have hb := s.bd w (hok s hs) b
    refine ⟨fun hfp hh => ?_, fun hrp hh => ?_⟩
    · rcases hn b hh with h' | h'
      · exact ha.1 hfp (.inl h')
      · have := hb (.inl hfp); omega
    · rcases hn b (.inl hh) with h' | h'
      · exact ha.2 hrp h'
      · have := hb (.inr hrp); omega
  refine ⟨fun s hs => ?_, pairwise_replace h2 (fun z hz _ => hap' z (.inl hz)) (fun z hz _ => (hap' z (.inr hz)).symm)⟩
  have hs' : (s ∈ l1 ∨ s ∈ l2) ∨ s = r' := by
    rcases List.mem_append.1 hs with h' | h'
    · exact .inl (.inl h')
    · rcases List.mem_cons.1 h' with h' | h'
      · exact .inr h'
      · exact .inl (.inr h')
  rcases hs' with hs' | rfl
  · refine s.st w w' (hok s hs') (fun b hb => hf.block b (s.bd w (hok s hs') b hb) (fun hr => ?_))
    rcases hb with hb | hb
    · exact (hap s hs' b).1 hb (.inl hr)
    · exact (hap s hs' b).2 hb hr
  · exact hr
theorem Mem.drop {l1 l2 : List Res} {r : Res} {w : World} (h : Mem (l1 ++ r :: l2) w) : Mem (l1 ++ l2) w :=
  ⟨fun s hs => h.1 s (by rcases List.mem_append.1 hs with hs | hs <;> simp [hs]), List.Pairwise.sublist (by simp) h.2⟩
theorem Mem.tail {l : List Res} {r : Res} {w : World} (h : Mem (r :: l) w) : Mem l w := ⟨fun s hs => h.1 s (List.mem_cons_of_mem _ hs), (List.pairwise_cons.1 h.2).2⟩
theorem Mem.perm {μ ν : List Res} {w : World} (h : Mem μ w) (hp : μ.Perm ν) : Mem ν w :=
  ⟨fun r hr => h.1 r (hp.mem_iff.2 hr), h.2.perm hp apart.symm⟩
end Go.Proofs.E
