/- Calls: may one be; a call asked. -/
import Derived.Test.YtgekiiildobfkaaC1
import Derived.Test.YtgekiiildobfkaaE20
set_option linter.unusedVariables false
set_option linter.unusedSimpArgs false
namespace Go.Proofs.E
open Go.RowKit
theorem ro_of {b : Nat} {vs : List Value} {ty : TypeId} {w : World} (h : (blkR b vs ty).ok w) : (robR b vs ty).ok w := h
def lastA (c : CallH) (l : List Att) (i : Nat) : Int := if decide ((i : Int) > 0) = true then l[i - 1]!.at' else c.at'
def oddA (c : CallH) (l : List Att) (i : Nat) (a : Att) : Bool :=
  ((!inR 0 1073741824 [a.bk, a.inc, a.ses, a.seq] || !inR (lastA c l i) 536870912 [a.at']) || (a.hedge && ((i : Int) == 0 || c.once))) || (c.once && !veqs (pinE a) (pinE l[0]!))
def badA (c : CallH) (l : List Att) : Bool := (List.range l.length).any fun i => oddA c l i l[i]!
def fineA (c : CallH) (s : CSet) (l : List Att) : Bool :=
  if (((((!inR 0 1048576 [c.num] || (ledR c.op != 0)) || !(c.once == (onceR c.op.what).1)) || !inR 0 536870912 [c.at', c.nx]) || !inR c.at' 536870912 [c.dl]) || decide ((l.length : Int) > s.att)) = true then false else !badA c l
def chkA (c : CallH) (s : CSet) (l : List Att) : Int := if (setR s != 0) = true then setR s else if (!fineA c s l) = true then 9 else 0
theorem badA_here {c : CallH} {l : List Att} {j : Nat} (hj : j < l.length) (h : oddA c l j l[j]! = true) : badA c l = true := List.any_eq_true.2 ⟨j, by simpa using hj, h⟩
theorem badA_none {c : CallH} {l : List Att} (h : ∀ i, i < l.length → oddA c l i l[i]! = false) : badA c l = false := by
  unfold badA
  rw [List.any_eq_false]
  intro i hi
  rw [h i (by simpa using hi)]; simp
class Zero' (α : Type) where
  zero : α
instance : Zero' CallH := ⟨⟨0, ⟨0, 0, 0, 0⟩, false, 0, 0, 0⟩⟩
instance : Zero' CSet := ⟨⟨0, 0, 0, 0, 0, ⟨0, 0, 0⟩⟩⟩
instance : Zero' (List Att) := ⟨[]⟩
/-- What is told where there is no error; else nothing. -/
def okD {α : Type} [Zero' α] (e : Int) (x : α) : α := if (e != 0) = true then Zero'.zero else x
theorem okD_no {α : Type} [Zero' α] {e : Int} {x : α} (h : (e != 0) = true) : okD e x = Zero'.zero := if_pos h
theorem okD_yes {α : Type} [Zero' α] {e : Int} {x : α} (h : (e != 0) = false) : okD e x = x := if_neg (nt h)
theorem inR_one {a b x : Int} (h : inR a b [x] = true) : a ≤ x ∧ x ≤ b := by
  simp only [inR, List.any_cons, List.any_nil, Bool.or_false, Bool.not_eq_true', Bool.or_eq_false_iff, decide_eq_false_iff_not] at h
  omega
theorem chkA_len {c : CallH} {s : CSet} {l : List Att} (h : chkA c s l = 0) : l.length ≤ 16 := by
  unfold chkA at h
  split at h
  · rename_i h1; rw [h] at h1; simp at h1
  · rename_i h1
    split at h
    · cases h
    · rename_i h2
      have h2 : fineA c s l = true := by simpa using h2
      unfold fineA at h2
      split at h2
      · cases h2
      · rename_i h3
        have h1 : setR s = 0 := by simpa using h1
        unfold setR at h1
        split at h1
        · cases h1
        · rename_i h4
          rw [Bool.not_eq_true] at h3 h4
          simp only [Bool.or_eq_false_iff, Bool.not_eq_false', decide_eq_false_iff_not] at h3 h4
          have := inR_one h4.1.1.1
          omega
theorem odd27_ok (mb : Nat) (c : CallH) (v : Value) (s : CSet) (l : List Att) (i : Nat) (a : Att) (hi : i < l.length) (w0 : World) (hm : (robR mb (askE c v s) 143).ok w0) (hr : (rdR v attE l).ok w0) : Calls Try.prog 127 #[.pointer (some ⟨mb, 0, none⟩), .int .i64 (i : Int), .agg (attE.enc a).toArray] w0 fun e w' => e = .returned (.bool (oddA c l i a)) ∧ Frm Nob w0 w' := by
  have hlen := rd_lt hr
  refine enter (μ := [robR mb (askE c v s) 143, rdR v attE l]) (S := Nob) (vs := [.pointer (some ⟨mb, 0, none⟩), .int .i64 (i : Int), .agg (attE.enc a).toArray]) Try.func127 rfl Try.ntmps127 rfl (Mem.ro1 hm hr) (by simp [robR, rdR]) (fun a hC => ?_)
  refine W.seqk fun k1 hk1 => ?_
  refine W.region ?_
  refine L.box hC rfl rfl rfl rfl rfl rfl ?_; clear hC a; intro ab a w hF hC
  refine L.pu hC rfl rfl (fun _ => All.nil) rfl rfl ?_; clear hC a; intro a hC
  refine L.nil ?_
  refine hk1 _ _ ?_; clear hk1; try clear k1
  refine W.seqk fun k2 hk2 => ?_
  refine W.region ?_
  refine L.pu hC rfl rfl (fun _ => All.nil) rfl rfl ?_; clear hC a; intro a hC
  refine L.pu hC rfl rfl (fun _ => All.nil) rfl rfl ?_; clear hC a; intro a hC
  refine L.fa hC rfl rfl rfl (fun _ => All.nil) Try.underlying143 rfl Try.sizeOf56 rfl rfl rfl ?_; clear hC a; intro a hC
  refine L.fa hC rfl rfl rfl (fun _ => All.nil) Try.underlying56 rfl Try.sizeOf3 rfl rfl rfl ?_; clear hC a; intro a hC
  refine L.ldr hC rfl rfl rfl (fun _ => All.nil) m1 Try.isAgg3 rfl rfl rfl ?_; clear hC a; intro a hC
  refine L.pu hC rfl rfl (fun _ => All.nil) rfl rfl ?_; clear hC a; intro a hC
  refine L.nil ?_
  refine hk2 _ _ ?_; clear hk2; try clear k2
  refine W.seqk fun k3 hk3 => ?_
  refine W.seqk fun k4 hk4 => ?_
  refine W.region ?_
  refine L.pu hC rfl rfl (fun _ => All.nil) rfl rfl ?_; clear hC a; intro a hC
  refine L.pu hC rfl rfl (fun _ => All.nil) rfl rfl ?_; clear hC a; intro a hC
  refine L.nil ?_
  refine hk4 _ _ ?_; clear hk4; try clear k4
  refine W.cond hC rfl (fun h1 => ?_) (fun h1 => ?_)
  ·
    have h1' := of_decide_eq_true h1
    refine W.region ?_
    refine L.pu hC rfl rfl (fun _ => All.nil) rfl rfl ?_; clear hC a; intro a hC
    refine L.pu hC rfl rfl (fun _ => All.nil) rfl rfl ?_; clear hC a; intro a hC
    refine L.fa hC rfl rfl rfl (fun _ => All.nil) Try.underlying143 rfl Try.sizeOf56 rfl rfl rfl ?_; clear hC a; intro a hC
    refine L.fa hC rfl rfl rfl (fun _ => All.nil) Try.underlying56 rfl Try.sizeOf54 rfl rfl rfl ?_; clear hC a; intro a hC
    refine L.ldr hC rfl rfl rfl (fun _ => All.nil) m1 Try.isAgg54 rfl rfl rfl ?_; clear hC a; intro a hC
    refine L.pu hC rfl rfl (fun _ => All.nil) rfl rfl ?_; clear hC a; intro a hC
    refine L.pu hC rfl rfl (fun _ => All.nil) rfl rfl ?_; clear hC a; intro a hC
    replace hC := hC.slot (d := 21) (geti (b := ((i - 1 : Nat) : Int)) rfl (by rw [w64 (by omega)]; omega))
    refine L.ixr hC rfl rfl rfl rfl m2 (fun _ => All.nil) (fun _ => All.nil) Try.underlying54 Try.sizeOf65 (fun _ => by omega) rfl rfl ?_; clear hC a; intro a hC
    refine L.fae hC rfl rfl rfl (fun _ => All.nil) Try.underlying65 rfl Try.sizeOf3 rfl (fun hg => rd_some (hC.at m2) (by omega)) rfl rfl ?_; clear hC a; intro a hC
    refine L.ldx hC rfl rfl rfl rfl (fun _ => All.nil) (fun hg => rd_bang hC m2 (by omega) _) Try.isAgg3 rfl rfl rfl ?_; clear hC a; intro a hC
    refine L.pu hC rfl rfl (fun _ => All.nil) rfl rfl ?_; clear hC a; intro a hC
    refine L.nil ?_
    refine hk3 _ _ ?_; clear hk3; try clear k3
    refine W.seqk fun k5 hk5 => ?_
    replace hC := hC.del 6
    refine W.drawD hC Try.mixed rfl rfl ?_
    apply DRN.cons (.det _ _) rfl
    · intro a w hC
      refine L.fa hC rfl rfl rfl (fun _ => All.nil) Try.underlying65 rfl Try.sizeOf3 rfl rfl rfl ?_; clear hC a; intro a hC
      exact L.nil ⟨⟨_, [], hC⟩, Frm.refl _ _⟩
    apply DRN.cons (.det _ _) rfl
    · intro a w hC
      refine L.ld hC rfl rfl rfl (fun _ => All.nil) m0 Try.isAgg3 rfl rfl rfl ?_; clear hC a; intro a hC
      exact L.nil ⟨⟨_, [], hC⟩, Frm.refl _ _⟩
    apply DRN.cons (.det _ _) rfl
    · intro a w hC
      refine L.fa hC rfl rfl rfl (fun _ => All.nil) Try.underlying65 rfl Try.sizeOf3 rfl rfl rfl ?_; clear hC a; intro a hC
      exact L.nil ⟨⟨_, [], hC⟩, Frm.refl _ _⟩
    apply DRN.cons (.det _ _) rfl
    · intro a w hC
      refine L.ld hC rfl rfl rfl (fun _ => All.nil) m0 Try.isAgg3 rfl rfl rfl ?_; clear hC a; intro a hC
      exact L.nil ⟨⟨_, [], hC⟩, Frm.refl _ _⟩
    apply DRN.cons (.det _ _) rfl
    · intro a w hC
      refine L.fa hC rfl rfl rfl (fun _ => All.nil) Try.underlying65 rfl Try.sizeOf3 rfl rfl rfl ?_; clear hC a; intro a hC
      exact L.nil ⟨⟨_, [], hC⟩, Frm.refl _ _⟩
    apply DRN.cons (.det _ _) rfl
    · intro a w hC
      refine L.ld hC rfl rfl rfl (fun _ => All.nil) m0 Try.isAgg3 rfl rfl rfl ?_; clear hC a; intro a hC
      exact L.nil ⟨⟨_, [], hC⟩, Frm.refl _ _⟩
    apply DRN.cons (.det _ _) rfl
    · intro a w hC
      refine L.fa hC rfl rfl rfl (fun _ => All.nil) Try.underlying65 rfl Try.sizeOf3 rfl rfl rfl ?_; clear hC a; intro a hC
      exact L.nil ⟨⟨_, [], hC⟩, Frm.refl _ _⟩
    apply DRN.cons (.det _ _) rfl
    · intro a w hC
      refine L.ld hC rfl rfl rfl (fun _ => All.nil) m0 Try.isAgg3 rfl rfl rfl ?_; clear hC a; intro a hC
      exact L.nil ⟨⟨_, [], hC⟩, Frm.refl _ _⟩
    apply DRN.cons (.lit _ _ fun v => rdR v intE _) rfl
    · intro a w hC
      exact L.litsP hC rfl rfl rfl (fun _ => All.nil) Try.underlying37 Try.infoI3 rfl rfl rfl rfl rfl rfl rfl rfl (fun a w' v hF hC => L.nil ⟨⟨v, _, [], fun _ h => h.2, hC⟩, hF⟩)
    apply DRN.cons (.det _ _) rfl
    · intro v8 a w hC
      refine L.call hC rfl rfl Try.call79 rfl (fun _ => All.nil) (fun hg => in27_ok _ _ _ _ _ (hC.at m0 hg)) rfl rfl ?_; clear hC a; intro a w hF hC
      exact L.nil ⟨⟨_, [_], hC⟩, hF⟩
    apply DRN.cons (.det _ _) rfl
    · intro a w hC
      refine L.pu hC rfl rfl (fun _ => All.nil) rfl rfl ?_; clear hC a; intro a hC
      exact L.nil ⟨⟨_, [], hC⟩, Frm.refl _ _⟩
    apply DRN.cons (.det _ _) rfl
    · intro a w hC
      refine L.pu hC rfl rfl (fun _ => All.nil) rfl rfl ?_; clear hC a; intro a hC
      exact L.nil ⟨⟨_, [], hC⟩, Frm.refl _ _⟩
    apply DRN.cons (.det _ _) rfl
    · intro a w hC
      refine L.pu hC rfl rfl (fun _ => All.nil) rfl rfl ?_; clear hC a; intro a hC
      exact L.nil ⟨⟨_, [], hC⟩, Frm.refl _ _⟩
    apply DRN.cons (.det _ _) rfl
    · intro a w hC
      refine L.fa hC rfl rfl rfl (fun _ => All.nil) Try.underlying65 rfl Try.sizeOf3 rfl rfl rfl ?_; clear hC a; intro a hC
      exact L.nil ⟨⟨_, [], hC⟩, Frm.refl _ _⟩
    apply DRN.cons (.det _ _) rfl
    · intro a w hC
      refine L.ld hC rfl rfl rfl (fun hg => by first | (simp only [Gt, Bool.and_eq_true] at hg; simp only [All, List.cons_append, List.nil_append, List.append_nil, List.mem_cons, List.not_mem_nil, or_false, forall_eq_or_imp, forall_eq, Bool.and_eq_true, hg, Bool.not_false, Bool.not_true, and_self]; done) | (simp only [Gt] at hg; simp only [All, List.cons_append, List.nil_append, List.append_nil, List.mem_cons, List.not_mem_nil, or_false, forall_eq_or_imp, forall_eq, hg, and_self])) m0 Try.isAgg3 rfl rfl rfl ?_; clear hC a; intro a hC
      exact L.nil ⟨⟨_, [], hC⟩, Frm.refl _ _⟩
    apply DRN.cons (.lit _ _ fun v => rdR v intE _) rfl
    · intro a w hC
      exact L.litsP hC rfl rfl rfl (fun hg => by first | (simp only [Gt, Bool.and_eq_true] at hg; simp only [All, List.cons_append, List.nil_append, List.append_nil, List.mem_cons, List.not_mem_nil, or_false, forall_eq_or_imp, forall_eq, Bool.and_eq_true, hg, Bool.not_false, Bool.not_true, and_self]; done) | (simp only [Gt] at hg; simp only [All, List.cons_append, List.nil_append, List.append_nil, List.mem_cons, List.not_mem_nil, or_false, forall_eq_or_imp, forall_eq, hg, and_self])) Try.underlying37 Try.infoI3 rfl rfl rfl rfl rfl rfl rfl rfl (fun a w' v hF hC => L.nil ⟨⟨v, _, [], fun _ h => h.2, hC⟩, hF⟩)
    apply DRN.cons (.det _ _) rfl
    · intro v15 a w hC
      refine L.call hC rfl rfl Try.call79 rfl (fun hg => by first | (simp only [Gt, Bool.and_eq_true] at hg; simp only [All, List.cons_append, List.nil_append, List.append_nil, List.mem_cons, List.not_mem_nil, or_false, forall_eq_or_imp, forall_eq, Bool.and_eq_true, hg, Bool.not_false, Bool.not_true, and_self]; done) | (simp only [Gt] at hg; simp only [All, List.cons_append, List.nil_append, List.append_nil, List.mem_cons, List.not_mem_nil, or_false, forall_eq_or_imp, forall_eq, hg, and_self])) (fun hg => in27_ok _ _ _ _ _ (hC.at m0 hg)) rfl rfl ?_; clear hC a; intro a w hF hC
      exact L.nil ⟨⟨_, [_], hC⟩, hF⟩
    apply DRN.cons (.det _ _) rfl
    · intro a w hC
      refine L.pu hC rfl rfl (fun hg => by first | (simp only [Gt, Bool.and_eq_true] at hg; simp only [All, List.cons_append, List.nil_append, List.append_nil, List.mem_cons, List.not_mem_nil, or_false, forall_eq_or_imp, forall_eq, Bool.and_eq_true, hg, Bool.not_false, Bool.not_true, and_self]; done) | (simp only [Gt] at hg; simp only [All, List.cons_append, List.nil_append, List.append_nil, List.mem_cons, List.not_mem_nil, or_false, forall_eq_or_imp, forall_eq, hg, and_self])) rfl rfl ?_; clear hC a; intro a hC
      exact L.nil ⟨⟨_, [], hC⟩, Frm.refl _ _⟩
    apply DRN.cons (.det _ _) rfl
    · intro a w hC
      refine L.or hC rfl rfl rfl rfl (fun _ => All.nil) (fun _ hp => by simp only [All, List.cons_append, List.nil_append, List.append_nil, List.mem_cons, List.not_mem_nil, or_false, forall_eq_or_imp, forall_eq, Bool.and_eq_true, hp, Bool.not_false, Bool.not_true, and_self]) rfl rfl ?_; clear hC a; intro a hC
      exact L.nil ⟨⟨_, [], hC⟩, Frm.refl _ _⟩
    apply DRN.cons (.det _ _) rfl
    · intro a w hC
      refine L.pu hC rfl rfl (fun _ => All.nil) rfl rfl ?_; clear hC a; intro a hC
      exact L.nil ⟨⟨_, [], hC⟩, Frm.refl _ _⟩
    apply DRN.cons (.det _ _) rfl
    · intro a w hC
      refine L.fa hC rfl rfl rfl (fun _ => All.nil) Try.underlying65 rfl Try.sizeOf4 rfl rfl rfl ?_; clear hC a; intro a hC
      exact L.nil ⟨⟨_, [], hC⟩, Frm.refl _ _⟩
    apply DRN.cons (.det _ _) rfl
    · intro a w hC
      refine L.ld hC rfl rfl rfl (fun hg => by first | (simp only [Gt, Bool.and_eq_true] at hg; simp only [All, List.cons_append, List.nil_append, List.append_nil, List.mem_cons, List.not_mem_nil, or_false, forall_eq_or_imp, forall_eq, Bool.and_eq_true, hg, Bool.not_false, Bool.not_true, and_self]; done) | (simp only [Gt] at hg; simp only [All, List.cons_append, List.nil_append, List.append_nil, List.mem_cons, List.not_mem_nil, or_false, forall_eq_or_imp, forall_eq, hg, and_self])) m0 Try.isAgg4 rfl rfl rfl ?_; clear hC a; intro a hC
      exact L.nil ⟨⟨_, [], hC⟩, Frm.refl _ _⟩
    apply DRN.cons (.det _ _) rfl
    · intro a w hC
      refine L.pu hC rfl rfl (fun hg => by first | (simp only [Gt, Bool.and_eq_true] at hg; simp only [All, List.cons_append, List.nil_append, List.append_nil, List.mem_cons, List.not_mem_nil, or_false, forall_eq_or_imp, forall_eq, Bool.and_eq_true, hg, Bool.not_false, Bool.not_true, and_self]; done) | (simp only [Gt] at hg; simp only [All, List.cons_append, List.nil_append, List.append_nil, List.mem_cons, List.not_mem_nil, or_false, forall_eq_or_imp, forall_eq, hg, and_self])) rfl rfl ?_; clear hC a; intro a hC
      exact L.nil ⟨⟨_, [], hC⟩, Frm.refl _ _⟩
    apply DRN.cons (.det _ _) rfl
    · intro a w hC
      refine L.pu hC rfl rfl (fun _ => All.nil) rfl rfl ?_; clear hC a; intro a hC
      exact L.nil ⟨⟨_, [], hC⟩, Frm.refl _ _⟩
    apply DRN.cons (.det _ _) rfl
    · intro a w hC
      refine L.pu hC rfl rfl (fun hg => by first | (simp only [Gt, Bool.and_eq_true] at hg; simp only [All, List.cons_append, List.nil_append, List.append_nil, List.mem_cons, List.not_mem_nil, or_false, forall_eq_or_imp, forall_eq, Bool.and_eq_true, hg, Bool.not_false, Bool.not_true, and_self]; done) | (simp only [Gt] at hg; simp only [All, List.cons_append, List.nil_append, List.append_nil, List.mem_cons, List.not_mem_nil, or_false, forall_eq_or_imp, forall_eq, hg, and_self])) rfl rfl ?_; clear hC a; intro a hC
      exact L.nil ⟨⟨_, [], hC⟩, Frm.refl _ _⟩
    apply DRN.cons (.det _ _) rfl
    · intro a w hC
      refine L.pu hC rfl rfl (fun hg => by first | (simp only [Gt, Bool.and_eq_true] at hg; simp only [All, List.cons_append, List.nil_append, List.append_nil, List.mem_cons, List.not_mem_nil, or_false, forall_eq_or_imp, forall_eq, Bool.and_eq_true, hg, Bool.not_false, Bool.not_true, and_self]; done) | (simp only [Gt] at hg; simp only [All, List.cons_append, List.nil_append, List.append_nil, List.mem_cons, List.not_mem_nil, or_false, forall_eq_or_imp, forall_eq, hg, and_self])) rfl rfl ?_; clear hC a; intro a hC
      exact L.nil ⟨⟨_, [], hC⟩, Frm.refl _ _⟩
    apply DRN.cons (.det _ _) rfl
    · intro a w hC
      refine L.pu hC rfl rfl (fun _ => All.nil) rfl rfl ?_; clear hC a; intro a hC
      exact L.nil ⟨⟨_, [], hC⟩, Frm.refl _ _⟩
    apply DRN.cons (.det _ _) rfl
    · intro a w hC
      refine L.pu hC rfl rfl (fun hg => by first | (simp only [Gt, Bool.and_eq_true] at hg; simp only [All, List.cons_append, List.nil_append, List.append_nil, List.mem_cons, List.not_mem_nil, or_false, forall_eq_or_imp, forall_eq, Bool.and_eq_true, hg, Bool.not_false, Bool.not_true, and_self]; done) | (simp only [Gt] at hg; simp only [All, List.cons_append, List.nil_append, List.append_nil, List.mem_cons, List.not_mem_nil, or_false, forall_eq_or_imp, forall_eq, hg, and_self])) rfl rfl ?_; clear hC a; intro a hC
      exact L.nil ⟨⟨_, [], hC⟩, Frm.refl _ _⟩
    apply DRN.cons (.det _ _) rfl
    · intro a w hC
      refine L.fa hC rfl rfl rfl (fun hg => by first | (simp only [Gt, Bool.and_eq_true] at hg; simp only [All, List.cons_append, List.nil_append, List.append_nil, List.mem_cons, List.not_mem_nil, or_false, forall_eq_or_imp, forall_eq, Bool.and_eq_true, hg, Bool.not_false, Bool.not_true, and_self]; done) | (simp only [Gt] at hg; simp only [All, List.cons_append, List.nil_append, List.append_nil, List.mem_cons, List.not_mem_nil, or_false, forall_eq_or_imp, forall_eq, hg, and_self])) Try.underlying143 rfl Try.sizeOf56 rfl rfl rfl ?_; clear hC a; intro a hC
      exact L.nil ⟨⟨_, [], hC⟩, Frm.refl _ _⟩
    apply DRN.cons (.det _ _) rfl
    · intro a w hC
      refine L.fa hC rfl rfl rfl (fun hg => by first | (simp only [Gt, Bool.and_eq_true] at hg; simp only [All, List.cons_append, List.nil_append, List.append_nil, List.mem_cons, List.not_mem_nil, or_false, forall_eq_or_imp, forall_eq, Bool.and_eq_true, hg, Bool.not_false, Bool.not_true, and_self]; done) | (simp only [Gt] at hg; simp only [All, List.cons_append, List.nil_append, List.append_nil, List.mem_cons, List.not_mem_nil, or_false, forall_eq_or_imp, forall_eq, hg, and_self])) Try.underlying56 rfl Try.sizeOf4 rfl rfl rfl ?_; clear hC a; intro a hC
      exact L.nil ⟨⟨_, [], hC⟩, Frm.refl _ _⟩
    apply DRN.cons (.det _ _) rfl
    · intro a w hC
      refine L.ldr hC rfl rfl rfl (fun hg => by first | (simp only [Gt, Bool.and_eq_true] at hg; simp only [All, List.cons_append, List.nil_append, List.append_nil, List.mem_cons, List.not_mem_nil, or_false, forall_eq_or_imp, forall_eq, Bool.and_eq_true, hg, Bool.not_false, Bool.not_true, and_self]; done) | (simp only [Gt] at hg; simp only [All, List.cons_append, List.nil_append, List.append_nil, List.mem_cons, List.not_mem_nil, or_false, forall_eq_or_imp, forall_eq, hg, and_self])) m1 Try.isAgg4 rfl rfl rfl ?_; clear hC a; intro a hC
      exact L.nil ⟨⟨_, [], hC⟩, Frm.refl _ _⟩
    apply DRN.cons (.det _ _) rfl
    · intro a w hC
      refine L.or hC rfl rfl rfl rfl (fun hg => by first | (simp only [Gt, Bool.and_eq_true] at hg; simp only [All, List.cons_append, List.nil_append, List.append_nil, List.mem_cons, List.not_mem_nil, or_false, forall_eq_or_imp, forall_eq, Bool.and_eq_true, hg, Bool.not_false, Bool.not_true, and_self]; done) | (simp only [Gt] at hg; simp only [All, List.cons_append, List.nil_append, List.append_nil, List.mem_cons, List.not_mem_nil, or_false, forall_eq_or_imp, forall_eq, hg, and_self])) (fun hg hp => by first | (simp only [Gt, Bool.and_eq_true] at hg; simp only [All, List.cons_append, List.nil_append, List.append_nil, List.mem_cons, List.not_mem_nil, or_false, forall_eq_or_imp, forall_eq, Bool.and_eq_true, hg, hp, Bool.not_false, Bool.not_true, and_self]; done) | (simp only [Gt] at hg; simp only [All, List.cons_append, List.nil_append, List.append_nil, List.mem_cons, List.not_mem_nil, or_false, forall_eq_or_imp, forall_eq, Bool.and_eq_true]; exact ⟨hg, by simp only [hp, Bool.not_false]⟩)) rfl rfl ?_; clear hC a; intro a hC
      exact L.nil ⟨⟨_, [], hC⟩, Frm.refl _ _⟩
    apply DRN.cons (.det _ _) rfl
    · intro a w hC
      refine L.and hC rfl rfl rfl rfl (fun hg => by first | (simp only [Gt, Bool.and_eq_true] at hg; simp only [All, List.cons_append, List.nil_append, List.append_nil, List.mem_cons, List.not_mem_nil, or_false, forall_eq_or_imp, forall_eq, Bool.and_eq_true, hg, Bool.not_false, Bool.not_true, and_self]; done) | (simp only [Gt] at hg; simp only [All, List.cons_append, List.nil_append, List.append_nil, List.mem_cons, List.not_mem_nil, or_false, forall_eq_or_imp, forall_eq, hg, and_self])) (fun hg hp => by first | (simp only [Gt, Bool.and_eq_true] at hg; simp only [All, List.cons_append, List.nil_append, List.append_nil, List.mem_cons, List.not_mem_nil, or_false, forall_eq_or_imp, forall_eq, Bool.and_eq_true, hg, hp, Bool.not_false, Bool.not_true, and_self]; done) | (simp only [Gt] at hg; simp only [All, List.cons_append, List.nil_append, List.append_nil, List.mem_cons, List.not_mem_nil, or_false, forall_eq_or_imp, forall_eq, Bool.and_eq_true]; exact ⟨hg, by simp only [hp, Bool.not_false]⟩)) rfl rfl ?_; clear hC a; intro a hC
      exact L.nil ⟨⟨_, [], hC⟩, Frm.refl _ _⟩
    apply DRN.cons (.det _ _) rfl
    · intro a w hC
      refine L.or hC rfl rfl rfl rfl (fun _ => All.nil) (fun _ hp => by simp only [All, List.cons_append, List.nil_append, List.append_nil, List.mem_cons, List.not_mem_nil, or_false, forall_eq_or_imp, forall_eq, Bool.and_eq_true, hp, Bool.not_false, Bool.not_true, and_self]) rfl rfl ?_; clear hC a; intro a hC
      exact L.nil ⟨⟨_, [], hC⟩, Frm.refl _ _⟩
    apply DRN.cons (.det _ _) rfl
    · intro a w hC
      refine L.pu hC rfl rfl (fun _ => All.nil) rfl rfl ?_; clear hC a; intro a hC
      exact L.nil ⟨⟨_, [], hC⟩, Frm.refl _ _⟩
    apply DRN.cons (.det _ _) rfl
    · intro a w hC
      refine L.pu hC rfl rfl (fun _ => All.nil) rfl rfl ?_; clear hC a; intro a hC
      exact L.nil ⟨⟨_, [], hC⟩, Frm.refl _ _⟩
    apply DRN.cons (.det _ _) rfl
    · intro a w hC
      refine L.pu hC rfl rfl (fun hg => by first | (simp only [Gt, Bool.and_eq_true] at hg; simp only [All, List.cons_append, List.nil_append, List.append_nil, List.mem_cons, List.not_mem_nil, or_false, forall_eq_or_imp, forall_eq, Bool.and_eq_true, hg, Bool.not_false, Bool.not_true, and_self]; done) | (simp only [Gt] at hg; simp only [All, List.cons_append, List.nil_append, List.append_nil, List.mem_cons, List.not_mem_nil, or_false, forall_eq_or_imp, forall_eq, hg, and_self])) rfl rfl ?_; clear hC a; intro a hC
      exact L.nil ⟨⟨_, [], hC⟩, Frm.refl _ _⟩
    apply DRN.cons (.det _ _) rfl
    · intro a w hC
      refine L.fa hC rfl rfl rfl (fun hg => by first | (simp only [Gt, Bool.and_eq_true] at hg; simp only [All, List.cons_append, List.nil_append, List.append_nil, List.mem_cons, List.not_mem_nil, or_false, forall_eq_or_imp, forall_eq, Bool.and_eq_true, hg, Bool.not_false, Bool.not_true, and_self]; done) | (simp only [Gt] at hg; simp only [All, List.cons_append, List.nil_append, List.append_nil, List.mem_cons, List.not_mem_nil, or_false, forall_eq_or_imp, forall_eq, hg, and_self])) Try.underlying143 rfl Try.sizeOf56 rfl rfl rfl ?_; clear hC a; intro a hC
      exact L.nil ⟨⟨_, [], hC⟩, Frm.refl _ _⟩
    apply DRN.cons (.det _ _) rfl
    · intro a w hC
      refine L.fa hC rfl rfl rfl (fun hg => by first | (simp only [Gt, Bool.and_eq_true] at hg; simp only [All, List.cons_append, List.nil_append, List.append_nil, List.mem_cons, List.not_mem_nil, or_false, forall_eq_or_imp, forall_eq, Bool.and_eq_true, hg, Bool.not_false, Bool.not_true, and_self]; done) | (simp only [Gt] at hg; simp only [All, List.cons_append, List.nil_append, List.append_nil, List.mem_cons, List.not_mem_nil, or_false, forall_eq_or_imp, forall_eq, hg, and_self])) Try.underlying56 rfl Try.sizeOf4 rfl rfl rfl ?_; clear hC a; intro a hC
      exact L.nil ⟨⟨_, [], hC⟩, Frm.refl _ _⟩
    apply DRN.cons (.det _ _) rfl
    · intro a w hC
      refine L.ldr hC rfl rfl rfl (fun hg => by first | (simp only [Gt, Bool.and_eq_true] at hg; simp only [All, List.cons_append, List.nil_append, List.append_nil, List.mem_cons, List.not_mem_nil, or_false, forall_eq_or_imp, forall_eq, Bool.and_eq_true, hg, Bool.not_false, Bool.not_true, and_self]; done) | (simp only [Gt] at hg; simp only [All, List.cons_append, List.nil_append, List.append_nil, List.mem_cons, List.not_mem_nil, or_false, forall_eq_or_imp, forall_eq, hg, and_self])) m1 Try.isAgg4 rfl rfl rfl ?_; clear hC a; intro a hC
      exact L.nil ⟨⟨_, [], hC⟩, Frm.refl _ _⟩
    apply DRN.cons (.det _ _) rfl
    · intro a w hC
      refine L.pu hC rfl rfl (fun hg => by first | (simp only [Gt, Bool.and_eq_true] at hg; simp only [All, List.cons_append, List.nil_append, List.append_nil, List.mem_cons, List.not_mem_nil, or_false, forall_eq_or_imp, forall_eq, Bool.and_eq_true, hg, Bool.not_false, Bool.not_true, and_self]; done) | (simp only [Gt] at hg; simp only [All, List.cons_append, List.nil_append, List.append_nil, List.mem_cons, List.not_mem_nil, or_false, forall_eq_or_imp, forall_eq, hg, and_self])) rfl rfl ?_; clear hC a; intro a hC
      exact L.nil ⟨⟨_, [], hC⟩, Frm.refl _ _⟩
    apply DRN.cons (.det _ _) rfl
    · intro a w hC
      refine L.lda hC rfl rfl rfl (fun _ => All.nil) m0 Try.isAgg65 Try.sizeOf65 rfl rfl rfl rfl ?_; clear hC a; intro a hC
      exact L.nil ⟨⟨_, [], hC⟩, Frm.refl _ _⟩
    apply DRN.cons (.det _ _) rfl
    · intro a w hC
      refine L.call hC rfl rfl Try.call155 rfl (fun hg => by first | (simp only [Gt, Bool.and_eq_true] at hg; simp only [All, List.cons_append, List.nil_append, List.append_nil, List.mem_cons, List.not_mem_nil, or_false, forall_eq_or_imp, forall_eq, Bool.and_eq_true, hg, Bool.not_false, Bool.not_true, and_self]; done) | (simp only [Gt] at hg; simp only [All, List.cons_append, List.nil_append, List.append_nil, List.mem_cons, List.not_mem_nil, or_false, forall_eq_or_imp, forall_eq, hg, and_self])) (fun hg => pin_ok _ _) rfl rfl ?_; clear hC a; intro a w hF hC
      exact L.nil ⟨⟨_, [], hC⟩, hF⟩
    apply DRN.cons (.det _ _) rfl
    · intro a w hC
      refine L.pu hC rfl rfl (fun _ => All.nil) rfl rfl ?_; clear hC a; intro a hC
      exact L.nil ⟨⟨_, [], hC⟩, Frm.refl _ _⟩
    apply DRN.cons (.det _ _) rfl
    · intro a w hC
      refine L.pu hC rfl rfl (fun hg => by first | (simp only [Gt, Bool.and_eq_true] at hg; simp only [All, List.cons_append, List.nil_append, List.append_nil, List.mem_cons, List.not_mem_nil, or_false, forall_eq_or_imp, forall_eq, Bool.and_eq_true, hg, Bool.not_false, Bool.not_true, and_self]; done) | (simp only [Gt] at hg; simp only [All, List.cons_append, List.nil_append, List.append_nil, List.mem_cons, List.not_mem_nil, or_false, forall_eq_or_imp, forall_eq, hg, and_self])) rfl rfl ?_; clear hC a; intro a hC
      exact L.nil ⟨⟨_, [], hC⟩, Frm.refl _ _⟩
    apply DRN.cons (.det _ _) rfl
    · intro a w hC
      refine L.fa hC rfl rfl rfl (fun hg => by first | (simp only [Gt, Bool.and_eq_true] at hg; simp only [All, List.cons_append, List.nil_append, List.append_nil, List.mem_cons, List.not_mem_nil, or_false, forall_eq_or_imp, forall_eq, Bool.and_eq_true, hg, Bool.not_false, Bool.not_true, and_self]; done) | (simp only [Gt] at hg; simp only [All, List.cons_append, List.nil_append, List.append_nil, List.mem_cons, List.not_mem_nil, or_false, forall_eq_or_imp, forall_eq, hg, and_self])) Try.underlying143 rfl Try.sizeOf56 rfl rfl rfl ?_; clear hC a; intro a hC
      exact L.nil ⟨⟨_, [], hC⟩, Frm.refl _ _⟩
    apply DRN.cons (.det _ _) rfl
    · intro a w hC
      refine L.fa hC rfl rfl rfl (fun hg => by first | (simp only [Gt, Bool.and_eq_true] at hg; simp only [All, List.cons_append, List.nil_append, List.append_nil, List.mem_cons, List.not_mem_nil, or_false, forall_eq_or_imp, forall_eq, Bool.and_eq_true, hg, Bool.not_false, Bool.not_true, and_self]; done) | (simp only [Gt] at hg; simp only [All, List.cons_append, List.nil_append, List.append_nil, List.mem_cons, List.not_mem_nil, or_false, forall_eq_or_imp, forall_eq, hg, and_self])) Try.underlying56 rfl Try.sizeOf54 rfl rfl rfl ?_; clear hC a; intro a hC
      exact L.nil ⟨⟨_, [], hC⟩, Frm.refl _ _⟩
    apply DRN.cons (.det _ _) rfl
    · intro a w hC
      refine L.ldr hC rfl rfl rfl (fun hg => by first | (simp only [Gt, Bool.and_eq_true] at hg; simp only [All, List.cons_append, List.nil_append, List.append_nil, List.mem_cons, List.not_mem_nil, or_false, forall_eq_or_imp, forall_eq, Bool.and_eq_true, hg, Bool.not_false, Bool.not_true, and_self]; done) | (simp only [Gt] at hg; simp only [All, List.cons_append, List.nil_append, List.append_nil, List.mem_cons, List.not_mem_nil, or_false, forall_eq_or_imp, forall_eq, hg, and_self])) m1 Try.isAgg54 rfl rfl rfl ?_; clear hC a; intro a hC
      exact L.nil ⟨⟨_, [], hC⟩, Frm.refl _ _⟩
    apply DRN.cons (.det _ _) rfl
    · intro a w hC
      refine L.ixr hC rfl rfl rfl rfl m2 (fun hg => by first | (simp only [Gt, Bool.and_eq_true] at hg; simp only [All, List.cons_append, List.nil_append, List.append_nil, List.mem_cons, List.not_mem_nil, or_false, forall_eq_or_imp, forall_eq, Bool.and_eq_true, hg, Bool.not_false, Bool.not_true, and_self]; done) | (simp only [Gt] at hg; simp only [All, List.cons_append, List.nil_append, List.append_nil, List.mem_cons, List.not_mem_nil, or_false, forall_eq_or_imp, forall_eq, hg, and_self])) (fun _ => All.nil) Try.underlying54 Try.sizeOf65 (fun _ => by omega) rfl rfl ?_; clear hC a; intro a hC
      exact L.nil ⟨⟨_, [], hC⟩, Frm.refl _ _⟩
    apply DRN.cons (.det _ _) rfl
    · intro a w hC
      refine L.ldxa hC rfl rfl rfl rfl (fun hg => by first | (simp only [Gt, Bool.and_eq_true] at hg; simp only [All, List.cons_append, List.nil_append, List.append_nil, List.mem_cons, List.not_mem_nil, or_false, forall_eq_or_imp, forall_eq, Bool.and_eq_true, hg, Bool.not_false, Bool.not_true, and_self]; done) | (simp only [Gt] at hg; simp only [All, List.cons_append, List.nil_append, List.append_nil, List.mem_cons, List.not_mem_nil, or_false, forall_eq_or_imp, forall_eq, hg, and_self])) (fun hg => rd_bang hC m2 (show 0 < l.length by omega) _) Try.isAgg65 Try.sizeOf65 rfl rfl rfl rfl ?_; clear hC a; intro a hC
      exact L.nil ⟨⟨_, [], hC⟩, Frm.refl _ _⟩
    apply DRN.cons (.det _ _) rfl
    · intro a w hC
      refine L.call hC rfl rfl Try.call155 rfl (fun hg => by first | (simp only [Gt, Bool.and_eq_true] at hg; simp only [All, List.cons_append, List.nil_append, List.append_nil, List.mem_cons, List.not_mem_nil, or_false, forall_eq_or_imp, forall_eq, Bool.and_eq_true, hg, Bool.not_false, Bool.not_true, and_self]; done) | (simp only [Gt] at hg; simp only [All, List.cons_append, List.nil_append, List.append_nil, List.mem_cons, List.not_mem_nil, or_false, forall_eq_or_imp, forall_eq, hg, and_self])) (fun hg => pin_ok _ _) rfl rfl ?_; clear hC a; intro a w hF hC
      exact L.nil ⟨⟨_, [], hC⟩, hF⟩
    apply DRN.cons (.det _ _) rfl
    · intro a w hC
      refine L.bin hC rfl rfl rfl rfl (fun hg => by first | (simp only [Gt, Bool.and_eq_true] at hg; simp only [All, List.cons_append, List.nil_append, List.append_nil, List.mem_cons, List.not_mem_nil, or_false, forall_eq_or_imp, forall_eq, Bool.and_eq_true, hg, Bool.not_false, Bool.not_true, and_self]; done) | (simp only [Gt] at hg; simp only [All, List.cons_append, List.nil_append, List.append_nil, List.mem_cons, List.not_mem_nil, or_false, forall_eq_or_imp, forall_eq, hg, and_self])) (fun hg => by first | (simp only [Gt, Bool.and_eq_true] at hg; simp only [All, List.cons_append, List.nil_append, List.append_nil, List.mem_cons, List.not_mem_nil, or_false, forall_eq_or_imp, forall_eq, Bool.and_eq_true, hg, Bool.not_false, Bool.not_true, and_self]; done) | (simp only [Gt] at hg; simp only [All, List.cons_append, List.nil_append, List.append_nil, List.mem_cons, List.not_mem_nil, or_false, forall_eq_or_imp, forall_eq, hg, and_self])) (fun _ => run_neS Try.underlying222 Try.stoodInHeld222 Try.eqGuardType222 ⟨⟨rfl, rfl, ⟨_, Try.underlying3⟩⟩, ⟨rfl, rfl, ⟨_, Try.underlying3⟩⟩, ⟨rfl, rfl, ⟨_, Try.underlying3⟩⟩, ⟨rfl, rfl, ⟨_, Try.underlying3⟩⟩, trivial⟩ rfl) rfl rfl ?_; clear hC a; intro a hC
      exact L.nil ⟨⟨_, [], hC⟩, Frm.refl _ _⟩
    apply DRN.cons (.det _ _) rfl
    · intro a w hC
      refine L.and hC rfl rfl rfl rfl (fun hg => by first | (simp only [Gt, Bool.and_eq_true] at hg; simp only [All, List.cons_append, List.nil_append, List.append_nil, List.mem_cons, List.not_mem_nil, or_false, forall_eq_or_imp, forall_eq, Bool.and_eq_true, hg, Bool.not_false, Bool.not_true, and_self]; done) | (simp only [Gt] at hg; simp only [All, List.cons_append, List.nil_append, List.append_nil, List.mem_cons, List.not_mem_nil, or_false, forall_eq_or_imp, forall_eq, hg, and_self])) (fun hg hp => by first | (simp only [Gt, Bool.and_eq_true] at hg; simp only [All, List.cons_append, List.nil_append, List.append_nil, List.mem_cons, List.not_mem_nil, or_false, forall_eq_or_imp, forall_eq, Bool.and_eq_true, hg, hp, Bool.not_false, Bool.not_true, and_self]; done) | (simp only [Gt] at hg; simp only [All, List.cons_append, List.nil_append, List.append_nil, List.mem_cons, List.not_mem_nil, or_false, forall_eq_or_imp, forall_eq, Bool.and_eq_true]; exact ⟨hg, by simp only [hp, Bool.not_false]⟩)) rfl rfl ?_; clear hC a; intro a hC
      exact L.nil ⟨⟨_, [], hC⟩, Frm.refl _ _⟩
    apply DRN.cons (.det _ _) rfl
    · intro a w hC
      refine L.or hC rfl rfl rfl rfl (fun _ => All.nil) (fun _ hp => by simp only [All, List.cons_append, List.nil_append, List.append_nil, List.mem_cons, List.not_mem_nil, or_false, forall_eq_or_imp, forall_eq, Bool.and_eq_true, hp, Bool.not_false, Bool.not_true, and_self]) rfl rfl ?_; clear hC a; intro a hC
      exact L.nil ⟨⟨_, [], hC⟩, Frm.refl _ _⟩
    apply DRN.cons (.det _ _) rfl
    · intro v8 v15 a w hC
      refine L.pu hC rfl rfl (fun _ => All.nil) rfl rfl ?_; clear hC a; intro a hC
      exact L.nil ⟨⟨_, [_, _], hC⟩, Frm.refl _ _⟩
    refine DRN.nil (fun w' hF => ?_)
    intro v8 v15 a w hC hw
    subst hw
    refine hk5 _ _ ?_; clear hk5; try clear k5
    refine W.ret ?_
    refine rets hC rfl (.tmp rfl .nil) ?_
    refine ⟨?_, hC.frm⟩
    refine rb ?_
    unfold oddA lastA; rw [if_pos h1]; rfl
  ·
    have h1' := of_decide_eq_false h1
    refine W.skip ?_
    refine hk3 _ _ ?_; clear hk3; try clear k3
    refine W.seqk fun k6 hk6 => ?_
    replace hC := hC.del 6
    refine W.drawD hC Try.mixed rfl rfl ?_
    apply DRN.cons (.det _ _) rfl
    · intro a w hC
      refine L.fa hC rfl rfl rfl (fun _ => All.nil) Try.underlying65 rfl Try.sizeOf3 rfl rfl rfl ?_; clear hC a; intro a hC
      exact L.nil ⟨⟨_, [], hC⟩, Frm.refl _ _⟩
    apply DRN.cons (.det _ _) rfl
    · intro a w hC
      refine L.ld hC rfl rfl rfl (fun _ => All.nil) m0 Try.isAgg3 rfl rfl rfl ?_; clear hC a; intro a hC
      exact L.nil ⟨⟨_, [], hC⟩, Frm.refl _ _⟩
    apply DRN.cons (.det _ _) rfl
    · intro a w hC
      refine L.fa hC rfl rfl rfl (fun _ => All.nil) Try.underlying65 rfl Try.sizeOf3 rfl rfl rfl ?_; clear hC a; intro a hC
      exact L.nil ⟨⟨_, [], hC⟩, Frm.refl _ _⟩
    apply DRN.cons (.det _ _) rfl
    · intro a w hC
      refine L.ld hC rfl rfl rfl (fun _ => All.nil) m0 Try.isAgg3 rfl rfl rfl ?_; clear hC a; intro a hC
      exact L.nil ⟨⟨_, [], hC⟩, Frm.refl _ _⟩
    apply DRN.cons (.det _ _) rfl
    · intro a w hC
      refine L.fa hC rfl rfl rfl (fun _ => All.nil) Try.underlying65 rfl Try.sizeOf3 rfl rfl rfl ?_; clear hC a; intro a hC
      exact L.nil ⟨⟨_, [], hC⟩, Frm.refl _ _⟩
    apply DRN.cons (.det _ _) rfl
    · intro a w hC
      refine L.ld hC rfl rfl rfl (fun _ => All.nil) m0 Try.isAgg3 rfl rfl rfl ?_; clear hC a; intro a hC
      exact L.nil ⟨⟨_, [], hC⟩, Frm.refl _ _⟩
    apply DRN.cons (.det _ _) rfl
    · intro a w hC
      refine L.fa hC rfl rfl rfl (fun _ => All.nil) Try.underlying65 rfl Try.sizeOf3 rfl rfl rfl ?_; clear hC a; intro a hC
      exact L.nil ⟨⟨_, [], hC⟩, Frm.refl _ _⟩
    apply DRN.cons (.det _ _) rfl
    · intro a w hC
      refine L.ld hC rfl rfl rfl (fun _ => All.nil) m0 Try.isAgg3 rfl rfl rfl ?_; clear hC a; intro a hC
      exact L.nil ⟨⟨_, [], hC⟩, Frm.refl _ _⟩
    apply DRN.cons (.lit _ _ fun v => rdR v intE _) rfl
    · intro a w hC
      exact L.litsP hC rfl rfl rfl (fun _ => All.nil) Try.underlying37 Try.infoI3 rfl rfl rfl rfl rfl rfl rfl rfl (fun a w' v hF hC => L.nil ⟨⟨v, _, [], fun _ h => h.2, hC⟩, hF⟩)
    apply DRN.cons (.det _ _) rfl
    · intro v8 a w hC
      refine L.call hC rfl rfl Try.call79 rfl (fun _ => All.nil) (fun hg => in27_ok _ _ _ _ _ (hC.at m0 hg)) rfl rfl ?_; clear hC a; intro a w hF hC
      exact L.nil ⟨⟨_, [_], hC⟩, hF⟩
    apply DRN.cons (.det _ _) rfl
    · intro a w hC
      refine L.pu hC rfl rfl (fun _ => All.nil) rfl rfl ?_; clear hC a; intro a hC
      exact L.nil ⟨⟨_, [], hC⟩, Frm.refl _ _⟩
    apply DRN.cons (.det _ _) rfl
    · intro a w hC
      refine L.pu hC rfl rfl (fun _ => All.nil) rfl rfl ?_; clear hC a; intro a hC
      exact L.nil ⟨⟨_, [], hC⟩, Frm.refl _ _⟩
    apply DRN.cons (.det _ _) rfl
    · intro a w hC
      refine L.pu hC rfl rfl (fun _ => All.nil) rfl rfl ?_; clear hC a; intro a hC
      exact L.nil ⟨⟨_, [], hC⟩, Frm.refl _ _⟩
    apply DRN.cons (.det _ _) rfl
    · intro a w hC
      refine L.fa hC rfl rfl rfl (fun _ => All.nil) Try.underlying65 rfl Try.sizeOf3 rfl rfl rfl ?_; clear hC a; intro a hC
      exact L.nil ⟨⟨_, [], hC⟩, Frm.refl _ _⟩
    apply DRN.cons (.det _ _) rfl
    · intro a w hC
      refine L.ld hC rfl rfl rfl (fun hg => by first | (simp only [Gt, Bool.and_eq_true] at hg; simp only [All, List.cons_append, List.nil_append, List.append_nil, List.mem_cons, List.not_mem_nil, or_false, forall_eq_or_imp, forall_eq, Bool.and_eq_true, hg, Bool.not_false, Bool.not_true, and_self]; done) | (simp only [Gt] at hg; simp only [All, List.cons_append, List.nil_append, List.append_nil, List.mem_cons, List.not_mem_nil, or_false, forall_eq_or_imp, forall_eq, hg, and_self])) m0 Try.isAgg3 rfl rfl rfl ?_; clear hC a; intro a hC
      exact L.nil ⟨⟨_, [], hC⟩, Frm.refl _ _⟩
    apply DRN.cons (.lit _ _ fun v => rdR v intE _) rfl
    · intro a w hC
      exact L.litsP hC rfl rfl rfl (fun hg => by first | (simp only [Gt, Bool.and_eq_true] at hg; simp only [All, List.cons_append, List.nil_append, List.append_nil, List.mem_cons, List.not_mem_nil, or_false, forall_eq_or_imp, forall_eq, Bool.and_eq_true, hg, Bool.not_false, Bool.not_true, and_self]; done) | (simp only [Gt] at hg; simp only [All, List.cons_append, List.nil_append, List.append_nil, List.mem_cons, List.not_mem_nil, or_false, forall_eq_or_imp, forall_eq, hg, and_self])) Try.underlying37 Try.infoI3 rfl rfl rfl rfl rfl rfl rfl rfl (fun a w' v hF hC => L.nil ⟨⟨v, _, [], fun _ h => h.2, hC⟩, hF⟩)
    apply DRN.cons (.det _ _) rfl
    · intro v15 a w hC
      refine L.call hC rfl rfl Try.call79 rfl (fun hg => by first | (simp only [Gt, Bool.and_eq_true] at hg; simp only [All, List.cons_append, List.nil_append, List.append_nil, List.mem_cons, List.not_mem_nil, or_false, forall_eq_or_imp, forall_eq, Bool.and_eq_true, hg, Bool.not_false, Bool.not_true, and_self]; done) | (simp only [Gt] at hg; simp only [All, List.cons_append, List.nil_append, List.append_nil, List.mem_cons, List.not_mem_nil, or_false, forall_eq_or_imp, forall_eq, hg, and_self])) (fun hg => in27_ok _ _ _ _ _ (hC.at m0 hg)) rfl rfl ?_; clear hC a; intro a w hF hC
      exact L.nil ⟨⟨_, [_], hC⟩, hF⟩
    apply DRN.cons (.det _ _) rfl
    · intro a w hC
      refine L.pu hC rfl rfl (fun hg => by first | (simp only [Gt, Bool.and_eq_true] at hg; simp only [All, List.cons_append, List.nil_append, List.append_nil, List.mem_cons, List.not_mem_nil, or_false, forall_eq_or_imp, forall_eq, Bool.and_eq_true, hg, Bool.not_false, Bool.not_true, and_self]; done) | (simp only [Gt] at hg; simp only [All, List.cons_append, List.nil_append, List.append_nil, List.mem_cons, List.not_mem_nil, or_false, forall_eq_or_imp, forall_eq, hg, and_self])) rfl rfl ?_; clear hC a; intro a hC
      exact L.nil ⟨⟨_, [], hC⟩, Frm.refl _ _⟩
    apply DRN.cons (.det _ _) rfl
    · intro a w hC
      refine L.or hC rfl rfl rfl rfl (fun _ => All.nil) (fun _ hp => by simp only [All, List.cons_append, List.nil_append, List.append_nil, List.mem_cons, List.not_mem_nil, or_false, forall_eq_or_imp, forall_eq, Bool.and_eq_true, hp, Bool.not_false, Bool.not_true, and_self]) rfl rfl ?_; clear hC a; intro a hC
      exact L.nil ⟨⟨_, [], hC⟩, Frm.refl _ _⟩
    apply DRN.cons (.det _ _) rfl
    · intro a w hC
      refine L.pu hC rfl rfl (fun _ => All.nil) rfl rfl ?_; clear hC a; intro a hC
      exact L.nil ⟨⟨_, [], hC⟩, Frm.refl _ _⟩
    apply DRN.cons (.det _ _) rfl
    · intro a w hC
      refine L.fa hC rfl rfl rfl (fun _ => All.nil) Try.underlying65 rfl Try.sizeOf4 rfl rfl rfl ?_; clear hC a; intro a hC
      exact L.nil ⟨⟨_, [], hC⟩, Frm.refl _ _⟩
    apply DRN.cons (.det _ _) rfl
    · intro a w hC
      refine L.ld hC rfl rfl rfl (fun hg => by first | (simp only [Gt, Bool.and_eq_true] at hg; simp only [All, List.cons_append, List.nil_append, List.append_nil, List.mem_cons, List.not_mem_nil, or_false, forall_eq_or_imp, forall_eq, Bool.and_eq_true, hg, Bool.not_false, Bool.not_true, and_self]; done) | (simp only [Gt] at hg; simp only [All, List.cons_append, List.nil_append, List.append_nil, List.mem_cons, List.not_mem_nil, or_false, forall_eq_or_imp, forall_eq, hg, and_self])) m0 Try.isAgg4 rfl rfl rfl ?_; clear hC a; intro a hC
      exact L.nil ⟨⟨_, [], hC⟩, Frm.refl _ _⟩
    apply DRN.cons (.det _ _) rfl
    · intro a w hC
      refine L.pu hC rfl rfl (fun hg => by first | (simp only [Gt, Bool.and_eq_true] at hg; simp only [All, List.cons_append, List.nil_append, List.append_nil, List.mem_cons, List.not_mem_nil, or_false, forall_eq_or_imp, forall_eq, Bool.and_eq_true, hg, Bool.not_false, Bool.not_true, and_self]; done) | (simp only [Gt] at hg; simp only [All, List.cons_append, List.nil_append, List.append_nil, List.mem_cons, List.not_mem_nil, or_false, forall_eq_or_imp, forall_eq, hg, and_self])) rfl rfl ?_; clear hC a; intro a hC
      exact L.nil ⟨⟨_, [], hC⟩, Frm.refl _ _⟩
    apply DRN.cons (.det _ _) rfl
    · intro a w hC
      refine L.pu hC rfl rfl (fun _ => All.nil) rfl rfl ?_; clear hC a; intro a hC
      exact L.nil ⟨⟨_, [], hC⟩, Frm.refl _ _⟩
    apply DRN.cons (.det _ _) rfl
    · intro a w hC
      refine L.pu hC rfl rfl (fun hg => by first | (simp only [Gt, Bool.and_eq_true] at hg; simp only [All, List.cons_append, List.nil_append, List.append_nil, List.mem_cons, List.not_mem_nil, or_false, forall_eq_or_imp, forall_eq, Bool.and_eq_true, hg, Bool.not_false, Bool.not_true, and_self]; done) | (simp only [Gt] at hg; simp only [All, List.cons_append, List.nil_append, List.append_nil, List.mem_cons, List.not_mem_nil, or_false, forall_eq_or_imp, forall_eq, hg, and_self])) rfl rfl ?_; clear hC a; intro a hC
      exact L.nil ⟨⟨_, [], hC⟩, Frm.refl _ _⟩
    apply DRN.cons (.det _ _) rfl
    · intro a w hC
      refine L.pu hC rfl rfl (fun hg => by first | (simp only [Gt, Bool.and_eq_true] at hg; simp only [All, List.cons_append, List.nil_append, List.append_nil, List.mem_cons, List.not_mem_nil, or_false, forall_eq_or_imp, forall_eq, Bool.and_eq_true, hg, Bool.not_false, Bool.not_true, and_self]; done) | (simp only [Gt] at hg; simp only [All, List.cons_append, List.nil_append, List.append_nil, List.mem_cons, List.not_mem_nil, or_false, forall_eq_or_imp, forall_eq, hg, and_self])) rfl rfl ?_; clear hC a; intro a hC
      exact L.nil ⟨⟨_, [], hC⟩, Frm.refl _ _⟩
    apply DRN.cons (.det _ _) rfl
    · intro a w hC
      refine L.pu hC rfl rfl (fun _ => All.nil) rfl rfl ?_; clear hC a; intro a hC
      exact L.nil ⟨⟨_, [], hC⟩, Frm.refl _ _⟩
    apply DRN.cons (.det _ _) rfl
    · intro a w hC
      refine L.pu hC rfl rfl (fun hg => by first | (simp only [Gt, Bool.and_eq_true] at hg; simp only [All, List.cons_append, List.nil_append, List.append_nil, List.mem_cons, List.not_mem_nil, or_false, forall_eq_or_imp, forall_eq, Bool.and_eq_true, hg, Bool.not_false, Bool.not_true, and_self]; done) | (simp only [Gt] at hg; simp only [All, List.cons_append, List.nil_append, List.append_nil, List.mem_cons, List.not_mem_nil, or_false, forall_eq_or_imp, forall_eq, hg, and_self])) rfl rfl ?_; clear hC a; intro a hC
      exact L.nil ⟨⟨_, [], hC⟩, Frm.refl _ _⟩
    apply DRN.cons (.det _ _) rfl
    · intro a w hC
      refine L.fa hC rfl rfl rfl (fun hg => by first | (simp only [Gt, Bool.and_eq_true] at hg; simp only [All, List.cons_append, List.nil_append, List.append_nil, List.mem_cons, List.not_mem_nil, or_false, forall_eq_or_imp, forall_eq, Bool.and_eq_true, hg, Bool.not_false, Bool.not_true, and_self]; done) | (simp only [Gt] at hg; simp only [All, List.cons_append, List.nil_append, List.append_nil, List.mem_cons, List.not_mem_nil, or_false, forall_eq_or_imp, forall_eq, hg, and_self])) Try.underlying143 rfl Try.sizeOf56 rfl rfl rfl ?_; clear hC a; intro a hC
      exact L.nil ⟨⟨_, [], hC⟩, Frm.refl _ _⟩
    apply DRN.cons (.det _ _) rfl
    · intro a w hC
      refine L.fa hC rfl rfl rfl (fun hg => by first | (simp only [Gt, Bool.and_eq_true] at hg; simp only [All, List.cons_append, List.nil_append, List.append_nil, List.mem_cons, List.not_mem_nil, or_false, forall_eq_or_imp, forall_eq, Bool.and_eq_true, hg, Bool.not_false, Bool.not_true, and_self]; done) | (simp only [Gt] at hg; simp only [All, List.cons_append, List.nil_append, List.append_nil, List.mem_cons, List.not_mem_nil, or_false, forall_eq_or_imp, forall_eq, hg, and_self])) Try.underlying56 rfl Try.sizeOf4 rfl rfl rfl ?_; clear hC a; intro a hC
      exact L.nil ⟨⟨_, [], hC⟩, Frm.refl _ _⟩
    apply DRN.cons (.det _ _) rfl
    · intro a w hC
      refine L.ldr hC rfl rfl rfl (fun hg => by first | (simp only [Gt, Bool.and_eq_true] at hg; simp only [All, List.cons_append, List.nil_append, List.append_nil, List.mem_cons, List.not_mem_nil, or_false, forall_eq_or_imp, forall_eq, Bool.and_eq_true, hg, Bool.not_false, Bool.not_true, and_self]; done) | (simp only [Gt] at hg; simp only [All, List.cons_append, List.nil_append, List.append_nil, List.mem_cons, List.not_mem_nil, or_false, forall_eq_or_imp, forall_eq, hg, and_self])) m1 Try.isAgg4 rfl rfl rfl ?_; clear hC a; intro a hC
      exact L.nil ⟨⟨_, [], hC⟩, Frm.refl _ _⟩
    apply DRN.cons (.det _ _) rfl
    · intro a w hC
      refine L.or hC rfl rfl rfl rfl (fun hg => by first | (simp only [Gt, Bool.and_eq_true] at hg; simp only [All, List.cons_append, List.nil_append, List.append_nil, List.mem_cons, List.not_mem_nil, or_false, forall_eq_or_imp, forall_eq, Bool.and_eq_true, hg, Bool.not_false, Bool.not_true, and_self]; done) | (simp only [Gt] at hg; simp only [All, List.cons_append, List.nil_append, List.append_nil, List.mem_cons, List.not_mem_nil, or_false, forall_eq_or_imp, forall_eq, hg, and_self])) (fun hg hp => by first | (simp only [Gt, Bool.and_eq_true] at hg; simp only [All, List.cons_append, List.nil_append, List.append_nil, List.mem_cons, List.not_mem_nil, or_false, forall_eq_or_imp, forall_eq, Bool.and_eq_true, hg, hp, Bool.not_false, Bool.not_true, and_self]; done) | (simp only [Gt] at hg; simp only [All, List.cons_append, List.nil_append, List.append_nil, List.mem_cons, List.not_mem_nil, or_false, forall_eq_or_imp, forall_eq, Bool.and_eq_true]; exact ⟨hg, by simp only [hp, Bool.not_false]⟩)) rfl rfl ?_; clear hC a; intro a hC
      exact L.nil ⟨⟨_, [], hC⟩, Frm.refl _ _⟩
    apply DRN.cons (.det _ _) rfl
    · intro a w hC
      refine L.and hC rfl rfl rfl rfl (fun hg => by first | (simp only [Gt, Bool.and_eq_true] at hg; simp only [All, List.cons_append, List.nil_append, List.append_nil, List.mem_cons, List.not_mem_nil, or_false, forall_eq_or_imp, forall_eq, Bool.and_eq_true, hg, Bool.not_false, Bool.not_true, and_self]; done) | (simp only [Gt] at hg; simp only [All, List.cons_append, List.nil_append, List.append_nil, List.mem_cons, List.not_mem_nil, or_false, forall_eq_or_imp, forall_eq, hg, and_self])) (fun hg hp => by first | (simp only [Gt, Bool.and_eq_true] at hg; simp only [All, List.cons_append, List.nil_append, List.append_nil, List.mem_cons, List.not_mem_nil, or_false, forall_eq_or_imp, forall_eq, Bool.and_eq_true, hg, hp, Bool.not_false, Bool.not_true, and_self]; done) | (simp only [Gt] at hg; simp only [All, List.cons_append, List.nil_append, List.append_nil, List.mem_cons, List.not_mem_nil, or_false, forall_eq_or_imp, forall_eq, Bool.and_eq_true]; exact ⟨hg, by simp only [hp, Bool.not_false]⟩)) rfl rfl ?_; clear hC a; intro a hC
      exact L.nil ⟨⟨_, [], hC⟩, Frm.refl _ _⟩
    apply DRN.cons (.det _ _) rfl
    · intro a w hC
      refine L.or hC rfl rfl rfl rfl (fun _ => All.nil) (fun _ hp => by simp only [All, List.cons_append, List.nil_append, List.append_nil, List.mem_cons, List.not_mem_nil, or_false, forall_eq_or_imp, forall_eq, Bool.and_eq_true, hp, Bool.not_false, Bool.not_true, and_self]) rfl rfl ?_; clear hC a; intro a hC
      exact L.nil ⟨⟨_, [], hC⟩, Frm.refl _ _⟩
    apply DRN.cons (.det _ _) rfl
    · intro a w hC
      refine L.pu hC rfl rfl (fun _ => All.nil) rfl rfl ?_; clear hC a; intro a hC
      exact L.nil ⟨⟨_, [], hC⟩, Frm.refl _ _⟩
    apply DRN.cons (.det _ _) rfl
    · intro a w hC
      refine L.pu hC rfl rfl (fun _ => All.nil) rfl rfl ?_; clear hC a; intro a hC
      exact L.nil ⟨⟨_, [], hC⟩, Frm.refl _ _⟩
    apply DRN.cons (.det _ _) rfl
    · intro a w hC
      refine L.pu hC rfl rfl (fun hg => by first | (simp only [Gt, Bool.and_eq_true] at hg; simp only [All, List.cons_append, List.nil_append, List.append_nil, List.mem_cons, List.not_mem_nil, or_false, forall_eq_or_imp, forall_eq, Bool.and_eq_true, hg, Bool.not_false, Bool.not_true, and_self]; done) | (simp only [Gt] at hg; simp only [All, List.cons_append, List.nil_append, List.append_nil, List.mem_cons, List.not_mem_nil, or_false, forall_eq_or_imp, forall_eq, hg, and_self])) rfl rfl ?_; clear hC a; intro a hC
      exact L.nil ⟨⟨_, [], hC⟩, Frm.refl _ _⟩
    apply DRN.cons (.det _ _) rfl
    · intro a w hC
      refine L.fa hC rfl rfl rfl (fun hg => by first | (simp only [Gt, Bool.and_eq_true] at hg; simp only [All, List.cons_append, List.nil_append, List.append_nil, List.mem_cons, List.not_mem_nil, or_false, forall_eq_or_imp, forall_eq, Bool.and_eq_true, hg, Bool.not_false, Bool.not_true, and_self]; done) | (simp only [Gt] at hg; simp only [All, List.cons_append, List.nil_append, List.append_nil, List.mem_cons, List.not_mem_nil, or_false, forall_eq_or_imp, forall_eq, hg, and_self])) Try.underlying143 rfl Try.sizeOf56 rfl rfl rfl ?_; clear hC a; intro a hC
      exact L.nil ⟨⟨_, [], hC⟩, Frm.refl _ _⟩
    apply DRN.cons (.det _ _) rfl
    · intro a w hC
      refine L.fa hC rfl rfl rfl (fun hg => by first | (simp only [Gt, Bool.and_eq_true] at hg; simp only [All, List.cons_append, List.nil_append, List.append_nil, List.mem_cons, List.not_mem_nil, or_false, forall_eq_or_imp, forall_eq, Bool.and_eq_true, hg, Bool.not_false, Bool.not_true, and_self]; done) | (simp only [Gt] at hg; simp only [All, List.cons_append, List.nil_append, List.append_nil, List.mem_cons, List.not_mem_nil, or_false, forall_eq_or_imp, forall_eq, hg, and_self])) Try.underlying56 rfl Try.sizeOf4 rfl rfl rfl ?_; clear hC a; intro a hC
      exact L.nil ⟨⟨_, [], hC⟩, Frm.refl _ _⟩
    apply DRN.cons (.det _ _) rfl
    · intro a w hC
      refine L.ldr hC rfl rfl rfl (fun hg => by first | (simp only [Gt, Bool.and_eq_true] at hg; simp only [All, List.cons_append, List.nil_append, List.append_nil, List.mem_cons, List.not_mem_nil, or_false, forall_eq_or_imp, forall_eq, Bool.and_eq_true, hg, Bool.not_false, Bool.not_true, and_self]; done) | (simp only [Gt] at hg; simp only [All, List.cons_append, List.nil_append, List.append_nil, List.mem_cons, List.not_mem_nil, or_false, forall_eq_or_imp, forall_eq, hg, and_self])) m1 Try.isAgg4 rfl rfl rfl ?_; clear hC a; intro a hC
      exact L.nil ⟨⟨_, [], hC⟩, Frm.refl _ _⟩
    apply DRN.cons (.det _ _) rfl
    · intro a w hC
      refine L.pu hC rfl rfl (fun hg => by first | (simp only [Gt, Bool.and_eq_true] at hg; simp only [All, List.cons_append, List.nil_append, List.append_nil, List.mem_cons, List.not_mem_nil, or_false, forall_eq_or_imp, forall_eq, Bool.and_eq_true, hg, Bool.not_false, Bool.not_true, and_self]; done) | (simp only [Gt] at hg; simp only [All, List.cons_append, List.nil_append, List.append_nil, List.mem_cons, List.not_mem_nil, or_false, forall_eq_or_imp, forall_eq, hg, and_self])) rfl rfl ?_; clear hC a; intro a hC
      exact L.nil ⟨⟨_, [], hC⟩, Frm.refl _ _⟩
    apply DRN.cons (.det _ _) rfl
    · intro a w hC
      refine L.lda hC rfl rfl rfl (fun _ => All.nil) m0 Try.isAgg65 Try.sizeOf65 rfl rfl rfl rfl ?_; clear hC a; intro a hC
      exact L.nil ⟨⟨_, [], hC⟩, Frm.refl _ _⟩
    apply DRN.cons (.det _ _) rfl
    · intro a w hC
      refine L.call hC rfl rfl Try.call155 rfl (fun hg => by first | (simp only [Gt, Bool.and_eq_true] at hg; simp only [All, List.cons_append, List.nil_append, List.append_nil, List.mem_cons, List.not_mem_nil, or_false, forall_eq_or_imp, forall_eq, Bool.and_eq_true, hg, Bool.not_false, Bool.not_true, and_self]; done) | (simp only [Gt] at hg; simp only [All, List.cons_append, List.nil_append, List.append_nil, List.mem_cons, List.not_mem_nil, or_false, forall_eq_or_imp, forall_eq, hg, and_self])) (fun hg => pin_ok _ _) rfl rfl ?_; clear hC a; intro a w hF hC
      exact L.nil ⟨⟨_, [], hC⟩, hF⟩
    apply DRN.cons (.det _ _) rfl
    · intro a w hC
      refine L.pu hC rfl rfl (fun _ => All.nil) rfl rfl ?_; clear hC a; intro a hC
      exact L.nil ⟨⟨_, [], hC⟩, Frm.refl _ _⟩
    apply DRN.cons (.det _ _) rfl
    · intro a w hC
      refine L.pu hC rfl rfl (fun hg => by first | (simp only [Gt, Bool.and_eq_true] at hg; simp only [All, List.cons_append, List.nil_append, List.append_nil, List.mem_cons, List.not_mem_nil, or_false, forall_eq_or_imp, forall_eq, Bool.and_eq_true, hg, Bool.not_false, Bool.not_true, and_self]; done) | (simp only [Gt] at hg; simp only [All, List.cons_append, List.nil_append, List.append_nil, List.mem_cons, List.not_mem_nil, or_false, forall_eq_or_imp, forall_eq, hg, and_self])) rfl rfl ?_; clear hC a; intro a hC
      exact L.nil ⟨⟨_, [], hC⟩, Frm.refl _ _⟩
    apply DRN.cons (.det _ _) rfl
    · intro a w hC
      refine L.fa hC rfl rfl rfl (fun hg => by first | (simp only [Gt, Bool.and_eq_true] at hg; simp only [All, List.cons_append, List.nil_append, List.append_nil, List.mem_cons, List.not_mem_nil, or_false, forall_eq_or_imp, forall_eq, Bool.and_eq_true, hg, Bool.not_false, Bool.not_true, and_self]; done) | (simp only [Gt] at hg; simp only [All, List.cons_append, List.nil_append, List.append_nil, List.mem_cons, List.not_mem_nil, or_false, forall_eq_or_imp, forall_eq, hg, and_self])) Try.underlying143 rfl Try.sizeOf56 rfl rfl rfl ?_; clear hC a; intro a hC
      exact L.nil ⟨⟨_, [], hC⟩, Frm.refl _ _⟩
    apply DRN.cons (.det _ _) rfl
    · intro a w hC
      refine L.fa hC rfl rfl rfl (fun hg => by first | (simp only [Gt, Bool.and_eq_true] at hg; simp only [All, List.cons_append, List.nil_append, List.append_nil, List.mem_cons, List.not_mem_nil, or_false, forall_eq_or_imp, forall_eq, Bool.and_eq_true, hg, Bool.not_false, Bool.not_true, and_self]; done) | (simp only [Gt] at hg; simp only [All, List.cons_append, List.nil_append, List.append_nil, List.mem_cons, List.not_mem_nil, or_false, forall_eq_or_imp, forall_eq, hg, and_self])) Try.underlying56 rfl Try.sizeOf54 rfl rfl rfl ?_; clear hC a; intro a hC
      exact L.nil ⟨⟨_, [], hC⟩, Frm.refl _ _⟩
    apply DRN.cons (.det _ _) rfl
    · intro a w hC
      refine L.ldr hC rfl rfl rfl (fun hg => by first | (simp only [Gt, Bool.and_eq_true] at hg; simp only [All, List.cons_append, List.nil_append, List.append_nil, List.mem_cons, List.not_mem_nil, or_false, forall_eq_or_imp, forall_eq, Bool.and_eq_true, hg, Bool.not_false, Bool.not_true, and_self]; done) | (simp only [Gt] at hg; simp only [All, List.cons_append, List.nil_append, List.append_nil, List.mem_cons, List.not_mem_nil, or_false, forall_eq_or_imp, forall_eq, hg, and_self])) m1 Try.isAgg54 rfl rfl rfl ?_; clear hC a; intro a hC
      exact L.nil ⟨⟨_, [], hC⟩, Frm.refl _ _⟩
    apply DRN.cons (.det _ _) rfl
    · intro a w hC
      refine L.ixr hC rfl rfl rfl rfl m2 (fun hg => by first | (simp only [Gt, Bool.and_eq_true] at hg; simp only [All, List.cons_append, List.nil_append, List.append_nil, List.mem_cons, List.not_mem_nil, or_false, forall_eq_or_imp, forall_eq, Bool.and_eq_true, hg, Bool.not_false, Bool.not_true, and_self]; done) | (simp only [Gt] at hg; simp only [All, List.cons_append, List.nil_append, List.append_nil, List.mem_cons, List.not_mem_nil, or_false, forall_eq_or_imp, forall_eq, hg, and_self])) (fun _ => All.nil) Try.underlying54 Try.sizeOf65 (fun _ => by omega) rfl rfl ?_; clear hC a; intro a hC
      exact L.nil ⟨⟨_, [], hC⟩, Frm.refl _ _⟩
    apply DRN.cons (.det _ _) rfl
    · intro a w hC
      refine L.ldxa hC rfl rfl rfl rfl (fun hg => by first | (simp only [Gt, Bool.and_eq_true] at hg; simp only [All, List.cons_append, List.nil_append, List.append_nil, List.mem_cons, List.not_mem_nil, or_false, forall_eq_or_imp, forall_eq, Bool.and_eq_true, hg, Bool.not_false, Bool.not_true, and_self]; done) | (simp only [Gt] at hg; simp only [All, List.cons_append, List.nil_append, List.append_nil, List.mem_cons, List.not_mem_nil, or_false, forall_eq_or_imp, forall_eq, hg, and_self])) (fun hg => rd_bang hC m2 (show 0 < l.length by omega) _) Try.isAgg65 Try.sizeOf65 rfl rfl rfl rfl ?_; clear hC a; intro a hC
      exact L.nil ⟨⟨_, [], hC⟩, Frm.refl _ _⟩
    apply DRN.cons (.det _ _) rfl
    · intro a w hC
      refine L.call hC rfl rfl Try.call155 rfl (fun hg => by first | (simp only [Gt, Bool.and_eq_true] at hg; simp only [All, List.cons_append, List.nil_append, List.append_nil, List.mem_cons, List.not_mem_nil, or_false, forall_eq_or_imp, forall_eq, Bool.and_eq_true, hg, Bool.not_false, Bool.not_true, and_self]; done) | (simp only [Gt] at hg; simp only [All, List.cons_append, List.nil_append, List.append_nil, List.mem_cons, List.not_mem_nil, or_false, forall_eq_or_imp, forall_eq, hg, and_self])) (fun hg => pin_ok _ _) rfl rfl ?_; clear hC a; intro a w hF hC
      exact L.nil ⟨⟨_, [], hC⟩, hF⟩
    apply DRN.cons (.det _ _) rfl
    · intro a w hC
      refine L.bin hC rfl rfl rfl rfl (fun hg => by first | (simp only [Gt, Bool.and_eq_true] at hg; simp only [All, List.cons_append, List.nil_append, List.append_nil, List.mem_cons, List.not_mem_nil, or_false, forall_eq_or_imp, forall_eq, Bool.and_eq_true, hg, Bool.not_false, Bool.not_true, and_self]; done) | (simp only [Gt] at hg; simp only [All, List.cons_append, List.nil_append, List.append_nil, List.mem_cons, List.not_mem_nil, or_false, forall_eq_or_imp, forall_eq, hg, and_self])) (fun hg => by first | (simp only [Gt, Bool.and_eq_true] at hg; simp only [All, List.cons_append, List.nil_append, List.append_nil, List.mem_cons, List.not_mem_nil, or_false, forall_eq_or_imp, forall_eq, Bool.and_eq_true, hg, Bool.not_false, Bool.not_true, and_self]; done) | (simp only [Gt] at hg; simp only [All, List.cons_append, List.nil_append, List.append_nil, List.mem_cons, List.not_mem_nil, or_false, forall_eq_or_imp, forall_eq, hg, and_self])) (fun _ => run_neS Try.underlying222 Try.stoodInHeld222 Try.eqGuardType222 ⟨⟨rfl, rfl, ⟨_, Try.underlying3⟩⟩, ⟨rfl, rfl, ⟨_, Try.underlying3⟩⟩, ⟨rfl, rfl, ⟨_, Try.underlying3⟩⟩, ⟨rfl, rfl, ⟨_, Try.underlying3⟩⟩, trivial⟩ rfl) rfl rfl ?_; clear hC a; intro a hC
      exact L.nil ⟨⟨_, [], hC⟩, Frm.refl _ _⟩
    apply DRN.cons (.det _ _) rfl
    · intro a w hC
      refine L.and hC rfl rfl rfl rfl (fun hg => by first | (simp only [Gt, Bool.and_eq_true] at hg; simp only [All, List.cons_append, List.nil_append, List.append_nil, List.mem_cons, List.not_mem_nil, or_false, forall_eq_or_imp, forall_eq, Bool.and_eq_true, hg, Bool.not_false, Bool.not_true, and_self]; done) | (simp only [Gt] at hg; simp only [All, List.cons_append, List.nil_append, List.append_nil, List.mem_cons, List.not_mem_nil, or_false, forall_eq_or_imp, forall_eq, hg, and_self])) (fun hg hp => by first | (simp only [Gt, Bool.and_eq_true] at hg; simp only [All, List.cons_append, List.nil_append, List.append_nil, List.mem_cons, List.not_mem_nil, or_false, forall_eq_or_imp, forall_eq, Bool.and_eq_true, hg, hp, Bool.not_false, Bool.not_true, and_self]; done) | (simp only [Gt] at hg; simp only [All, List.cons_append, List.nil_append, List.append_nil, List.mem_cons, List.not_mem_nil, or_false, forall_eq_or_imp, forall_eq, Bool.and_eq_true]; exact ⟨hg, by simp only [hp, Bool.not_false]⟩)) rfl rfl ?_; clear hC a; intro a hC
      exact L.nil ⟨⟨_, [], hC⟩, Frm.refl _ _⟩
    apply DRN.cons (.det _ _) rfl
    · intro a w hC
      refine L.or hC rfl rfl rfl rfl (fun _ => All.nil) (fun _ hp => by simp only [All, List.cons_append, List.nil_append, List.append_nil, List.mem_cons, List.not_mem_nil, or_false, forall_eq_or_imp, forall_eq, Bool.and_eq_true, hp, Bool.not_false, Bool.not_true, and_self]) rfl rfl ?_; clear hC a; intro a hC
      exact L.nil ⟨⟨_, [], hC⟩, Frm.refl _ _⟩
    apply DRN.cons (.det _ _) rfl
    · intro v8 v15 a w hC
      refine L.pu hC rfl rfl (fun _ => All.nil) rfl rfl ?_; clear hC a; intro a hC
      exact L.nil ⟨⟨_, [_, _], hC⟩, Frm.refl _ _⟩
    refine DRN.nil (fun w' hF => ?_)
    intro v8 v15 a w hC hw
    subst hw
    refine hk6 _ _ ?_; clear hk6; try clear k6
    refine W.ret ?_
    refine rets hC rfl (.tmp rfl .nil) ?_
    refine ⟨?_, hC.frm⟩
    refine rb ?_
    unfold oddA lastA; rw [if_neg (nt h1)]; rfl

theorem fine27_ok (mb : Nat) (c : CallH) (v : Value) (s : CSet) (l : List Att) (w0 : World) (hm : (robR mb (askE c v s) 143).ok w0) (hr : (rdR v attE l).ok w0) : Calls Try.prog 82 #[.pointer (some ⟨mb, 0, none⟩)] w0 fun e w' => e = .returned (.bool (fineA c s l)) ∧ Frm Nob w0 w' := by
  have hlen := rd_lt hr
  refine enter (μ := [robR mb (askE c v s) 143, rdR v attE l]) (S := Nob) (vs := [.pointer (some ⟨mb, 0, none⟩)]) Try.func82 rfl Try.ntmps82 rfl (Mem.ro1 hm hr) (by simp [robR, rdR]) (fun a hC => ?_)
  refine W.seqk fun k1 hk1 => ?_
  refine W.region ?_
  refine L.pu hC rfl rfl (fun _ => All.nil) rfl rfl ?_; clear hC a; intro a hC
  refine L.nil ?_
  refine hk1 _ _ ?_; clear hk1; try clear k1
  refine W.seqk fun k2 hk2 => ?_
  refine W.region ?_
  refine L.pu hC rfl rfl (fun _ => All.nil) rfl rfl ?_; clear hC a; intro a hC
  refine L.pu hC rfl rfl (fun _ => All.nil) rfl rfl ?_; clear hC a; intro a hC
  refine L.fa hC rfl rfl rfl (fun _ => All.nil) Try.underlying143 rfl Try.sizeOf56 rfl rfl rfl ?_; clear hC a; intro a hC
  refine L.fa hC rfl rfl rfl (fun _ => All.nil) Try.underlying56 rfl Try.sizeOf53 rfl rfl rfl ?_; clear hC a; intro a hC
  refine L.fa hC rfl rfl rfl (fun _ => All.nil) Try.underlying53 rfl Try.sizeOf3 rfl rfl rfl ?_; clear hC a; intro a hC
  refine L.ldr hC rfl rfl rfl (fun _ => All.nil) m0 Try.isAgg3 rfl rfl rfl ?_; clear hC a; intro a hC
  refine L.call hC rfl rfl Try.call120 rfl (fun _ => All.nil) (fun hg => once_ok c.op.what _) rfl rfl ?_; clear hC a; intro a w hF hC
  refine L.pu hC rfl rfl (fun _ => All.nil) rfl rfl ?_; clear hC a; intro a hC
  refine L.pu hC rfl rfl (fun _ => All.nil) rfl rfl ?_; clear hC a; intro a hC
  refine L.pu hC rfl rfl (fun _ => All.nil) rfl rfl ?_; clear hC a; intro a hC
  refine L.pu hC rfl rfl (fun _ => All.nil) rfl rfl ?_; clear hC a; intro a hC
  refine L.pu hC rfl rfl (fun _ => All.nil) rfl rfl ?_; clear hC a; intro a hC
  refine L.nil ?_
  refine hk2 _ _ ?_; clear hk2; try clear k2
  refine W.seqk fun k3 hk3 => ?_
  refine W.seqk fun k4 hk4 => ?_
  refine W.drawD hC Try.mixed rfl rfl ?_
  apply DRN.cons (.det _ _) rfl
  · intro a w hC
    refine L.pu hC rfl rfl (fun _ => All.nil) rfl rfl ?_; clear hC a; intro a hC
    exact L.nil ⟨⟨_, [], hC⟩, Frm.refl _ _⟩
  apply DRN.cons (.det _ _) rfl
  · intro a w hC
    refine L.pu hC rfl rfl (fun _ => All.nil) rfl rfl ?_; clear hC a; intro a hC
    exact L.nil ⟨⟨_, [], hC⟩, Frm.refl _ _⟩
  apply DRN.cons (.det _ _) rfl
  · intro a w hC
    refine L.fa hC rfl rfl rfl (fun _ => All.nil) Try.underlying143 rfl Try.sizeOf56 rfl rfl rfl ?_; clear hC a; intro a hC
    exact L.nil ⟨⟨_, [], hC⟩, Frm.refl _ _⟩
  apply DRN.cons (.det _ _) rfl
  · intro a w hC
    refine L.fa hC rfl rfl rfl (fun _ => All.nil) Try.underlying56 rfl Try.sizeOf3 rfl rfl rfl ?_; clear hC a; intro a hC
    exact L.nil ⟨⟨_, [], hC⟩, Frm.refl _ _⟩
  apply DRN.cons (.det _ _) rfl
  · intro a w hC
    refine L.ldr hC rfl rfl rfl (fun _ => All.nil) m0 Try.isAgg3 rfl rfl rfl ?_; clear hC a; intro a hC
    exact L.nil ⟨⟨_, [], hC⟩, Frm.refl _ _⟩
  apply DRN.cons (.lit _ _ fun v => rdR v intE _) rfl
  · intro a w hC
    exact L.litsP hC rfl rfl rfl (fun _ => All.nil) Try.underlying37 Try.infoI3 rfl rfl rfl rfl rfl rfl rfl rfl (fun a w' v hF hC => L.nil ⟨⟨v, _, [], fun _ h => h.2, hC⟩, hF⟩)
  apply DRN.cons (.det _ _) rfl
  · intro v5 a w hC
    refine L.call hC rfl rfl Try.call79 rfl (fun _ => All.nil) (fun hg => in27_ok _ _ _ _ _ (hC.at m0 hg)) rfl rfl ?_; clear hC a; intro a w hF hC
    exact L.nil ⟨⟨_, [_], hC⟩, hF⟩
  apply DRN.cons (.det _ _) rfl
  · intro a w hC
    refine L.pu hC rfl rfl (fun _ => All.nil) rfl rfl ?_; clear hC a; intro a hC
    exact L.nil ⟨⟨_, [], hC⟩, Frm.refl _ _⟩
  apply DRN.cons (.det _ _) rfl
  · intro a w hC
    refine L.pu hC rfl rfl (fun _ => All.nil) rfl rfl ?_; clear hC a; intro a hC
    exact L.nil ⟨⟨_, [], hC⟩, Frm.refl _ _⟩
  apply DRN.cons (.det _ _) rfl
  · intro a w hC
    refine L.pu hC rfl rfl (fun _ => All.nil) rfl rfl ?_; clear hC a; intro a hC
    exact L.nil ⟨⟨_, [], hC⟩, Frm.refl _ _⟩
  apply DRN.cons (.det _ _) rfl
  · intro a w hC
    refine L.pu hC rfl rfl (fun hg => by first | (simp only [Gt, Bool.and_eq_true] at hg; simp only [All, List.cons_append, List.nil_append, List.append_nil, List.mem_cons, List.not_mem_nil, or_false, forall_eq_or_imp, forall_eq, Bool.and_eq_true, hg, Bool.not_false, Bool.not_true, and_self]; done) | (simp only [Gt] at hg; simp only [All, List.cons_append, List.nil_append, List.append_nil, List.mem_cons, List.not_mem_nil, or_false, forall_eq_or_imp, forall_eq, hg, and_self])) rfl rfl ?_; clear hC a; intro a hC
    exact L.nil ⟨⟨_, [], hC⟩, Frm.refl _ _⟩
  apply DRN.cons (.det _ _) rfl
  · intro a w hC
    refine L.fa hC rfl rfl rfl (fun hg => by first | (simp only [Gt, Bool.and_eq_true] at hg; simp only [All, List.cons_append, List.nil_append, List.append_nil, List.mem_cons, List.not_mem_nil, or_false, forall_eq_or_imp, forall_eq, Bool.and_eq_true, hg, Bool.not_false, Bool.not_true, and_self]; done) | (simp only [Gt] at hg; simp only [All, List.cons_append, List.nil_append, List.append_nil, List.mem_cons, List.not_mem_nil, or_false, forall_eq_or_imp, forall_eq, hg, and_self])) Try.underlying143 rfl Try.sizeOf56 rfl rfl rfl ?_; clear hC a; intro a hC
    exact L.nil ⟨⟨_, [], hC⟩, Frm.refl _ _⟩
  apply DRN.cons (.det _ _) rfl
  · intro a w hC
    refine L.fa hC rfl rfl rfl (fun hg => by first | (simp only [Gt, Bool.and_eq_true] at hg; simp only [All, List.cons_append, List.nil_append, List.append_nil, List.mem_cons, List.not_mem_nil, or_false, forall_eq_or_imp, forall_eq, Bool.and_eq_true, hg, Bool.not_false, Bool.not_true, and_self]; done) | (simp only [Gt] at hg; simp only [All, List.cons_append, List.nil_append, List.append_nil, List.mem_cons, List.not_mem_nil, or_false, forall_eq_or_imp, forall_eq, hg, and_self])) Try.underlying56 rfl Try.sizeOf53 rfl rfl rfl ?_; clear hC a; intro a hC
    exact L.nil ⟨⟨_, [], hC⟩, Frm.refl _ _⟩
  apply DRN.cons (.det _ _) rfl
  · intro a w hC
    refine L.ldar hC rfl rfl rfl (fun hg => by first | (simp only [Gt, Bool.and_eq_true] at hg; simp only [All, List.cons_append, List.nil_append, List.append_nil, List.mem_cons, List.not_mem_nil, or_false, forall_eq_or_imp, forall_eq, Bool.and_eq_true, hg, Bool.not_false, Bool.not_true, and_self]; done) | (simp only [Gt] at hg; simp only [All, List.cons_append, List.nil_append, List.append_nil, List.mem_cons, List.not_mem_nil, or_false, forall_eq_or_imp, forall_eq, hg, and_self])) m0 Try.isAgg53 Try.sizeOf53 rfl rfl rfl rfl ?_; clear hC a; intro a hC
    exact L.nil ⟨⟨_, [], hC⟩, Frm.refl _ _⟩
  apply DRN.cons (.det _ _) rfl
  · intro a w hC
    refine L.call hC rfl rfl Try.call119 rfl (fun hg => by first | (simp only [Gt, Bool.and_eq_true] at hg; simp only [All, List.cons_append, List.nil_append, List.append_nil, List.mem_cons, List.not_mem_nil, or_false, forall_eq_or_imp, forall_eq, Bool.and_eq_true, hg, Bool.not_false, Bool.not_true, and_self]; done) | (simp only [Gt] at hg; simp only [All, List.cons_append, List.nil_append, List.append_nil, List.mem_cons, List.not_mem_nil, or_false, forall_eq_or_imp, forall_eq, hg, and_self])) (fun hg => ledc_ok c.op _) rfl rfl ?_; clear hC a; intro a w hF hC
    exact L.nil ⟨⟨_, [], hC⟩, hF⟩
  apply DRN.cons (.det _ _) rfl
  · intro a w hC
    refine L.pu hC rfl rfl (fun hg => by first | (simp only [Gt, Bool.and_eq_true] at hg; simp only [All, List.cons_append, List.nil_append, List.append_nil, List.mem_cons, List.not_mem_nil, or_false, forall_eq_or_imp, forall_eq, Bool.and_eq_true, hg, Bool.not_false, Bool.not_true, and_self]; done) | (simp only [Gt] at hg; simp only [All, List.cons_append, List.nil_append, List.append_nil, List.mem_cons, List.not_mem_nil, or_false, forall_eq_or_imp, forall_eq, hg, and_self])) rfl rfl ?_; clear hC a; intro a hC
    exact L.nil ⟨⟨_, [], hC⟩, Frm.refl _ _⟩
  apply DRN.cons (.det _ _) rfl
  · intro a w hC
    refine L.or hC rfl rfl rfl rfl (fun _ => All.nil) (fun _ hp => by simp only [All, List.cons_append, List.nil_append, List.append_nil, List.mem_cons, List.not_mem_nil, or_false, forall_eq_or_imp, forall_eq, Bool.and_eq_true, hp, Bool.not_false, Bool.not_true, and_self]) rfl rfl ?_; clear hC a; intro a hC
    exact L.nil ⟨⟨_, [], hC⟩, Frm.refl _ _⟩
  apply DRN.cons (.det _ _) rfl
  · intro a w hC
    refine L.pu hC rfl rfl (fun _ => All.nil) rfl rfl ?_; clear hC a; intro a hC
    exact L.nil ⟨⟨_, [], hC⟩, Frm.refl _ _⟩
  apply DRN.cons (.det _ _) rfl
  · intro a w hC
    refine L.pu hC rfl rfl (fun _ => All.nil) rfl rfl ?_; clear hC a; intro a hC
    exact L.nil ⟨⟨_, [], hC⟩, Frm.refl _ _⟩
  apply DRN.cons (.det _ _) rfl
  · intro a w hC
    refine L.pu hC rfl rfl (fun hg => by first | (simp only [Gt, Bool.and_eq_true] at hg; simp only [All, List.cons_append, List.nil_append, List.append_nil, List.mem_cons, List.not_mem_nil, or_false, forall_eq_or_imp, forall_eq, Bool.and_eq_true, hg, Bool.not_false, Bool.not_true, and_self]; done) | (simp only [Gt] at hg; simp only [All, List.cons_append, List.nil_append, List.append_nil, List.mem_cons, List.not_mem_nil, or_false, forall_eq_or_imp, forall_eq, hg, and_self])) rfl rfl ?_; clear hC a; intro a hC
    exact L.nil ⟨⟨_, [], hC⟩, Frm.refl _ _⟩
  apply DRN.cons (.det _ _) rfl
  · intro a w hC
    refine L.fa hC rfl rfl rfl (fun hg => by first | (simp only [Gt, Bool.and_eq_true] at hg; simp only [All, List.cons_append, List.nil_append, List.append_nil, List.mem_cons, List.not_mem_nil, or_false, forall_eq_or_imp, forall_eq, Bool.and_eq_true, hg, Bool.not_false, Bool.not_true, and_self]; done) | (simp only [Gt] at hg; simp only [All, List.cons_append, List.nil_append, List.append_nil, List.mem_cons, List.not_mem_nil, or_false, forall_eq_or_imp, forall_eq, hg, and_self])) Try.underlying143 rfl Try.sizeOf56 rfl rfl rfl ?_; clear hC a; intro a hC
    exact L.nil ⟨⟨_, [], hC⟩, Frm.refl _ _⟩
  apply DRN.cons (.det _ _) rfl
  · intro a w hC
    refine L.fa hC rfl rfl rfl (fun hg => by first | (simp only [Gt, Bool.and_eq_true] at hg; simp only [All, List.cons_append, List.nil_append, List.append_nil, List.mem_cons, List.not_mem_nil, or_false, forall_eq_or_imp, forall_eq, Bool.and_eq_true, hg, Bool.not_false, Bool.not_true, and_self]; done) | (simp only [Gt] at hg; simp only [All, List.cons_append, List.nil_append, List.append_nil, List.mem_cons, List.not_mem_nil, or_false, forall_eq_or_imp, forall_eq, hg, and_self])) Try.underlying56 rfl Try.sizeOf4 rfl rfl rfl ?_; clear hC a; intro a hC
    exact L.nil ⟨⟨_, [], hC⟩, Frm.refl _ _⟩
  apply DRN.cons (.det _ _) rfl
  · intro a w hC
    refine L.ldr hC rfl rfl rfl (fun hg => by first | (simp only [Gt, Bool.and_eq_true] at hg; simp only [All, List.cons_append, List.nil_append, List.append_nil, List.mem_cons, List.not_mem_nil, or_false, forall_eq_or_imp, forall_eq, Bool.and_eq_true, hg, Bool.not_false, Bool.not_true, and_self]; done) | (simp only [Gt] at hg; simp only [All, List.cons_append, List.nil_append, List.append_nil, List.mem_cons, List.not_mem_nil, or_false, forall_eq_or_imp, forall_eq, hg, and_self])) m0 Try.isAgg4 rfl rfl rfl ?_; clear hC a; intro a hC
    exact L.nil ⟨⟨_, [], hC⟩, Frm.refl _ _⟩
  apply DRN.cons (.det _ _) rfl
  · intro a w hC
    refine L.pu hC rfl rfl (fun _ => All.nil) rfl rfl ?_; clear hC a; intro a hC
    exact L.nil ⟨⟨_, [], hC⟩, Frm.refl _ _⟩
  apply DRN.cons (.det _ _) rfl
  · intro a w hC
    refine L.neb hC rfl rfl rfl rfl (fun hg => by first | (simp only [Gt, Bool.and_eq_true] at hg; simp only [All, List.cons_append, List.nil_append, List.append_nil, List.mem_cons, List.not_mem_nil, or_false, forall_eq_or_imp, forall_eq, Bool.and_eq_true, hg, Bool.not_false, Bool.not_true, and_self]; done) | (simp only [Gt] at hg; simp only [All, List.cons_append, List.nil_append, List.append_nil, List.mem_cons, List.not_mem_nil, or_false, forall_eq_or_imp, forall_eq, hg, and_self])) (fun hg => by first | (simp only [Gt, Bool.and_eq_true] at hg; simp only [All, List.cons_append, List.nil_append, List.append_nil, List.mem_cons, List.not_mem_nil, or_false, forall_eq_or_imp, forall_eq, Bool.and_eq_true, hg, Bool.not_false, Bool.not_true, and_self]; done) | (simp only [Gt] at hg; simp only [All, List.cons_append, List.nil_append, List.append_nil, List.mem_cons, List.not_mem_nil, or_false, forall_eq_or_imp, forall_eq, hg, and_self])) Try.underlying4 rfl rfl ?_; clear hC a; intro a hC
    exact L.nil ⟨⟨_, [], hC⟩, Frm.refl _ _⟩
  apply DRN.cons (.det _ _) rfl
  · intro a w hC
    refine L.or hC rfl rfl rfl rfl (fun _ => All.nil) (fun _ hp => by simp only [All, List.cons_append, List.nil_append, List.append_nil, List.mem_cons, List.not_mem_nil, or_false, forall_eq_or_imp, forall_eq, Bool.and_eq_true, hp, Bool.not_false, Bool.not_true, and_self]) rfl rfl ?_; clear hC a; intro a hC
    exact L.nil ⟨⟨_, [], hC⟩, Frm.refl _ _⟩
  apply DRN.cons (.det _ _) rfl
  · intro a w hC
    refine L.pu hC rfl rfl (fun _ => All.nil) rfl rfl ?_; clear hC a; intro a hC
    exact L.nil ⟨⟨_, [], hC⟩, Frm.refl _ _⟩
  apply DRN.cons (.det _ _) rfl
  · intro a w hC
    refine L.pu hC rfl rfl (fun _ => All.nil) rfl rfl ?_; clear hC a; intro a hC
    exact L.nil ⟨⟨_, [], hC⟩, Frm.refl _ _⟩
  apply DRN.cons (.det _ _) rfl
  · intro a w hC
    refine L.pu hC rfl rfl (fun hg => by first | (simp only [Gt, Bool.and_eq_true] at hg; simp only [All, List.cons_append, List.nil_append, List.append_nil, List.mem_cons, List.not_mem_nil, or_false, forall_eq_or_imp, forall_eq, Bool.and_eq_true, hg, Bool.not_false, Bool.not_true, and_self]; done) | (simp only [Gt] at hg; simp only [All, List.cons_append, List.nil_append, List.append_nil, List.mem_cons, List.not_mem_nil, or_false, forall_eq_or_imp, forall_eq, hg, and_self])) rfl rfl ?_; clear hC a; intro a hC
    exact L.nil ⟨⟨_, [], hC⟩, Frm.refl _ _⟩
  apply DRN.cons (.det _ _) rfl
  · intro a w hC
    refine L.fa hC rfl rfl rfl (fun hg => by first | (simp only [Gt, Bool.and_eq_true] at hg; simp only [All, List.cons_append, List.nil_append, List.append_nil, List.mem_cons, List.not_mem_nil, or_false, forall_eq_or_imp, forall_eq, Bool.and_eq_true, hg, Bool.not_false, Bool.not_true, and_self]; done) | (simp only [Gt] at hg; simp only [All, List.cons_append, List.nil_append, List.append_nil, List.mem_cons, List.not_mem_nil, or_false, forall_eq_or_imp, forall_eq, hg, and_self])) Try.underlying143 rfl Try.sizeOf56 rfl rfl rfl ?_; clear hC a; intro a hC
    exact L.nil ⟨⟨_, [], hC⟩, Frm.refl _ _⟩
  apply DRN.cons (.det _ _) rfl
  · intro a w hC
    refine L.fa hC rfl rfl rfl (fun hg => by first | (simp only [Gt, Bool.and_eq_true] at hg; simp only [All, List.cons_append, List.nil_append, List.append_nil, List.mem_cons, List.not_mem_nil, or_false, forall_eq_or_imp, forall_eq, Bool.and_eq_true, hg, Bool.not_false, Bool.not_true, and_self]; done) | (simp only [Gt] at hg; simp only [All, List.cons_append, List.nil_append, List.append_nil, List.mem_cons, List.not_mem_nil, or_false, forall_eq_or_imp, forall_eq, hg, and_self])) Try.underlying56 rfl Try.sizeOf3 rfl rfl rfl ?_; clear hC a; intro a hC
    exact L.nil ⟨⟨_, [], hC⟩, Frm.refl _ _⟩
  apply DRN.cons (.det _ _) rfl
  · intro a w hC
    refine L.ldr hC rfl rfl rfl (fun hg => by first | (simp only [Gt, Bool.and_eq_true] at hg; simp only [All, List.cons_append, List.nil_append, List.append_nil, List.mem_cons, List.not_mem_nil, or_false, forall_eq_or_imp, forall_eq, Bool.and_eq_true, hg, Bool.not_false, Bool.not_true, and_self]; done) | (simp only [Gt] at hg; simp only [All, List.cons_append, List.nil_append, List.append_nil, List.mem_cons, List.not_mem_nil, or_false, forall_eq_or_imp, forall_eq, hg, and_self])) m0 Try.isAgg3 rfl rfl rfl ?_; clear hC a; intro a hC
    exact L.nil ⟨⟨_, [], hC⟩, Frm.refl _ _⟩
  apply DRN.cons (.det _ _) rfl
  · intro a w hC
    refine L.pu hC rfl rfl (fun _ => All.nil) rfl rfl ?_; clear hC a; intro a hC
    exact L.nil ⟨⟨_, [], hC⟩, Frm.refl _ _⟩
  apply DRN.cons (.det _ _) rfl
  · intro a w hC
    refine L.pu hC rfl rfl (fun hg => by first | (simp only [Gt, Bool.and_eq_true] at hg; simp only [All, List.cons_append, List.nil_append, List.append_nil, List.mem_cons, List.not_mem_nil, or_false, forall_eq_or_imp, forall_eq, Bool.and_eq_true, hg, Bool.not_false, Bool.not_true, and_self]; done) | (simp only [Gt] at hg; simp only [All, List.cons_append, List.nil_append, List.append_nil, List.mem_cons, List.not_mem_nil, or_false, forall_eq_or_imp, forall_eq, hg, and_self])) rfl rfl ?_; clear hC a; intro a hC
    exact L.nil ⟨⟨_, [], hC⟩, Frm.refl _ _⟩
  apply DRN.cons (.det _ _) rfl
  · intro a w hC
    refine L.fa hC rfl rfl rfl (fun hg => by first | (simp only [Gt, Bool.and_eq_true] at hg; simp only [All, List.cons_append, List.nil_append, List.append_nil, List.mem_cons, List.not_mem_nil, or_false, forall_eq_or_imp, forall_eq, Bool.and_eq_true, hg, Bool.not_false, Bool.not_true, and_self]; done) | (simp only [Gt] at hg; simp only [All, List.cons_append, List.nil_append, List.append_nil, List.mem_cons, List.not_mem_nil, or_false, forall_eq_or_imp, forall_eq, hg, and_self])) Try.underlying143 rfl Try.sizeOf56 rfl rfl rfl ?_; clear hC a; intro a hC
    exact L.nil ⟨⟨_, [], hC⟩, Frm.refl _ _⟩
  apply DRN.cons (.det _ _) rfl
  · intro a w hC
    refine L.fa hC rfl rfl rfl (fun hg => by first | (simp only [Gt, Bool.and_eq_true] at hg; simp only [All, List.cons_append, List.nil_append, List.append_nil, List.mem_cons, List.not_mem_nil, or_false, forall_eq_or_imp, forall_eq, Bool.and_eq_true, hg, Bool.not_false, Bool.not_true, and_self]; done) | (simp only [Gt] at hg; simp only [All, List.cons_append, List.nil_append, List.append_nil, List.mem_cons, List.not_mem_nil, or_false, forall_eq_or_imp, forall_eq, hg, and_self])) Try.underlying56 rfl Try.sizeOf3 rfl rfl rfl ?_; clear hC a; intro a hC
    exact L.nil ⟨⟨_, [], hC⟩, Frm.refl _ _⟩
  apply DRN.cons (.det _ _) rfl
  · intro a w hC
    refine L.ldr hC rfl rfl rfl (fun hg => by first | (simp only [Gt, Bool.and_eq_true] at hg; simp only [All, List.cons_append, List.nil_append, List.append_nil, List.mem_cons, List.not_mem_nil, or_false, forall_eq_or_imp, forall_eq, Bool.and_eq_true, hg, Bool.not_false, Bool.not_true, and_self]; done) | (simp only [Gt] at hg; simp only [All, List.cons_append, List.nil_append, List.append_nil, List.mem_cons, List.not_mem_nil, or_false, forall_eq_or_imp, forall_eq, hg, and_self])) m0 Try.isAgg3 rfl rfl rfl ?_; clear hC a; intro a hC
    exact L.nil ⟨⟨_, [], hC⟩, Frm.refl _ _⟩
  apply DRN.cons (.lit _ _ fun v => rdR v intE _) rfl
  · intro a w hC
    exact L.litsP hC rfl rfl rfl (fun hg => by first | (simp only [Gt, Bool.and_eq_true] at hg; simp only [All, List.cons_append, List.nil_append, List.append_nil, List.mem_cons, List.not_mem_nil, or_false, forall_eq_or_imp, forall_eq, Bool.and_eq_true, hg, Bool.not_false, Bool.not_true, and_self]; done) | (simp only [Gt] at hg; simp only [All, List.cons_append, List.nil_append, List.append_nil, List.mem_cons, List.not_mem_nil, or_false, forall_eq_or_imp, forall_eq, hg, and_self])) Try.underlying37 Try.infoI3 rfl rfl rfl rfl rfl rfl rfl rfl (fun a w' v hF hC => L.nil ⟨⟨v, _, [], fun _ h => h.2, hC⟩, hF⟩)
  apply DRN.cons (.det _ _) rfl
  · intro v37 a w hC
    refine L.call hC rfl rfl Try.call79 rfl (fun hg => by first | (simp only [Gt, Bool.and_eq_true] at hg; simp only [All, List.cons_append, List.nil_append, List.append_nil, List.mem_cons, List.not_mem_nil, or_false, forall_eq_or_imp, forall_eq, Bool.and_eq_true, hg, Bool.not_false, Bool.not_true, and_self]; done) | (simp only [Gt] at hg; simp only [All, List.cons_append, List.nil_append, List.append_nil, List.mem_cons, List.not_mem_nil, or_false, forall_eq_or_imp, forall_eq, hg, and_self])) (fun hg => in27_ok _ _ _ _ _ (hC.at m0 hg)) rfl rfl ?_; clear hC a; intro a w hF hC
    exact L.nil ⟨⟨_, [_], hC⟩, hF⟩
  apply DRN.cons (.det _ _) rfl
  · intro a w hC
    refine L.pu hC rfl rfl (fun hg => by first | (simp only [Gt, Bool.and_eq_true] at hg; simp only [All, List.cons_append, List.nil_append, List.append_nil, List.mem_cons, List.not_mem_nil, or_false, forall_eq_or_imp, forall_eq, Bool.and_eq_true, hg, Bool.not_false, Bool.not_true, and_self]; done) | (simp only [Gt] at hg; simp only [All, List.cons_append, List.nil_append, List.append_nil, List.mem_cons, List.not_mem_nil, or_false, forall_eq_or_imp, forall_eq, hg, and_self])) rfl rfl ?_; clear hC a; intro a hC
    exact L.nil ⟨⟨_, [], hC⟩, Frm.refl _ _⟩
  apply DRN.cons (.det _ _) rfl
  · intro a w hC
    refine L.or hC rfl rfl rfl rfl (fun _ => All.nil) (fun _ hp => by simp only [All, List.cons_append, List.nil_append, List.append_nil, List.mem_cons, List.not_mem_nil, or_false, forall_eq_or_imp, forall_eq, Bool.and_eq_true, hp, Bool.not_false, Bool.not_true, and_self]) rfl rfl ?_; clear hC a; intro a hC
    exact L.nil ⟨⟨_, [], hC⟩, Frm.refl _ _⟩
  apply DRN.cons (.det _ _) rfl
  · intro a w hC
    refine L.pu hC rfl rfl (fun _ => All.nil) rfl rfl ?_; clear hC a; intro a hC
    exact L.nil ⟨⟨_, [], hC⟩, Frm.refl _ _⟩
  apply DRN.cons (.det _ _) rfl
  · intro a w hC
    refine L.pu hC rfl rfl (fun _ => All.nil) rfl rfl ?_; clear hC a; intro a hC
    exact L.nil ⟨⟨_, [], hC⟩, Frm.refl _ _⟩
  apply DRN.cons (.det _ _) rfl
  · intro a w hC
    refine L.pu hC rfl rfl (fun hg => by first | (simp only [Gt, Bool.and_eq_true] at hg; simp only [All, List.cons_append, List.nil_append, List.append_nil, List.mem_cons, List.not_mem_nil, or_false, forall_eq_or_imp, forall_eq, Bool.and_eq_true, hg, Bool.not_false, Bool.not_true, and_self]; done) | (simp only [Gt] at hg; simp only [All, List.cons_append, List.nil_append, List.append_nil, List.mem_cons, List.not_mem_nil, or_false, forall_eq_or_imp, forall_eq, hg, and_self])) rfl rfl ?_; clear hC a; intro a hC
    exact L.nil ⟨⟨_, [], hC⟩, Frm.refl _ _⟩
  apply DRN.cons (.det _ _) rfl
  · intro a w hC
    refine L.fa hC rfl rfl rfl (fun hg => by first | (simp only [Gt, Bool.and_eq_true] at hg; simp only [All, List.cons_append, List.nil_append, List.append_nil, List.mem_cons, List.not_mem_nil, or_false, forall_eq_or_imp, forall_eq, Bool.and_eq_true, hg, Bool.not_false, Bool.not_true, and_self]; done) | (simp only [Gt] at hg; simp only [All, List.cons_append, List.nil_append, List.append_nil, List.mem_cons, List.not_mem_nil, or_false, forall_eq_or_imp, forall_eq, hg, and_self])) Try.underlying143 rfl Try.sizeOf56 rfl rfl rfl ?_; clear hC a; intro a hC
    exact L.nil ⟨⟨_, [], hC⟩, Frm.refl _ _⟩
  apply DRN.cons (.det _ _) rfl
  · intro a w hC
    refine L.fa hC rfl rfl rfl (fun hg => by first | (simp only [Gt, Bool.and_eq_true] at hg; simp only [All, List.cons_append, List.nil_append, List.append_nil, List.mem_cons, List.not_mem_nil, or_false, forall_eq_or_imp, forall_eq, Bool.and_eq_true, hg, Bool.not_false, Bool.not_true, and_self]; done) | (simp only [Gt] at hg; simp only [All, List.cons_append, List.nil_append, List.append_nil, List.mem_cons, List.not_mem_nil, or_false, forall_eq_or_imp, forall_eq, hg, and_self])) Try.underlying56 rfl Try.sizeOf3 rfl rfl rfl ?_; clear hC a; intro a hC
    exact L.nil ⟨⟨_, [], hC⟩, Frm.refl _ _⟩
  apply DRN.cons (.det _ _) rfl
  · intro a w hC
    refine L.ldr hC rfl rfl rfl (fun hg => by first | (simp only [Gt, Bool.and_eq_true] at hg; simp only [All, List.cons_append, List.nil_append, List.append_nil, List.mem_cons, List.not_mem_nil, or_false, forall_eq_or_imp, forall_eq, Bool.and_eq_true, hg, Bool.not_false, Bool.not_true, and_self]; done) | (simp only [Gt] at hg; simp only [All, List.cons_append, List.nil_append, List.append_nil, List.mem_cons, List.not_mem_nil, or_false, forall_eq_or_imp, forall_eq, hg, and_self])) m0 Try.isAgg3 rfl rfl rfl ?_; clear hC a; intro a hC
    exact L.nil ⟨⟨_, [], hC⟩, Frm.refl _ _⟩
  apply DRN.cons (.det _ _) rfl
  · intro a w hC
    refine L.pu hC rfl rfl (fun _ => All.nil) rfl rfl ?_; clear hC a; intro a hC
    exact L.nil ⟨⟨_, [], hC⟩, Frm.refl _ _⟩
  apply DRN.cons (.det _ _) rfl
  · intro a w hC
    refine L.pu hC rfl rfl (fun hg => by first | (simp only [Gt, Bool.and_eq_true] at hg; simp only [All, List.cons_append, List.nil_append, List.append_nil, List.mem_cons, List.not_mem_nil, or_false, forall_eq_or_imp, forall_eq, Bool.and_eq_true, hg, Bool.not_false, Bool.not_true, and_self]; done) | (simp only [Gt] at hg; simp only [All, List.cons_append, List.nil_append, List.append_nil, List.mem_cons, List.not_mem_nil, or_false, forall_eq_or_imp, forall_eq, hg, and_self])) rfl rfl ?_; clear hC a; intro a hC
    exact L.nil ⟨⟨_, [], hC⟩, Frm.refl _ _⟩
  apply DRN.cons (.det _ _) rfl
  · intro a w hC
    refine L.fa hC rfl rfl rfl (fun hg => by first | (simp only [Gt, Bool.and_eq_true] at hg; simp only [All, List.cons_append, List.nil_append, List.append_nil, List.mem_cons, List.not_mem_nil, or_false, forall_eq_or_imp, forall_eq, Bool.and_eq_true, hg, Bool.not_false, Bool.not_true, and_self]; done) | (simp only [Gt] at hg; simp only [All, List.cons_append, List.nil_append, List.append_nil, List.mem_cons, List.not_mem_nil, or_false, forall_eq_or_imp, forall_eq, hg, and_self])) Try.underlying143 rfl Try.sizeOf56 rfl rfl rfl ?_; clear hC a; intro a hC
    exact L.nil ⟨⟨_, [], hC⟩, Frm.refl _ _⟩
  apply DRN.cons (.det _ _) rfl
  · intro a w hC
    refine L.fa hC rfl rfl rfl (fun hg => by first | (simp only [Gt, Bool.and_eq_true] at hg; simp only [All, List.cons_append, List.nil_append, List.append_nil, List.mem_cons, List.not_mem_nil, or_false, forall_eq_or_imp, forall_eq, Bool.and_eq_true, hg, Bool.not_false, Bool.not_true, and_self]; done) | (simp only [Gt] at hg; simp only [All, List.cons_append, List.nil_append, List.append_nil, List.mem_cons, List.not_mem_nil, or_false, forall_eq_or_imp, forall_eq, hg, and_self])) Try.underlying56 rfl Try.sizeOf3 rfl rfl rfl ?_; clear hC a; intro a hC
    exact L.nil ⟨⟨_, [], hC⟩, Frm.refl _ _⟩
  apply DRN.cons (.det _ _) rfl
  · intro a w hC
    refine L.ldr hC rfl rfl rfl (fun hg => by first | (simp only [Gt, Bool.and_eq_true] at hg; simp only [All, List.cons_append, List.nil_append, List.append_nil, List.mem_cons, List.not_mem_nil, or_false, forall_eq_or_imp, forall_eq, Bool.and_eq_true, hg, Bool.not_false, Bool.not_true, and_self]; done) | (simp only [Gt] at hg; simp only [All, List.cons_append, List.nil_append, List.append_nil, List.mem_cons, List.not_mem_nil, or_false, forall_eq_or_imp, forall_eq, hg, and_self])) m0 Try.isAgg3 rfl rfl rfl ?_; clear hC a; intro a hC
    exact L.nil ⟨⟨_, [], hC⟩, Frm.refl _ _⟩
  apply DRN.cons (.lit _ _ fun v => rdR v intE _) rfl
  · intro a w hC
    exact L.litsP hC rfl rfl rfl (fun hg => by first | (simp only [Gt, Bool.and_eq_true] at hg; simp only [All, List.cons_append, List.nil_append, List.append_nil, List.mem_cons, List.not_mem_nil, or_false, forall_eq_or_imp, forall_eq, Bool.and_eq_true, hg, Bool.not_false, Bool.not_true, and_self]; done) | (simp only [Gt] at hg; simp only [All, List.cons_append, List.nil_append, List.append_nil, List.mem_cons, List.not_mem_nil, or_false, forall_eq_or_imp, forall_eq, hg, and_self])) Try.underlying37 Try.infoI3 rfl rfl rfl rfl rfl rfl rfl rfl (fun a w' v hF hC => L.nil ⟨⟨v, _, [], fun _ h => h.2, hC⟩, hF⟩)
  apply DRN.cons (.det _ _) rfl
  · intro v52 a w hC
    refine L.call hC rfl rfl Try.call79 rfl (fun hg => by first | (simp only [Gt, Bool.and_eq_true] at hg; simp only [All, List.cons_append, List.nil_append, List.append_nil, List.mem_cons, List.not_mem_nil, or_false, forall_eq_or_imp, forall_eq, Bool.and_eq_true, hg, Bool.not_false, Bool.not_true, and_self]; done) | (simp only [Gt] at hg; simp only [All, List.cons_append, List.nil_append, List.append_nil, List.mem_cons, List.not_mem_nil, or_false, forall_eq_or_imp, forall_eq, hg, and_self])) (fun hg => in27_ok _ _ _ _ _ (hC.at m0 hg)) rfl rfl ?_; clear hC a; intro a w hF hC
    exact L.nil ⟨⟨_, [_], hC⟩, hF⟩
  apply DRN.cons (.det _ _) rfl
  · intro a w hC
    refine L.pu hC rfl rfl (fun hg => by first | (simp only [Gt, Bool.and_eq_true] at hg; simp only [All, List.cons_append, List.nil_append, List.append_nil, List.mem_cons, List.not_mem_nil, or_false, forall_eq_or_imp, forall_eq, Bool.and_eq_true, hg, Bool.not_false, Bool.not_true, and_self]; done) | (simp only [Gt] at hg; simp only [All, List.cons_append, List.nil_append, List.append_nil, List.mem_cons, List.not_mem_nil, or_false, forall_eq_or_imp, forall_eq, hg, and_self])) rfl rfl ?_; clear hC a; intro a hC
    exact L.nil ⟨⟨_, [], hC⟩, Frm.refl _ _⟩
  apply DRN.cons (.det _ _) rfl
  · intro a w hC
    refine L.or hC rfl rfl rfl rfl (fun _ => All.nil) (fun _ hp => by simp only [All, List.cons_append, List.nil_append, List.append_nil, List.mem_cons, List.not_mem_nil, or_false, forall_eq_or_imp, forall_eq, Bool.and_eq_true, hp, Bool.not_false, Bool.not_true, and_self]) rfl rfl ?_; clear hC a; intro a hC
    exact L.nil ⟨⟨_, [], hC⟩, Frm.refl _ _⟩
  apply DRN.cons (.det _ _) rfl
  · intro a w hC
    refine L.pu hC rfl rfl (fun _ => All.nil) rfl rfl ?_; clear hC a; intro a hC
    exact L.nil ⟨⟨_, [], hC⟩, Frm.refl _ _⟩
  apply DRN.cons (.det _ _) rfl
  · intro a w hC
    refine L.pu hC rfl rfl (fun _ => All.nil) rfl rfl ?_; clear hC a; intro a hC
    exact L.nil ⟨⟨_, [], hC⟩, Frm.refl _ _⟩
  apply DRN.cons (.det _ _) rfl
  · intro a w hC
    refine L.pu hC rfl rfl (fun hg => by first | (simp only [Gt, Bool.and_eq_true] at hg; simp only [All, List.cons_append, List.nil_append, List.append_nil, List.mem_cons, List.not_mem_nil, or_false, forall_eq_or_imp, forall_eq, Bool.and_eq_true, hg, Bool.not_false, Bool.not_true, and_self]; done) | (simp only [Gt] at hg; simp only [All, List.cons_append, List.nil_append, List.append_nil, List.mem_cons, List.not_mem_nil, or_false, forall_eq_or_imp, forall_eq, hg, and_self])) rfl rfl ?_; clear hC a; intro a hC
    exact L.nil ⟨⟨_, [], hC⟩, Frm.refl _ _⟩
  apply DRN.cons (.det _ _) rfl
  · intro a w hC
    refine L.fa hC rfl rfl rfl (fun hg => by first | (simp only [Gt, Bool.and_eq_true] at hg; simp only [All, List.cons_append, List.nil_append, List.append_nil, List.mem_cons, List.not_mem_nil, or_false, forall_eq_or_imp, forall_eq, Bool.and_eq_true, hg, Bool.not_false, Bool.not_true, and_self]; done) | (simp only [Gt] at hg; simp only [All, List.cons_append, List.nil_append, List.append_nil, List.mem_cons, List.not_mem_nil, or_false, forall_eq_or_imp, forall_eq, hg, and_self])) Try.underlying143 rfl Try.sizeOf56 rfl rfl rfl ?_; clear hC a; intro a hC
    exact L.nil ⟨⟨_, [], hC⟩, Frm.refl _ _⟩
  apply DRN.cons (.det _ _) rfl
  · intro a w hC
    refine L.fa hC rfl rfl rfl (fun hg => by first | (simp only [Gt, Bool.and_eq_true] at hg; simp only [All, List.cons_append, List.nil_append, List.append_nil, List.mem_cons, List.not_mem_nil, or_false, forall_eq_or_imp, forall_eq, Bool.and_eq_true, hg, Bool.not_false, Bool.not_true, and_self]; done) | (simp only [Gt] at hg; simp only [All, List.cons_append, List.nil_append, List.append_nil, List.mem_cons, List.not_mem_nil, or_false, forall_eq_or_imp, forall_eq, hg, and_self])) Try.underlying56 rfl Try.sizeOf54 rfl rfl rfl ?_; clear hC a; intro a hC
    exact L.nil ⟨⟨_, [], hC⟩, Frm.refl _ _⟩
  apply DRN.cons (.det _ _) rfl
  · intro a w hC
    refine L.ldr hC rfl rfl rfl (fun hg => by first | (simp only [Gt, Bool.and_eq_true] at hg; simp only [All, List.cons_append, List.nil_append, List.append_nil, List.mem_cons, List.not_mem_nil, or_false, forall_eq_or_imp, forall_eq, Bool.and_eq_true, hg, Bool.not_false, Bool.not_true, and_self]; done) | (simp only [Gt] at hg; simp only [All, List.cons_append, List.nil_append, List.append_nil, List.mem_cons, List.not_mem_nil, or_false, forall_eq_or_imp, forall_eq, hg, and_self])) m0 Try.isAgg54 rfl rfl rfl ?_; clear hC a; intro a hC
    exact L.nil ⟨⟨_, [], hC⟩, Frm.refl _ _⟩
  apply DRN.cons (.det _ _) rfl
  · intro a w hC
    refine L.len hC rfl rfl rfl (fun hg => by first | (simp only [Gt, Bool.and_eq_true] at hg; simp only [All, List.cons_append, List.nil_append, List.append_nil, List.mem_cons, List.not_mem_nil, or_false, forall_eq_or_imp, forall_eq, Bool.and_eq_true, hg, Bool.not_false, Bool.not_true, and_self]; done) | (simp only [Gt] at hg; simp only [All, List.cons_append, List.nil_append, List.append_nil, List.mem_cons, List.not_mem_nil, or_false, forall_eq_or_imp, forall_eq, hg, and_self])) (rd_form (hC.at m1)) Try.underlying54 rfl rfl ?_; clear hC a; intro a hC
    exact L.nil ⟨⟨_, [], hC⟩, Frm.refl _ _⟩
  apply DRN.cons (.det _ _) rfl
  · intro a w hC
    refine L.pu hC rfl rfl (fun _ => All.nil) rfl rfl ?_; clear hC a; intro a hC
    exact L.nil ⟨⟨_, [], hC⟩, Frm.refl _ _⟩
  apply DRN.cons (.det _ _) rfl
  · intro a w hC
    refine L.pu hC rfl rfl (fun hg => by first | (simp only [Gt, Bool.and_eq_true] at hg; simp only [All, List.cons_append, List.nil_append, List.append_nil, List.mem_cons, List.not_mem_nil, or_false, forall_eq_or_imp, forall_eq, Bool.and_eq_true, hg, Bool.not_false, Bool.not_true, and_self]; done) | (simp only [Gt] at hg; simp only [All, List.cons_append, List.nil_append, List.append_nil, List.mem_cons, List.not_mem_nil, or_false, forall_eq_or_imp, forall_eq, hg, and_self])) rfl rfl ?_; clear hC a; intro a hC
    exact L.nil ⟨⟨_, [], hC⟩, Frm.refl _ _⟩
  apply DRN.cons (.det _ _) rfl
  · intro a w hC
    refine L.fa hC rfl rfl rfl (fun hg => by first | (simp only [Gt, Bool.and_eq_true] at hg; simp only [All, List.cons_append, List.nil_append, List.append_nil, List.mem_cons, List.not_mem_nil, or_false, forall_eq_or_imp, forall_eq, Bool.and_eq_true, hg, Bool.not_false, Bool.not_true, and_self]; done) | (simp only [Gt] at hg; simp only [All, List.cons_append, List.nil_append, List.append_nil, List.mem_cons, List.not_mem_nil, or_false, forall_eq_or_imp, forall_eq, hg, and_self])) Try.underlying143 rfl Try.sizeOf60 rfl rfl rfl ?_; clear hC a; intro a hC
    exact L.nil ⟨⟨_, [], hC⟩, Frm.refl _ _⟩
  apply DRN.cons (.det _ _) rfl
  · intro a w hC
    refine L.fa hC rfl rfl rfl (fun hg => by first | (simp only [Gt, Bool.and_eq_true] at hg; simp only [All, List.cons_append, List.nil_append, List.append_nil, List.mem_cons, List.not_mem_nil, or_false, forall_eq_or_imp, forall_eq, Bool.and_eq_true, hg, Bool.not_false, Bool.not_true, and_self]; done) | (simp only [Gt] at hg; simp only [All, List.cons_append, List.nil_append, List.append_nil, List.mem_cons, List.not_mem_nil, or_false, forall_eq_or_imp, forall_eq, hg, and_self])) Try.underlying60 rfl Try.sizeOf3 rfl rfl rfl ?_; clear hC a; intro a hC
    exact L.nil ⟨⟨_, [], hC⟩, Frm.refl _ _⟩
  apply DRN.cons (.det _ _) rfl
  · intro a w hC
    refine L.ldr hC rfl rfl rfl (fun hg => by first | (simp only [Gt, Bool.and_eq_true] at hg; simp only [All, List.cons_append, List.nil_append, List.append_nil, List.mem_cons, List.not_mem_nil, or_false, forall_eq_or_imp, forall_eq, Bool.and_eq_true, hg, Bool.not_false, Bool.not_true, and_self]; done) | (simp only [Gt] at hg; simp only [All, List.cons_append, List.nil_append, List.append_nil, List.mem_cons, List.not_mem_nil, or_false, forall_eq_or_imp, forall_eq, hg, and_self])) m0 Try.isAgg3 rfl rfl rfl ?_; clear hC a; intro a hC
    exact L.nil ⟨⟨_, [], hC⟩, Frm.refl _ _⟩
  apply DRN.cons (.det _ _) rfl
  · intro a w hC
    refine L.pu hC rfl rfl (fun hg => by first | (simp only [Gt, Bool.and_eq_true] at hg; simp only [All, List.cons_append, List.nil_append, List.append_nil, List.mem_cons, List.not_mem_nil, or_false, forall_eq_or_imp, forall_eq, Bool.and_eq_true, hg, Bool.not_false, Bool.not_true, and_self]; done) | (simp only [Gt] at hg; simp only [All, List.cons_append, List.nil_append, List.append_nil, List.mem_cons, List.not_mem_nil, or_false, forall_eq_or_imp, forall_eq, hg, and_self])) rfl rfl ?_; clear hC a; intro a hC
    exact L.nil ⟨⟨_, [], hC⟩, Frm.refl _ _⟩
  apply DRN.cons (.det _ _) rfl
  · intro a w hC
    refine L.or hC rfl rfl rfl rfl (fun _ => All.nil) (fun _ hp => by simp only [All, List.cons_append, List.nil_append, List.append_nil, List.mem_cons, List.not_mem_nil, or_false, forall_eq_or_imp, forall_eq, Bool.and_eq_true, hp, Bool.not_false, Bool.not_true, and_self]) rfl rfl ?_; clear hC a; intro a hC
    exact L.nil ⟨⟨_, [], hC⟩, Frm.refl _ _⟩
  refine DRN.nil (fun w' hF => ?_)
  intro v5 v37 v52 a w hC hw
  subst hw
  refine hk4 _ _ ?_; clear hk4; try clear k4
  refine W.cond hC rfl (fun h1 => ?_) (fun h1 => ?_)
  ·
    refine W.seqk fun k5 hk5 => ?_
    refine W.region ?_
    refine L.pu hC rfl rfl (fun _ => All.nil) rfl rfl ?_; clear hC a; intro a hC
    refine L.nil ?_
    refine hk5 _ _ ?_; clear hk5; try clear k5
    refine W.ret ?_
    refine rets hC rfl (.tmp rfl .nil) ?_
    refine ⟨?_, hC.frm⟩
    refine rb ?_
    unfold fineA; rw [if_pos h1]
  ·
    refine W.skip ?_
    refine hk3 _ _ ?_; clear hk3; try clear k3
    refine W.seqk fun k6 hk6 => ?_
    refine W.seqk fun k7 hk7 => ?_
    refine W.region ?_
    refine L.pu hC rfl rfl (fun _ => All.nil) rfl rfl ?_; clear hC a; intro a hC
    refine L.pu hC rfl rfl (fun _ => All.nil) rfl rfl ?_; clear hC a; intro a hC
    refine L.fa hC rfl rfl rfl (fun _ => All.nil) Try.underlying143 rfl Try.sizeOf56 rfl rfl rfl ?_; clear hC a; intro a hC
    refine L.fa hC rfl rfl rfl (fun _ => All.nil) Try.underlying56 rfl Try.sizeOf54 rfl rfl rfl ?_; clear hC a; intro a hC
    refine L.ldr hC rfl rfl rfl (fun _ => All.nil) m3 Try.isAgg54 rfl rfl rfl ?_; clear hC a; intro a hC
    refine L.len hC rfl rfl rfl (fun _ => All.nil) (rd_form (hC.at m4)) Try.underlying54 rfl rfl ?_; clear hC a; intro a hC
    refine L.pu hC rfl rfl (fun _ => All.nil) rfl rfl ?_; clear hC a; intro a hC
    refine L.nil ?_
    refine hk7 _ _ ?_; clear hk7; try clear k7
    refine W.block ?_
    replace hC := hC.subl (.cons _ (.cons _ (.cons _ (.cons_cons _ (.cons_cons _ .slnil)))))
    replace hC := hC.fr1
    replace hC := hC.fr1
    refine W.loop (fun (j : Nat) a w' => (j ≤ l.length) ∧ (∀ i, i < j → oddA c l i l[i]! = false) ∧ Conf 103 Nob w0 [(93, (none, .int .i64 (j : Int))), (92, (none, .int .i64 (l.length : Int))), (91, (none, v)), (0, (none, .pointer (some ⟨mb, 0, none⟩)))] [robR mb (askE c v s) 143, rdR v attE l] a w') (fun (j : Nat) => l.length - j) 0 ?_ ?_
    · exact ⟨Nat.zero_le _, fun i hi => by omega, hC.keep ⟨rfl, rfl, rfl, rfl, trivial⟩⟩
    · rintro j a w ⟨hj, ho, hC⟩
      refine W.seqk fun k8 hk8 => ?_
      refine W.region ?_
      refine L.pu hC rfl rfl (fun _ => All.nil) rfl rfl ?_; clear hC a; intro a hC
      refine L.nil ?_
      refine hk8 _ _ ?_; clear hk8; try clear k8
      refine W.seqk fun k9 hk9 => ?_
      refine W.cond hC rfl (fun h2 => ?_) (fun h2 => ?_)
      ·
        have h2 := of_decide_eq_true h2
        refine W.skip ?_
        refine hk9 _ _ ?_; clear hk9; try clear k9
        refine W.seqk fun k10 hk10 => ?_
        refine W.block ?_
        refine W.seqk fun k11 hk11 => ?_
        refine W.region ?_
        refine L.pu hC rfl rfl (fun _ => All.nil) rfl rfl ?_; clear hC a; intro a hC
        refine L.ixr hC rfl rfl rfl rfl m1 (fun _ => All.nil) (fun _ => All.nil) Try.underlying54 Try.sizeOf65 (fun _ => by omega) rfl rfl ?_; clear hC a; intro a hC
        refine L.ldxa hC rfl rfl rfl rfl (fun _ => All.nil) (fun hg => rd_bang hC m1 (by omega) _) Try.isAgg65 Try.sizeOf65 rfl rfl rfl rfl ?_; clear hC a; intro a hC
        refine L.alloc hC rfl rfl Try.zeroValue65 rfl rfl rfl ?_; clear hC a; intro ab a w hF hC
        refine L.pu hC rfl rfl (fun _ => All.nil) rfl rfl ?_; clear hC a; intro a hC
        refine L.st hC rfl rfl rfl rfl Try.sizeOf65 rfl rfl rfl rfl rfl ?_; clear hC a; intro a w hF hC
        refine L.nil ?_
        refine hk11 _ _ ?_; clear hk11; try clear k11
        refine W.seqk fun k12 hk12 => ?_
        refine W.region ?_
        refine L.pu hC rfl rfl (fun _ => All.nil) rfl rfl ?_; clear hC a; intro a hC
        refine L.pu hC rfl rfl (fun _ => All.nil) rfl rfl ?_; clear hC a; intro a hC
        refine L.lda hC rfl rfl rfl (fun _ => All.nil) m0 Try.isAgg65 Try.sizeOf65 rfl rfl rfl rfl ?_; clear hC a; intro a hC
        refine L.call hC rfl rfl Try.call127 rfl (fun _ => All.nil) (fun hg => odd27_ok mb c v s l j l[j]! (by omega) _ (hC.at m1) (hC.at m2)) rfl rfl ?_; clear hC a; intro a w hF hC
        refine L.nil ?_
        refine hk12 _ _ ?_; clear hk12; try clear k12
        refine W.cond hC rfl (fun h3 => ?_) (fun h3 => ?_)
        ·
          refine W.seqk fun k13 hk13 => ?_
          refine W.region ?_
          refine L.pu hC rfl rfl (fun _ => All.nil) rfl rfl ?_; clear hC a; intro a hC
          refine L.nil ?_
          refine hk13 _ _ ?_; clear hk13; try clear k13
          refine W.ret ?_
          refine rets hC rfl (.tmp rfl .nil) ?_
          refine ⟨?_, hC.frm⟩
          refine rb ?_
          unfold fineA; rw [if_neg (nt h1), badA_here (show j < l.length by omega) h3]; rfl
        ·
          refine W.skip ?_
          refine hk10 _ _ ?_; clear hk10; try clear k10
          refine W.region ?_
          refine L.pu hC rfl rfl (fun _ => All.nil) rfl rfl ?_; clear hC a; intro a hC
          refine L.pu hC rfl rfl (fun _ => All.nil) rfl rfl ?_; clear hC a; intro a hC
          refine L.nil ?_
          replace hC := hC.subl (.cons _ (.cons_cons _ (.cons_cons _ .slnil)))
          replace hC := hC.fr1
          replace hC := hC.fr1
          exact ⟨j + 1, ⟨by omega, fun i hi => (Nat.lt_succ_iff_lt_or_eq.1 hi).elim (ho i) (fun e => by rw [e]; exact h3), hC.keep ⟨geti rfl (w64 (by omega)), rfl, rfl, rfl, trivial⟩⟩, by first | omega | (dsimp only; omega)⟩
      ·
        have h2 := of_decide_eq_false h2
        refine W.exit ?_
        refine Kb.here ?_
        refine hk6 _ _ ?_; clear hk6; try clear k6
        refine W.seqk fun k14 hk14 => ?_
        refine W.region ?_
        refine L.pu hC rfl rfl (fun _ => All.nil) rfl rfl ?_; clear hC a; intro a hC
        refine L.nil ?_
        refine hk14 _ _ ?_; clear hk14; try clear k14
        refine W.ret ?_
        refine rets hC rfl (.tmp rfl .nil) ?_
        refine ⟨?_, hC.frm⟩
        refine rb ?_
        unfold fineA; rw [if_neg (nt h1), badA_none (fun i hi => ho i (by omega))]; rfl

theorem chk27_ok (c : CallH) (v : Value) (s : CSet) (l : List Att) (w0 : World) (hr : (rdR v attE l).ok w0) : Calls Try.prog 38 #[.agg (callE c v).toArray, .agg (csE s).toArray] w0 fun e w' => e = .returned (.int .i64 (chkA c s l)) ∧ Frm Nob w0 w' := by
  obtain ⟨vA, vc, hv, _, _⟩ := id hr
  subst hv
  refine enter (μ := [rdR (.slice vA l.length vc) attE l]) (S := Nob) (vs := [.agg (callE c (.slice vA l.length vc)).toArray, .agg (csE s).toArray]) Try.func38 rfl Try.ntmps38 rfl ⟨by simpa using hr, by simp⟩ (by simp [rdR]) (fun a hC => ?_)
  refine W.seqk fun k1 hk1 => ?_
  refine W.region ?_
  refine L.box hC rfl rfl rfl rfl rfl rfl ?_; clear hC a; intro cb a w hF hC
  refine L.box hC rfl rfl rfl rfl rfl rfl ?_; clear hC a; intro sb a w hF hC
  refine L.pu hC rfl rfl (fun _ => All.nil) rfl rfl ?_; clear hC a; intro a hC
  refine L.nil ?_
  refine hk1 _ _ ?_; clear hk1; try clear k1
  refine W.seqk fun k2 hk2 => ?_
  refine W.seqk fun k3 hk3 => ?_
  refine W.region ?_
  refine L.lda hC rfl rfl rfl (fun _ => All.nil) m0 Try.isAgg60 Try.sizeOf60 rfl rfl rfl rfl ?_; clear hC a; intro a hC
  refine L.call hC rfl rfl Try.call40 rfl (fun _ => All.nil) (fun hg => sets27_ok s _) rfl rfl ?_; clear hC a; intro a w hF hC
  refine L.pu hC rfl rfl (fun _ => All.nil) rfl rfl ?_; clear hC a; intro a hC
  refine L.nil ?_
  refine hk3 _ _ ?_; clear hk3; try clear k3
  refine W.seqk fun k4 hk4 => ?_
  refine W.region ?_
  refine L.pu hC rfl rfl (fun _ => All.nil) rfl rfl ?_; clear hC a; intro a hC
  refine L.pu hC rfl rfl (fun _ => All.nil) rfl rfl ?_; clear hC a; intro a hC
  refine L.nil ?_
  refine hk4 _ _ ?_; clear hk4; try clear k4
  refine W.cond hC rfl (fun h1 => ?_) (fun h1 => ?_)
  ·
    refine W.seqk fun k5 hk5 => ?_
    refine W.region ?_
    refine L.pu hC rfl rfl (fun _ => All.nil) rfl rfl ?_; clear hC a; intro a hC
    refine L.pu hC rfl rfl (fun _ => All.nil) rfl rfl ?_; clear hC a; intro a hC
    refine L.nil ?_
    refine hk5 _ _ ?_; clear hk5; try clear k5
    refine W.ret ?_
    refine rets hC rfl (.tmp rfl .nil) ?_
    exact ⟨(by unfold chkA; rw [if_pos h1]; try rfl), hC.frm⟩
  ·
    refine W.skip ?_
    refine hk2 _ _ ?_; clear hk2; try clear k2
    refine W.seqk fun k6 hk6 => ?_
    refine W.seqk fun k7 hk7 => ?_
    refine W.region ?_
    refine L.lda hC rfl rfl rfl (fun _ => All.nil) m1 Try.isAgg56 Try.sizeOf56 rfl rfl rfl rfl ?_; clear hC a; intro a hC
    refine L.lda hC rfl rfl rfl (fun _ => All.nil) m0 Try.isAgg60 Try.sizeOf60 rfl rfl rfl rfl ?_; clear hC a; intro a hC
    refine L.buildS (ps := [(0, 10), (10, 8)]) hC rfl rfl rfl (fun _ => All.nil) Try.zeroValue143 Try.underlying143 ⟨⟨rfl, Try.sizeOf56⟩, ⟨rfl, Try.sizeOf60⟩, trivial⟩ rfl rfl rfl ?_; clear hC a; intro a hC
    refine L.box hC rfl rfl rfl rfl rfl rfl ?_; clear hC a; intro xb a w hF hC
    replace hC := hC.hd (r' := blkR xb (askE c (.slice vA l.length vc) s) 143) rfl
    refine L.pu hC rfl rfl (fun _ => All.nil) rfl rfl ?_; clear hC a; intro a hC
    refine L.nil ?_
    refine hk7 _ _ ?_; clear hk7; try clear k7
    refine W.seqk fun k8 hk8 => ?_
    refine W.region ?_
    refine L.pu hC rfl rfl (fun _ => All.nil) rfl rfl ?_; clear hC a; intro a hC
    refine L.call hC rfl rfl Try.call82 rfl (fun _ => All.nil) (fun hg => fine27_ok xb c _ s l _ (ro_of (hC.at m0)) (hC.at m3)) rfl rfl ?_; clear hC a; intro a w hF hC
    refine L.pu hC rfl rfl (fun _ => All.nil) rfl rfl ?_; clear hC a; intro a hC
    refine L.nil ?_
    refine hk8 _ _ ?_; clear hk8; try clear k8
    refine W.cond hC rfl (fun h2 => ?_) (fun h2 => ?_)
    ·
      refine W.seqk fun k9 hk9 => ?_
      refine W.region ?_
      refine L.pu hC rfl rfl (fun _ => All.nil) rfl rfl ?_; clear hC a; intro a hC
      refine L.nil ?_
      refine hk9 _ _ ?_; clear hk9; try clear k9
      refine W.ret ?_
      refine rets hC rfl (.tmp rfl .nil) ?_
      exact ⟨(by unfold chkA; rw [if_neg (nt h1), if_pos h2]; try rfl), hC.frm⟩
    ·
      refine W.skip ?_
      refine hk6 _ _ ?_; clear hk6; try clear k6
      refine W.seqk fun k10 hk10 => ?_
      refine W.region ?_
      refine L.pu hC rfl rfl (fun _ => All.nil) rfl rfl ?_; clear hC a; intro a hC
      refine L.nil ?_
      refine hk10 _ _ ?_; clear hk10; try clear k10
      refine W.ret ?_
      refine rets hC rfl (.tmp rfl .nil) ?_
      exact ⟨(by unfold chkA; rw [if_neg (nt h1), if_neg (nt h2)]; try rfl), hC.frm⟩

theorem cloneA_ok (v : Value) (l : List Att) (w0 : World) (hr : (rdR v attE l).ok w0) (hl : l.length ≤ 1000000) : Calls Try.prog 121 #[v] w0 fun e w' => ∃ r : Value, e = .returned r ∧ True ∧ Post Nob [ownR r 65 attE l] w0 w' := by
  obtain ⟨A, c, hv, hm, hA⟩ := id hr
  subst hv
  refine enter (μ := [rdR (.slice A l.length c) attE l]) (S := Nob) (vs := [.slice A l.length c]) Try.func121 rfl Try.ntmps121 rfl ⟨by simpa using hr, by simp⟩ (by simp [rdR]) (fun a hC => ?_)
  refine W.seqk fun k1 hk1 => ?_
  refine W.region ?_
  refine L.pu hC rfl rfl (fun _ => All.nil) rfl rfl ?_; clear hC a; intro a hC
  refine L.nil ?_
  refine hk1 _ _ ?_; clear hk1; try clear k1
  refine W.seqk fun k2 hk2 => ?_
  refine W.seqk fun k3 hk3 => ?_
  refine W.region ?_
  refine L.pu hC rfl rfl (fun _ => All.nil) rfl rfl ?_; clear hC a; intro a hC
  refine L.bin hC rfl rfl rfl rfl (fun _ => All.nil) (fun _ => All.nil) (fun _ => run_nilS Try.underlying54 _) rfl rfl ?_; clear hC a; intro a hC
  refine L.nil ?_
  refine hk3 _ _ ?_; clear hk3; try clear k3
  refine W.cond hC rfl (fun h1 => ?_) (fun h1 => ?_)
  ·
    refine W.seqk fun k4 hk4 => ?_
    refine W.region ?_
    refine L.pu hC rfl rfl (fun _ => All.nil) rfl rfl ?_; clear hC a; intro a hC
    refine L.nil ?_
    refine hk4 _ _ ?_; clear hk4; try clear k4
    refine W.ret ?_
    refine rets hC rfl (.tmp rfl .nil) ?_
    have hl : l = [] := by
      apply Classical.byContradiction
      intro hn
      obtain ⟨q, hq, _⟩ := hA hn
      rw [hq] at h1; cases h1
    subst hl
    replace hC := hC.tail.nilown (ty := 65) (E := attE)
    exact ⟨_, rfl, trivial, hC.toPost (by simp [ownR])⟩
  ·
    refine W.skip ?_
    refine hk2 _ _ ?_; clear hk2; try clear k2
    refine W.seqk fun k5 hk5 => ?_
    refine W.region ?_
    refine L.bs0 (E := attE) hC rfl rfl Try.underlying54 Try.sizeOf65 rfl rfl ?_; clear hC a; intro vs1 a w hF hC
    refine L.pu hC rfl rfl (fun _ => All.nil) rfl rfl ?_; clear hC a; intro a hC
    refine L.appr hC rfl rfl rfl rfl (hC.at m1) Try.underlying54 Try.infoI65 rfl (by simp; omega) (by simp; omega) rfl rfl ?_; clear hC a; intro v2 a w hF hC
    refine L.pu hC rfl rfl (fun _ => All.nil) rfl rfl ?_; clear hC a; intro a hC
    refine L.nil ?_
    refine hk5 _ _ ?_; clear hk5; try clear k5
    refine W.ret ?_
    refine rets hC rfl (.tmp rfl .nil) ?_
    replace hC := hC.subl (.cons_cons _ (.cons _ .slnil))
    exact ⟨_, rfl, trivial, hC.toPost (by simp [ownR])⟩

theorem ask27_ok (c : CallH) (v : Value) (s : CSet) (l : List Att) (w0 : World) (hr : (rdR v attE l).ok w0) : Calls Try.prog 77 #[.agg (callE c v).toArray, .agg (csE s).toArray] w0 fun e w' => ∃ x : Nat × Value, e = .returned (.tuple #[.pointer (some ⟨x.1, 0, none⟩), .int .i64 (chkA c s l)]) ∧ True ∧ Post Nob [blkR x.1 (askE (okD (chkA c s l) c) x.2 (okD (chkA c s l) s)) 143, ownR x.2 65 attE (okD (chkA c s l) l)] w0 w' := by
  obtain ⟨vA, vc, hv, _, _⟩ := id hr
  subst hv
  refine enter (μ := [rdR (.slice vA l.length vc) attE l]) (S := Nob) (vs := [.agg (callE c (.slice vA l.length vc)).toArray, .agg (csE s).toArray]) Try.func77 rfl Try.ntmps77 rfl ⟨by simpa using hr, by simp⟩ (by simp [rdR]) (fun a hC => ?_)
  refine W.seqk fun k1 hk1 => ?_
  refine W.region ?_
  refine L.box hC rfl rfl rfl rfl rfl rfl ?_; clear hC a; intro cb a w hF hC
  refine L.box hC rfl rfl rfl rfl rfl rfl ?_; clear hC a; intro sb a w hF hC
  refine L.pu hC rfl rfl (fun _ => All.nil) rfl rfl ?_; clear hC a; intro a hC
  refine L.pu hC rfl rfl (fun _ => All.nil) rfl rfl ?_; clear hC a; intro a hC
  refine L.nil ?_
  refine hk1 _ _ ?_; clear hk1; try clear k1
  refine W.seqk fun k2 hk2 => ?_
  refine W.seqk fun k3 hk3 => ?_
  refine W.region ?_
  refine L.lda hC rfl rfl rfl (fun _ => All.nil) m1 Try.isAgg56 Try.sizeOf56 rfl rfl rfl rfl ?_; clear hC a; intro a hC
  refine L.lda hC rfl rfl rfl (fun _ => All.nil) m0 Try.isAgg60 Try.sizeOf60 rfl rfl rfl rfl ?_; clear hC a; intro a hC
  refine L.call hC rfl rfl Try.call38 rfl (fun _ => All.nil) (fun hg => chk27_ok c _ s l _ (hC.at m2)) rfl rfl ?_; clear hC a; intro a w hF hC
  refine L.pu hC rfl rfl (fun _ => All.nil) rfl rfl ?_; clear hC a; intro a hC
  refine L.nil ?_
  refine hk3 _ _ ?_; clear hk3; try clear k3
  refine W.seqk fun k4 hk4 => ?_
  refine W.region ?_
  refine L.pu hC rfl rfl (fun _ => All.nil) rfl rfl ?_; clear hC a; intro a hC
  refine L.pu hC rfl rfl (fun _ => All.nil) rfl rfl ?_; clear hC a; intro a hC
  refine L.nil ?_
  refine hk4 _ _ ?_; clear hk4; try clear k4
  refine W.cond hC rfl (fun h1 => ?_) (fun h1 => ?_)
  ·
    refine W.seqk fun k5 hk5 => ?_
    refine W.region ?_
    refine L.buildS (ps := [(0, 10), (10, 8)]) hC rfl rfl rfl (fun _ => All.nil) Try.zeroValue143 Try.underlying143 ⟨⟨rfl, Try.sizeOf56⟩, ⟨rfl, Try.sizeOf60⟩, trivial⟩ rfl rfl rfl ?_; clear hC a; intro a hC
    refine L.box hC rfl rfl rfl rfl rfl rfl ?_; clear hC a; intro xb a w hF hC
    refine L.pu hC rfl rfl (fun _ => All.nil) rfl rfl ?_; clear hC a; intro a hC
    refine L.pu hC rfl rfl (fun _ => All.nil) rfl rfl ?_; clear hC a; intro a hC
    refine L.pu hC rfl rfl (fun _ => All.nil) rfl rfl ?_; clear hC a; intro a hC
    refine L.nil ?_
    refine hk5 _ _ ?_; clear hk5; try clear k5
    refine W.ret ?_
    refine retl hC rfl (.tmp rfl (.tmp rfl .nil)) rfl ?_
    replace hC := hC.subl (.cons_cons _ (.cons _ (.cons _ (.cons _ .slnil))))
    replace hC := hC.nilown (ty := 65) (E := attE)
    replace hC := hC.fr1
    replace hC := hC.hd (r' := blkR xb (askE (okD (chkA c s l) c) (.slice none 0 0) (okD (chkA c s l) s)) 143) (by rw [okD_no h1, okD_no h1]; rfl)
    replace hC := (hC.fr1.hd (r' := ownR (.slice none 0 0) 65 attE (okD (chkA c s l) l)) (by rw [okD_no h1]; rfl)).fr1
    exact ⟨(xb, _), rfl, trivial, hC.toPost (by simp [ownR, blkR])⟩
  ·
    refine W.skip ?_
    refine hk2 _ _ ?_; clear hk2; try clear k2
    refine W.seqk fun k6 hk6 => ?_
    refine W.region ?_
    refine L.fa hC rfl rfl rfl (fun _ => All.nil) Try.underlying56 rfl Try.sizeOf54 rfl rfl rfl ?_; clear hC a; intro a hC
    refine L.ld hC rfl rfl rfl (fun _ => All.nil) m1 Try.isAgg54 rfl rfl rfl ?_; clear hC a; intro a hC
    refine L.callg [] hC rfl rfl Try.call121 rfl (cloneA_ok _ l _ (hC.at m2) (by have := chkA_len (by simpa using h1); omega)) (fun b h => h.elim) rfl rfl ?_; clear hC a; intro ov a w hQ hC
    refine L.fa hC rfl rfl rfl (fun _ => All.nil) Try.underlying56 rfl Try.sizeOf54 rfl rfl rfl ?_; clear hC a; intro a hC
    replace hC := hC.fr2
    refine L.st hC rfl rfl rfl rfl Try.sizeOf54 (cells_sl (own_form (hC.at m1))) rfl (one_sl (own_form (hC.at m1))) rfl rfl ?_; clear hC a; intro a w hF hC
    refine L.nil ?_
    refine hk6 _ _ ?_; clear hk6; try clear k6
    refine W.seqk fun k7 hk7 => ?_
    refine W.region ?_
    refine L.lda hC rfl rfl rfl (fun _ => All.nil) m0 Try.isAgg56 Try.sizeOf56 rfl rfl rfl rfl ?_; clear hC a; intro a hC
    refine L.lda hC rfl rfl rfl (fun _ => All.nil) m2 Try.isAgg60 Try.sizeOf60 rfl rfl rfl rfl ?_; clear hC a; intro a hC
    refine L.buildS (ps := [(0, 10), (10, 8)]) hC rfl rfl rfl (fun _ => All.nil) Try.zeroValue143 Try.underlying143 ⟨⟨rfl, Try.sizeOf56⟩, ⟨rfl, Try.sizeOf60⟩, trivial⟩ rfl rfl rfl ?_; clear hC a; intro a hC
    refine L.box hC rfl rfl rfl rfl rfl rfl ?_; clear hC a; intro xb a w hF hC
    refine L.pu hC rfl rfl (fun _ => All.nil) rfl rfl ?_; clear hC a; intro a hC
    refine L.pu hC rfl rfl (fun _ => All.nil) rfl rfl ?_; clear hC a; intro a hC
    refine L.nil ?_
    refine hk7 _ _ ?_; clear hk7; try clear k7
    refine W.ret ?_
    refine retl hC rfl (.tmp rfl (.tmp rfl .nil)) rfl ?_
    replace hC := hC.subl (.cons_cons _ (.cons _ (.cons_cons _ (.cons _ (.cons _ .slnil)))))
    replace hC := hC.fr1
    replace hC := hC.fr1
    have h0 : chkA c s l = 0 := by simpa using h1
    replace hC := hC.hd (r' := blkR xb (askE (okD (chkA c s l) c) ov (okD (chkA c s l) s)) 143) (by rw [okD_yes h1, okD_yes h1]; rfl)
    replace hC := (hC.fr1.hd (r' := ownR ov 65 attE (okD (chkA c s l) l)) (by rw [okD_yes h1])).fr1
    exact ⟨(xb, ov), by rw [h0], trivial, hC.toPost (by simp [ownR, blkR])⟩

end Go.Proofs.E
