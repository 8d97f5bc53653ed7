/- Part of the proof: what the functions of this program compute. -/
import Derived.Test.YtgekiiildobfkaaT3
set_option linter.unusedVariables false
set_option linter.unusedSimpArgs false
namespace Go.Proofs.E
open Go.RowKit
def timE : Enc (Int × Int) where
  sz := 2
  enc x := [.int .i64 x.1, .int .i64 x.2]
  len _ := rfl
  one := by intro x u hu; simp at hu; rcases hu with rfl | rfl <;> rfl
  pos := by decide
def ordI (x y : Int × Int) : Int := orI [cmpI x.1 y.1, cmpI x.2 y.2]
def oddT (x : Int × Int) : Bool := decide (imin x.1 x.2 < 0) || decide (imax x.1 x.2 > 1073741824)
/-- where the first one is that p holds of -/
def fidx {α : Type _} (p : α → Bool) (l : List α) : Int := match l.findIdx? p with | some i => i | none => -1
theorem bang_mem {α : Type _} [Inhabited α] {l : List α} {j : Nat} (h : j < l.length) : l[j]! ∈ l := by rw [bang h]; exact List.getElem_mem h
theorem fidx_step {α : Type _} [Inhabited α] {p : α → Bool} {l : List α} {j : Nat} (h : ∀ x ∈ l.take j, p x = false) (hj : j < l.length) (hp : p l[j]! = false) : ∀ x ∈ l.take (j + 1), p x = false := by
  intro x hx
  rw [List.take_add_one, List.getElem?_eq_getElem hj] at hx
  rcases List.mem_append.1 hx with hx | hx
  · exact h x hx
  · simp at hx; subst hx; rwa [bang hj] at hp
theorem fidx_here {α : Type _} [Inhabited α] {p : α → Bool} {l : List α} {j : Nat} (h : ∀ x ∈ l.take j, p x = false) (hj : j < l.length) (hp : p l[j]! = true) : fidx p l = j := by
  have : l.findIdx? p = some j := by
    rw [List.findIdx?_eq_some_iff_getElem]
    refine ⟨hj, by rwa [bang hj] at hp, fun i hi => ?_⟩
    have := h l[i] (by rw [List.mem_take_iff_getElem]; exact ⟨i, by omega, rfl⟩)
    simp [this]
  simp [fidx, this]
theorem fidx_none {α : Type _} {p : α → Bool} {l : List α} (h : ∀ x ∈ l, p x = false) : fidx p l = -1 := by
  have : l.findIdx? p = none := by rw [List.findIdx?_eq_none_iff]; exact h
  simp [fidx, this]
theorem fidx_ge {α : Type _} {p : α → Bool} {l : List α} : decide (fidx p l ≥ 0) = l.any p := by
  unfold fidx
  cases h : l.findIdx? p with
  | none =>
    rw [List.findIdx?_eq_none_iff] at h
    have : l.any p = false := by rw [List.any_eq_false]; intro x hx; simp [h x hx]
    rw [this]; rfl
  | some i =>
    rw [List.findIdx?_eq_some_iff_getElem] at h
    obtain ⟨hi, hp, _⟩ := h
    have : l.any p = true := List.any_eq_true.2 ⟨_, List.getElem_mem hi, hp⟩
    rw [this]; simp
theorem order_ok (x y : Int × Int) (w : World) : Calls Try.prog 118 #[.agg (timE.enc x).toArray, .agg (timE.enc y).toArray] w fun e w' => e = .returned (.int .i64 (ordI x y)) ∧ Frm Nob w w' := by
  refine enter (μ := []) (S := Nob) (vs := [.agg (timE.enc x).toArray, .agg (timE.enc y).toArray]) Try.func118 rfl Try.ntmps118 rfl (Mem.nil _) (by simp) (fun a hC => ?_)
  refine W.seqk fun k1 hk1 => ?_
  refine W.region ?_
  refine L.box hC rfl rfl rfl rfl rfl rfl ?_; clear hC a; intro b1 a w hF hC
  refine L.box hC rfl rfl rfl rfl rfl rfl ?_; clear hC a; intro b2 a w hF hC
  refine L.pu hC rfl rfl (fun _ => All.nil) rfl rfl ?_; clear hC a; intro a hC
  refine L.nil ?_
  refine hk1 _ _ ?_; clear hk1; try clear k1
  refine W.seqk fun k2 hk2 => ?_
  replace hC := hC.del 4
  refine W.drawD hC Try.mixed rfl rfl ?_
  apply DRN.cons (.det _ _) rfl
  · intro a w hC
    refine L.fa hC rfl rfl rfl (fun _ => All.nil) Try.underlying25 rfl Try.sizeOf3 rfl rfl rfl ?_; clear hC a; intro a hC
    exact L.nil ⟨⟨_, [], hC⟩, Frm.refl _ _⟩
  apply DRN.cons (.det _ _) rfl
  · intro a w hC
    refine L.ld hC rfl rfl rfl (fun _ => All.nil) m1 Try.isAgg3 rfl rfl rfl ?_; clear hC a; intro a hC
    exact L.nil ⟨⟨_, [], hC⟩, Frm.refl _ _⟩
  apply DRN.cons (.det _ _) rfl
  · intro a w hC
    refine L.fa hC rfl rfl rfl (fun _ => All.nil) Try.underlying25 rfl Try.sizeOf3 rfl rfl rfl ?_; clear hC a; intro a hC
    exact L.nil ⟨⟨_, [], hC⟩, Frm.refl _ _⟩
  apply DRN.cons (.det _ _) rfl
  · intro a w hC
    refine L.ld hC rfl rfl rfl (fun _ => All.nil) m0 Try.isAgg3 rfl rfl rfl ?_; clear hC a; intro a hC
    exact L.nil ⟨⟨_, [], hC⟩, Frm.refl _ _⟩
  apply DRN.cons (.det _ _) rfl
  · intro a w hC
    refine L.call hC rfl rfl Try.call145 rfl (fun _ => All.nil) (fun hg => compare_ok _ _ _) rfl rfl ?_; clear hC a; intro a w hF hC
    exact L.nil ⟨⟨_, [], hC⟩, hF⟩
  apply DRN.cons (.det _ _) rfl
  · intro a w hC
    refine L.fa hC rfl rfl rfl (fun _ => All.nil) Try.underlying25 rfl Try.sizeOf3 rfl rfl rfl ?_; clear hC a; intro a hC
    exact L.nil ⟨⟨_, [], hC⟩, Frm.refl _ _⟩
  apply DRN.cons (.det _ _) rfl
  · intro a w hC
    refine L.ld hC rfl rfl rfl (fun _ => All.nil) m1 Try.isAgg3 rfl rfl rfl ?_; clear hC a; intro a hC
    exact L.nil ⟨⟨_, [], hC⟩, Frm.refl _ _⟩
  apply DRN.cons (.det _ _) rfl
  · intro a w hC
    refine L.fa hC rfl rfl rfl (fun _ => All.nil) Try.underlying25 rfl Try.sizeOf3 rfl rfl rfl ?_; clear hC a; intro a hC
    exact L.nil ⟨⟨_, [], hC⟩, Frm.refl _ _⟩
  apply DRN.cons (.det _ _) rfl
  · intro a w hC
    refine L.ld hC rfl rfl rfl (fun _ => All.nil) m0 Try.isAgg3 rfl rfl rfl ?_; clear hC a; intro a hC
    exact L.nil ⟨⟨_, [], hC⟩, Frm.refl _ _⟩
  apply DRN.cons (.det _ _) rfl
  · intro a w hC
    refine L.call hC rfl rfl Try.call145 rfl (fun _ => All.nil) (fun hg => compare_ok _ _ _) rfl rfl ?_; clear hC a; intro a w hF hC
    exact L.nil ⟨⟨_, [], hC⟩, hF⟩
  apply DRN.cons (.lit _ _ fun v => rdR v intE _) rfl
  · intro a w hC
    exact L.litsP hC rfl rfl rfl (fun _ => All.nil) Try.underlying37 Try.infoI3 rfl rfl rfl rfl rfl rfl rfl rfl (fun a w' v hF hC => L.nil ⟨⟨v, _, [], fun _ h => h.2, hC⟩, hF⟩)
  apply DRN.cons (.det _ _) rfl
  · intro v10 a w hC
    refine L.call hC rfl rfl Try.call143 rfl (fun _ => All.nil) (fun hg => or_ok _ _ _ (hC.at m0 hg)) rfl rfl ?_; clear hC a; intro a w hF hC
    exact L.nil ⟨⟨_, [_], hC⟩, hF⟩
  apply DRN.cons (.det _ _) rfl
  · intro v10 a w hC
    refine L.pu hC rfl rfl (fun _ => All.nil) rfl rfl ?_; clear hC a; intro a hC
    exact L.nil ⟨⟨_, [_], hC⟩, Frm.refl _ _⟩
  refine DRN.nil (fun w' hF => ?_)
  intro v10 a w hC hw
  subst hw
  refine hk2 _ _ ?_; clear hk2; try clear k2
  refine W.ret ?_
  refine rets hC rfl (.tmp rfl .nil) ?_
  refine ⟨?_, hC.frm⟩
  rfl

theorem odd_ok (x : Int × Int) (w : World) : Calls Try.prog 68 #[.agg (timE.enc x).toArray] w fun e w' => e = .returned (.bool (oddT x)) ∧ Frm Nob w w' := by
  refine enter (μ := []) (S := Nob) (vs := [.agg (timE.enc x).toArray]) Try.func68 rfl Try.ntmps68 rfl (Mem.nil _) (by simp) (fun a hC => ?_)
  refine W.seqk fun k1 hk1 => ?_
  refine W.region ?_
  refine L.box hC rfl rfl rfl rfl rfl rfl ?_; clear hC a; intro b1 a w hF hC
  refine L.pu hC rfl rfl (fun _ => All.nil) rfl rfl ?_; clear hC a; intro a hC
  refine L.nil ?_
  refine hk1 _ _ ?_; clear hk1; try clear k1
  refine W.seqk fun k2 hk2 => ?_
  refine W.region ?_
  refine L.fa hC rfl rfl rfl (fun _ => All.nil) Try.underlying25 rfl Try.sizeOf3 rfl rfl rfl ?_; clear hC a; intro a hC
  refine L.ld hC rfl rfl rfl (fun _ => All.nil) m0 Try.isAgg3 rfl rfl rfl ?_; clear hC a; intro a hC
  refine L.fa hC rfl rfl rfl (fun _ => All.nil) Try.underlying25 rfl Try.sizeOf3 rfl rfl rfl ?_; clear hC a; intro a hC
  refine L.ld hC rfl rfl rfl (fun _ => All.nil) m0 Try.isAgg3 rfl rfl rfl ?_; clear hC a; intro a hC
  refine L.min2 hC rfl rfl rfl rfl (fun _ => All.nil) (fun _ => All.nil) rfl rfl ?_; clear hC a; intro a hC
  refine L.pu hC rfl rfl (fun _ => All.nil) rfl rfl ?_; clear hC a; intro a hC
  refine L.pu hC rfl rfl (fun _ => All.nil) rfl rfl ?_; clear hC a; intro a hC
  refine L.fa hC rfl rfl rfl (fun _ => All.nil) Try.underlying25 rfl Try.sizeOf3 rfl rfl rfl ?_; clear hC a; intro a hC
  refine L.ld hC rfl rfl rfl (fun hg => by simp only [Gt, Bool.and_eq_true] at hg; simp only [All, List.cons_append, List.nil_append, List.append_nil, List.mem_cons, List.not_mem_nil, or_false, forall_eq_or_imp, forall_eq, Bool.and_eq_true, hg, Bool.not_false, Bool.not_true, and_self]) m0 Try.isAgg3 rfl rfl rfl ?_; clear hC a; intro a hC
  refine L.fa hC rfl rfl rfl (fun _ => All.nil) Try.underlying25 rfl Try.sizeOf3 rfl rfl rfl ?_; clear hC a; intro a hC
  refine L.ld hC rfl rfl rfl (fun hg => by simp only [Gt, Bool.and_eq_true] at hg; simp only [All, List.cons_append, List.nil_append, List.append_nil, List.mem_cons, List.not_mem_nil, or_false, forall_eq_or_imp, forall_eq, Bool.and_eq_true, hg, Bool.not_false, Bool.not_true, and_self]) m0 Try.isAgg3 rfl rfl rfl ?_; clear hC a; intro a hC
  refine L.max2 hC rfl rfl rfl rfl (fun hg => by simp only [Gt, Bool.and_eq_true] at hg; simp only [All, List.cons_append, List.nil_append, List.append_nil, List.mem_cons, List.not_mem_nil, or_false, forall_eq_or_imp, forall_eq, Bool.and_eq_true, hg, Bool.not_false, Bool.not_true, and_self]) (fun hg => by simp only [Gt, Bool.and_eq_true] at hg; simp only [All, List.cons_append, List.nil_append, List.append_nil, List.mem_cons, List.not_mem_nil, or_false, forall_eq_or_imp, forall_eq, Bool.and_eq_true, hg, Bool.not_false, Bool.not_true, and_self]) rfl rfl ?_; clear hC a; intro a hC
  refine L.pu hC rfl rfl (fun hg => by simp only [Gt, Bool.and_eq_true] at hg; simp only [All, List.cons_append, List.nil_append, List.append_nil, List.mem_cons, List.not_mem_nil, or_false, forall_eq_or_imp, forall_eq, Bool.and_eq_true, hg, Bool.not_false, Bool.not_true, and_self]) rfl rfl ?_; clear hC a; intro a hC
  refine L.or hC rfl rfl rfl rfl (fun _ => All.nil) (fun _ hp => by simp only [All, List.cons_append, List.nil_append, List.append_nil, List.mem_cons, List.not_mem_nil, or_false, forall_eq_or_imp, forall_eq, Bool.and_eq_true, hp, Bool.not_false, Bool.not_true, and_self]) rfl rfl ?_; clear hC a; intro a hC
  refine L.pu hC rfl rfl (fun _ => All.nil) rfl rfl ?_; clear hC a; intro a hC
  refine L.nil ?_
  refine hk2 _ _ ?_; clear hk2; try clear k2
  refine W.ret ?_
  refine rets hC rfl (.tmp rfl .nil) ?_
  refine ⟨?_, hC.frm⟩
  rfl

theorem idxT_ok (v : Value) (l : List (Int × Int)) (g : FuncId) (lb : Array Value) (p : (Int × Int) → Bool) (w : World) (hr : (rdR v timE l).ok w) (hcall : ∀ (vs : Array Value) (w : World), (callFunc g vs).run Try.prog w = .ok (.enter g vs) w)
    (hp : ∀ x ∈ l, ∀ w', Frm Nob w w' → Calls Try.prog g (#[.agg (timE.enc x).toArray] ++ lb) w' fun e w'' => e = .returned (.bool (p x)) ∧ Frm Nob w' w'') : Calls Try.prog 117 #[v, .func (.func g) #[] lb] w fun e w' => e = .returned (.int .i64 (fidx p l)) ∧ Frm Nob w w' := by
  refine enter (μ := [rdR v timE l]) (S := Nob) (vs := [v, .func (.func g) #[] lb]) Try.func117 rfl Try.ntmps117 rfl ⟨by simpa using hr, by simp⟩ (by simp [rdR]) (fun a hC => ?_)
  refine W.seqk fun k1 hk1 => ?_
  refine W.region ?_
  refine L.pu hC rfl rfl (fun _ => All.nil) rfl rfl ?_; clear hC a; intro a hC
  refine L.nil ?_
  refine hk1 _ _ ?_; clear hk1; try clear k1
  refine W.seqk fun k2 hk2 => ?_
  refine W.seqk fun k3 hk3 => ?_
  refine W.region ?_
  refine L.pu hC rfl rfl (fun _ => All.nil) rfl rfl ?_; clear hC a; intro a hC
  refine L.len hC rfl rfl rfl (fun _ => All.nil) (rd_form (hC.at m0)) Try.underlying22 rfl rfl ?_; clear hC a; intro a hC
  refine L.pu hC rfl rfl (fun _ => All.nil) rfl rfl ?_; clear hC a; intro a hC
  refine L.nil ?_
  refine hk3 _ _ ?_; clear hk3; try clear k3
  refine W.block ?_
  refine W.loop (fun (j : Nat) a w' => j ≤ l.length ∧ (∀ x ∈ l.take j, p x = false) ∧ Conf 19 Nob w [(8, (none, .int .i64 j)), (7, (none, .int .i64 l.length)), (6, (none, v)), (1, (none, .func (.func g) #[] lb)), (0, (none, v))] [rdR v timE l] a w') (fun j => l.length - j) 0 ?_ ?_
  · exact ⟨Nat.zero_le _, by simp, hC.keep ⟨rfl, rfl, rfl, rfl, rfl, trivial⟩⟩
  ·
    rintro j a w ⟨hj, ho, hC⟩
    refine W.seqk fun k4 hk4 => ?_
    refine W.region ?_
    refine L.pu hC rfl rfl (fun _ => All.nil) rfl rfl ?_; clear hC a; intro a hC
    refine L.nil ?_
    refine hk4 _ _ ?_; clear hk4; try clear k4
    refine W.seqk fun k5 hk5 => ?_
    refine W.cond hC rfl (fun h1 => ?_) (fun h1 => ?_)
    ·
      have h1 := of_decide_eq_true h1
      refine W.skip ?_
      refine hk5 _ _ ?_; clear hk5; try clear k5
      refine W.seqk fun k6 hk6 => ?_
      refine W.block ?_
      refine W.seqk fun k7 hk7 => ?_
      refine W.region ?_
      refine L.pu hC rfl rfl (fun _ => All.nil) rfl rfl ?_; clear hC a; intro a hC
      refine L.pu hC rfl rfl (fun _ => All.nil) rfl rfl ?_; clear hC a; intro a hC
      refine L.nil ?_
      refine hk7 _ _ ?_; clear hk7; try clear k7
      refine W.seqk fun k8 hk8 => ?_
      refine W.region ?_
      refine L.pu hC rfl rfl (fun _ => All.nil) rfl rfl ?_; clear hC a; intro a hC
      refine L.pu hC rfl rfl (fun _ => All.nil) rfl rfl ?_; clear hC a; intro a hC
      refine L.pu hC rfl rfl (fun _ => All.nil) rfl rfl ?_; clear hC a; intro a hC
      refine L.ixr hC rfl rfl rfl rfl m0 (fun _ => All.nil) (fun _ => All.nil) Try.underlying22 Try.sizeOf25 (fun _ => by omega) rfl rfl ?_; clear hC a; intro a hC
      refine L.ldxa hC rfl rfl rfl rfl (fun _ => All.nil) (fun hg => rd_bang hC m0 (by omega) _) Try.isAgg25 Try.sizeOf25 rfl rfl rfl rfl ?_; clear hC a; intro a hC
      refine L.callf hC rfl rfl rfl (fun _ => All.nil) hcall rfl (fun _ => All.nil) (fun hg => hp _ (bang_mem (by omega)) _ (hC.frm)) rfl rfl ?_; clear hC a; intro a w hF hC
      refine L.nil ?_
      refine hk8 _ _ ?_; clear hk8; try clear k8
      refine W.cond hC rfl (fun h2 => ?_) (fun h2 => ?_)
      ·
        refine W.seqk fun k9 hk9 => ?_
        refine W.region ?_
        refine L.pu hC rfl rfl (fun _ => All.nil) rfl rfl ?_; clear hC a; intro a hC
        refine L.pu hC rfl rfl (fun _ => All.nil) rfl rfl ?_; clear hC a; intro a hC
        refine L.nil ?_
        refine hk9 _ _ ?_; clear hk9; try clear k9
        refine W.ret ?_
        refine rets hC rfl (.tmp rfl .nil) ?_
        refine ⟨?_, hC.frm⟩
        refine ri ?_
        exact (fidx_here ho (by omega) h2).symm
      ·
        refine W.skip ?_
        refine hk6 _ _ ?_; clear hk6; try clear k6
        refine W.region ?_
        refine L.pu hC rfl rfl (fun _ => All.nil) rfl rfl ?_; clear hC a; intro a hC
        refine L.pu hC rfl rfl (fun _ => All.nil) rfl rfl ?_; clear hC a; intro a hC
        refine L.nil ?_
        have hl := rd_lt (hC.at m0)
        refine ⟨j + 1, ⟨by omega, fidx_step ho (by omega) h2, hC.keep ⟨?_, rfl, rfl, rfl, rfl, trivial⟩⟩, by omega⟩
        rw [w64 (by omega)]; rfl
    ·
      have h1 := of_decide_eq_false h1
      refine W.exit ?_
      refine Kb.here ?_
      refine hk2 _ _ ?_; clear hk2; try clear k2
      refine W.seqk fun k10 hk10 => ?_
      refine W.region ?_
      refine L.pu hC rfl rfl (fun _ => All.nil) rfl rfl ?_; clear hC a; intro a hC
      refine L.nil ?_
      refine hk10 _ _ ?_; clear hk10; try clear k10
      refine W.ret ?_
      refine rets hC rfl (.tmp rfl .nil) ?_
      refine ⟨?_, hC.frm⟩
      refine ri ?_
      exact (fidx_none (by rwa [List.take_of_length_le (by omega)] at ho)).symm

theorem hasT_ok (v : Value) (l : List (Int × Int)) (g : FuncId) (lb : Array Value) (p : (Int × Int) → Bool) (w : World) (hr : (rdR v timE l).ok w) (hcall : ∀ (vs : Array Value) (w : World), (callFunc g vs).run Try.prog w = .ok (.enter g vs) w)
    (hp : ∀ x ∈ l, ∀ w', Frm Nob w w' → Calls Try.prog g (#[.agg (timE.enc x).toArray] ++ lb) w' fun e w'' => e = .returned (.bool (p x)) ∧ Frm Nob w' w'') : Calls Try.prog 74 #[v, .func (.func g) #[] lb] w fun e w' => e = .returned (.bool (l.any p)) ∧ Frm Nob w w' := by
  refine enter (μ := []) (S := Nob) (vs := [v, .func (.func g) #[] lb]) Try.func74 rfl Try.ntmps74 rfl (Mem.nil _) (by simp) (fun a hC => ?_)
  refine W.seqk fun k1 hk1 => ?_
  refine W.region ?_
  refine L.pu hC rfl rfl (fun _ => All.nil) rfl rfl ?_; clear hC a; intro a hC
  refine L.nil ?_
  refine hk1 _ _ ?_; clear hk1; try clear k1
  refine W.seqk fun k2 hk2 => ?_
  refine W.region ?_
  refine L.pu hC rfl rfl (fun _ => All.nil) rfl rfl ?_; clear hC a; intro a hC
  refine L.pu hC rfl rfl (fun _ => All.nil) rfl rfl ?_; clear hC a; intro a hC
  refine L.call hC rfl rfl Try.call117 rfl (fun _ => All.nil) (fun hg => idxT_ok v l g lb p _ ((rdR v timE l).st _ _ hr (fun b hb => hC.frm.block b ((rdR v timE l).bd _ hr b hb) (fun h => h))) hcall (fun x hx w' hw => hp x hx w' (hC.frm.trans hw (fun _ _ h => h.elim)))) rfl rfl ?_; clear hC a; intro a w hF hC
  refine L.pu hC rfl rfl (fun _ => All.nil) rfl rfl ?_; clear hC a; intro a hC
  refine L.pu hC rfl rfl (fun _ => All.nil) rfl rfl ?_; clear hC a; intro a hC
  refine L.nil ?_
  refine hk2 _ _ ?_; clear hk2; try clear k2
  refine W.ret ?_
  refine rets hC rfl (.tmp rfl .nil) ?_
  refine ⟨?_, hC.frm⟩
  refine rb ?_
  exact fidx_ge

theorem idxH_ok (v : Value) (l : List (Int × Int)) (g : FuncId) (lb : Array Value) (p : (Int × Int) → Bool) (w : World) (hr : (rdR v timE l).ok w) (hcall : ∀ (vs : Array Value) (w : World), (callFunc g vs).run Try.prog w = .ok (.enter g vs) w)
    (hp : ∀ x ∈ l, ∀ w', Frm Nob w w' → Calls Try.prog g (#[.agg (timE.enc x).toArray] ++ lb) w' fun e w'' => e = .returned (.bool (p x)) ∧ Frm Nob w' w'') : Calls Try.prog 113 #[v, .func (.func g) #[] lb] w fun e w' => e = .returned (.int .i64 (fidx p l)) ∧ Frm Nob w w' := by
  refine enter (μ := [rdR v timE l]) (S := Nob) (vs := [v, .func (.func g) #[] lb]) Try.func113 rfl Try.ntmps113 rfl ⟨by simpa using hr, by simp⟩ (by simp [rdR]) (fun a hC => ?_)
  refine W.seqk fun k1 hk1 => ?_
  refine W.region ?_
  refine L.pu hC rfl rfl (fun _ => All.nil) rfl rfl ?_; clear hC a; intro a hC
  refine L.nil ?_
  refine hk1 _ _ ?_; clear hk1; try clear k1
  refine W.seqk fun k2 hk2 => ?_
  refine W.seqk fun k3 hk3 => ?_
  refine W.region ?_
  refine L.pu hC rfl rfl (fun _ => All.nil) rfl rfl ?_; clear hC a; intro a hC
  refine L.len hC rfl rfl rfl (fun _ => All.nil) (rd_form (hC.at m0)) Try.underlying126 rfl rfl ?_; clear hC a; intro a hC
  refine L.pu hC rfl rfl (fun _ => All.nil) rfl rfl ?_; clear hC a; intro a hC
  refine L.nil ?_
  refine hk3 _ _ ?_; clear hk3; try clear k3
  refine W.block ?_
  refine W.loop (fun (j : Nat) a w' => j ≤ l.length ∧ (∀ x ∈ l.take j, p x = false) ∧ Conf 19 Nob w [(8, (none, .int .i64 j)), (7, (none, .int .i64 l.length)), (6, (none, v)), (1, (none, .func (.func g) #[] lb)), (0, (none, v))] [rdR v timE l] a w') (fun j => l.length - j) 0 ?_ ?_
  · exact ⟨Nat.zero_le _, by simp, hC.keep ⟨rfl, rfl, rfl, rfl, rfl, trivial⟩⟩
  ·
    rintro j a w ⟨hj, ho, hC⟩
    refine W.seqk fun k4 hk4 => ?_
    refine W.region ?_
    refine L.pu hC rfl rfl (fun _ => All.nil) rfl rfl ?_; clear hC a; intro a hC
    refine L.nil ?_
    refine hk4 _ _ ?_; clear hk4; try clear k4
    refine W.seqk fun k5 hk5 => ?_
    refine W.cond hC rfl (fun h1 => ?_) (fun h1 => ?_)
    ·
      have h1 := of_decide_eq_true h1
      refine W.skip ?_
      refine hk5 _ _ ?_; clear hk5; try clear k5
      refine W.seqk fun k6 hk6 => ?_
      refine W.block ?_
      refine W.seqk fun k7 hk7 => ?_
      refine W.region ?_
      refine L.pu hC rfl rfl (fun _ => All.nil) rfl rfl ?_; clear hC a; intro a hC
      refine L.pu hC rfl rfl (fun _ => All.nil) rfl rfl ?_; clear hC a; intro a hC
      refine L.nil ?_
      refine hk7 _ _ ?_; clear hk7; try clear k7
      refine W.seqk fun k8 hk8 => ?_
      refine W.region ?_
      refine L.pu hC rfl rfl (fun _ => All.nil) rfl rfl ?_; clear hC a; intro a hC
      refine L.pu hC rfl rfl (fun _ => All.nil) rfl rfl ?_; clear hC a; intro a hC
      refine L.pu hC rfl rfl (fun _ => All.nil) rfl rfl ?_; clear hC a; intro a hC
      refine L.ixr hC rfl rfl rfl rfl m0 (fun _ => All.nil) (fun _ => All.nil) Try.underlying126 Try.sizeOf25 (fun _ => by omega) rfl rfl ?_; clear hC a; intro a hC
      refine L.ldxa hC rfl rfl rfl rfl (fun _ => All.nil) (fun hg => rd_bang hC m0 (by omega) _) Try.isAgg25 Try.sizeOf25 rfl rfl rfl rfl ?_; clear hC a; intro a hC
      refine L.callf hC rfl rfl rfl (fun _ => All.nil) hcall rfl (fun _ => All.nil) (fun hg => hp _ (bang_mem (by omega)) _ (hC.frm)) rfl rfl ?_; clear hC a; intro a w hF hC
      refine L.nil ?_
      refine hk8 _ _ ?_; clear hk8; try clear k8
      refine W.cond hC rfl (fun h2 => ?_) (fun h2 => ?_)
      ·
        refine W.seqk fun k9 hk9 => ?_
        refine W.region ?_
        refine L.pu hC rfl rfl (fun _ => All.nil) rfl rfl ?_; clear hC a; intro a hC
        refine L.pu hC rfl rfl (fun _ => All.nil) rfl rfl ?_; clear hC a; intro a hC
        refine L.nil ?_
        refine hk9 _ _ ?_; clear hk9; try clear k9
        refine W.ret ?_
        refine rets hC rfl (.tmp rfl .nil) ?_
        refine ⟨?_, hC.frm⟩
        refine ri ?_
        exact (fidx_here ho (by omega) h2).symm
      ·
        refine W.skip ?_
        refine hk6 _ _ ?_; clear hk6; try clear k6
        refine W.region ?_
        refine L.pu hC rfl rfl (fun _ => All.nil) rfl rfl ?_; clear hC a; intro a hC
        refine L.pu hC rfl rfl (fun _ => All.nil) rfl rfl ?_; clear hC a; intro a hC
        refine L.nil ?_
        have hl := rd_lt (hC.at m0)
        refine ⟨j + 1, ⟨by omega, fidx_step ho (by omega) h2, hC.keep ⟨?_, rfl, rfl, rfl, rfl, trivial⟩⟩, by omega⟩
        rw [w64 (by omega)]; rfl
    ·
      have h1 := of_decide_eq_false h1
      refine W.exit ?_
      refine Kb.here ?_
      refine hk2 _ _ ?_; clear hk2; try clear k2
      refine W.seqk fun k10 hk10 => ?_
      refine W.region ?_
      refine L.pu hC rfl rfl (fun _ => All.nil) rfl rfl ?_; clear hC a; intro a hC
      refine L.nil ?_
      refine hk10 _ _ ?_; clear hk10; try clear k10
      refine W.ret ?_
      refine rets hC rfl (.tmp rfl .nil) ?_
      refine ⟨?_, hC.frm⟩
      refine ri ?_
      exact (fidx_none (by rwa [List.take_of_length_le (by omega)] at ho)).symm

theorem hasH_ok (v : Value) (l : List (Int × Int)) (g : FuncId) (lb : Array Value) (p : (Int × Int) → Bool) (w : World) (hr : (rdR v timE l).ok w) (hcall : ∀ (vs : Array Value) (w : World), (callFunc g vs).run Try.prog w = .ok (.enter g vs) w)
    (hp : ∀ x ∈ l, ∀ w', Frm Nob w w' → Calls Try.prog g (#[.agg (timE.enc x).toArray] ++ lb) w' fun e w'' => e = .returned (.bool (p x)) ∧ Frm Nob w' w'') : Calls Try.prog 69 #[v, .func (.func g) #[] lb] w fun e w' => e = .returned (.bool (l.any p)) ∧ Frm Nob w w' := by
  refine enter (μ := []) (S := Nob) (vs := [v, .func (.func g) #[] lb]) Try.func69 rfl Try.ntmps69 rfl (Mem.nil _) (by simp) (fun a hC => ?_)
  refine W.seqk fun k1 hk1 => ?_
  refine W.region ?_
  refine L.pu hC rfl rfl (fun _ => All.nil) rfl rfl ?_; clear hC a; intro a hC
  refine L.nil ?_
  refine hk1 _ _ ?_; clear hk1; try clear k1
  refine W.seqk fun k2 hk2 => ?_
  refine W.region ?_
  refine L.pu hC rfl rfl (fun _ => All.nil) rfl rfl ?_; clear hC a; intro a hC
  refine L.pu hC rfl rfl (fun _ => All.nil) rfl rfl ?_; clear hC a; intro a hC
  refine L.call hC rfl rfl Try.call113 rfl (fun _ => All.nil) (fun hg => idxH_ok v l g lb p _ ((rdR v timE l).st _ _ hr (fun b hb => hC.frm.block b ((rdR v timE l).bd _ hr b hb) (fun h => h))) hcall (fun x hx w' hw => hp x hx w' (hC.frm.trans hw (fun _ _ h => h.elim)))) rfl rfl ?_; clear hC a; intro a w hF hC
  refine L.pu hC rfl rfl (fun _ => All.nil) rfl rfl ?_; clear hC a; intro a hC
  refine L.pu hC rfl rfl (fun _ => All.nil) rfl rfl ?_; clear hC a; intro a hC
  refine L.nil ?_
  refine hk2 _ _ ?_; clear hk2; try clear k2
  refine W.ret ?_
  refine rets hC rfl (.tmp rfl .nil) ?_
  refine ⟨?_, hC.frm⟩
  refine rb ?_
  exact fidx_ge

end Go.Proofs.E
