/- Comparisons and hashes, at seat kab. -/
import Derived.Test.YtgekiiildobfkabbF0
import Derived.Test.YtgekiiildobfkabE22
import Derived.Test.YtgekiiildobfkabE21
set_option linter.unusedVariables false
set_option linter.unusedSimpArgs false
namespace Go.Proofs.E
open Go.RowKit
theorem ri {k : IntKind} {a b : Int} (h : a = b) : Ending.returned (.int k a) = .returned (.int k b) := by rw [h]
theorem rb {a b : Bool} (h : a = b) : Ending.returned (.bool a) = .returned (.bool b) := by rw [h]
/-- the first that is not zero -/
def orI : List Int → Int
  | [] => 0
  | x :: l => if x = 0 then orI l else x
theorem orI_drop (l : List Int) (k : Nat) (hk : k < l.length) (h : l[k]! = 0) : orI (l.drop k) = orI (l.drop (k + 1)) := by
  rw [List.drop_eq_getElem_cons hk, orI, if_pos (by simpa [hk] using h)]
def cmpI (x y : Int) : Int := if x < y then -1 else if x > y then 1 else 0
def timE : Enc (Int × Int) where
  sz := 2
  enc x := [.int .i64 x.1, .int .i64 x.2]
  len _ := rfl
  one := by intro x u hu; simp at hu; rcases hu with rfl | rfl <;> rfl
  pos := by decide
def ordI (x y : Int × Int) : Int := orI [cmpI x.1 y.1, cmpI x.2 y.2]
def oddT (x : Int × Int) : Bool := decide (imin x.1 x.2 < 0) || decide (imax x.1 x.2 > 1073741824)
/-- where the first one is that p holds of -/
def fidx {α : Type _} (p : α → Bool) (l : List α) : Int := match l.findIdx? p with | some i => i | none => -1
theorem bang_mem {α : Type _} [Inhabited α] {l : List α} {j : Nat} (h : j < l.length) : l[j]! ∈ l := by rw [bang h]; exact List.getElem_mem h
theorem fidx_step {α : Type _} [Inhabited α] {p : α → Bool} {l : List α} {j : Nat} (h : ∀ x ∈ l.take j, p x = false) (hj : j < l.length) (hp : p l[j]! = false) : ∀ x ∈ l.take (j + 1), p x = false := by
  intro x hx
  rw [List.take_add_one, List.getElem?_eq_getElem hj] at hx
  rcases List.mem_append.1 hx with hx | hx
  · exact h x hx
  · simp at hx; subst hx; rwa [bang hj] at hp
theorem fidx_here {α : Type _} [Inhabited α] {p : α → Bool} {l : List α} {j : Nat} (h : ∀ x ∈ l.take j, p x = false) (hj : j < l.length) (hp : p l[j]! = true) : fidx p l = j := by
  have : l.findIdx? p = some j := by
    rw [List.findIdx?_eq_some_iff_getElem]
    refine ⟨hj, by rwa [bang hj] at hp, fun i hi => ?_⟩
    have := h l[i] (by rw [List.mem_take_iff_getElem]; exact ⟨i, by omega, rfl⟩)
    simp [this]
  simp [fidx, this]
theorem fidx_none {α : Type _} {p : α → Bool} {l : List α} (h : ∀ x ∈ l, p x = false) : fidx p l = -1 := by
  have : l.findIdx? p = none := by rw [List.findIdx?_eq_none_iff]; exact h
  simp [fidx, this]
theorem fidx_ge {α : Type _} {p : α → Bool} {l : List α} : decide (fidx p l ≥ 0) = l.any p := by
  unfold fidx
  cases h : l.findIdx? p with
  | none =>
    rw [List.findIdx?_eq_none_iff] at h
    have : l.any p = false := by rw [List.any_eq_false]; intro x hx; simp [h x hx]
    rw [this]; rfl
  | some i =>
    rw [List.findIdx?_eq_some_iff_getElem] at h
    obtain ⟨hi, hp, _⟩ := h
    have : l.any p = true := List.any_eq_true.2 ⟨_, List.getElem_mem hi, hp⟩
    rw [this]; simp
theorem nt {b : Bool} (h : b = false) : ¬ b = true := by rw [h]; simp
def sortedF {α : Type} [Inhabited α] (cmp : α → α → Int) (l : List α) : Bool := (List.range l.length).all fun m => !(decide (0 < m) && decide (cmp l[m]! l[m - 1]! < 0))
theorem sorted_yes {α : Type} [Inhabited α] {cmp : α → α → Int} {l : List α} (h : ∀ m : Nat, m < l.length → 0 < m → ¬ cmp l[m]! l[m - 1]! < 0) : sortedF cmp l = true := by
  unfold sortedF
  rw [List.all_eq_true]
  intro m hm
  have hm : m < l.length := by simpa using hm
  by_cases h0 : 0 < m
  · have := h m hm h0
    simp only [h0, decide_true, Bool.true_and, Bool.not_eq_true', decide_eq_false_iff_not]
    exact this
  · simp [h0]
theorem sorted_no {α : Type} [Inhabited α] {cmp : α → α → Int} {l : List α} {i : Int} (h1 : i < l.length) (h0 : i > 0) (h : cmp l[i.toNat]! l[(i - 1).toNat]! < 0) : sortedF cmp l = false := by
  unfold sortedF
  rw [List.all_eq_false]
  refine ⟨i.toNat, by simp; omega, ?_⟩
  have e : (i - 1).toNat = i.toNat - 1 := by omega
  rw [e] at h
  have h0' : 0 < i.toNat := by omega
  simp only [h0', h, decide_true, Bool.true_and, Bool.not_true]
  decide
theorem sorted_step {α : Type} [Inhabited α] {cmp : α → α → Int} {l : List α} {i : Int} (hs : ∀ m : Nat, i < m → m < l.length → 0 < m → ¬ cmp l[m]! l[m - 1]! < 0) (h0 : i > 0) (h : ¬ cmp l[i.toNat]! l[(i - 1).toNat]! < 0) : ∀ m : Nat, i - 1 < m → m < l.length → 0 < m → ¬ cmp l[m]! l[m - 1]! < 0 := by
  intro m h1 h2 h3
  by_cases hm : i < m
  · exact hs m hm h2 h3
  · have e : m = i.toNat := by omega
    have e2 : (i - 1).toNat = m - 1 := by omega
    rw [e2, ← e] at h
    exact h
theorem uwrap (z : Int) : IntKind.u64.wrap z = z % 18446744073709551616 := by
  simp [IntKind.wrap, IntKind.signed, IntKind.bits]
theorem uwrap_in (z : Int) : 0 ≤ IntKind.u64.wrap z ∧ IntKind.u64.wrap z < 18446744073709551616 := by
  rw [uwrap]; omega
def foldU (x : Int) : Int := Go.bits .xor .u64 x (x.fdiv (2 ^ (min (33 : Int).toNat 64)))
def mixU (x : Int) : Int := foldU (IntKind.u64.wrap (foldU (IntKind.u64.wrap (foldU x * 18397679294719823053)) * 14181476777654086739))
def hints : Int → List Int → Int
  | s, [] => s
  | s, x :: l => hints (mixU (IntKind.u64.wrap (s + IntKind.u64.wrap x))) l
theorem isNaN_ok (x : Int) (w : World) : Calls Try.prog 76 #[.int .i64 x] w fun e w' => e = .returned (.bool (x != x)) ∧ Frm Nob w w' := by
  refine enter (μ := []) (S := Nob) (vs := [.int .i64 x]) Try.func76 rfl Try.ntmps76 rfl (Mem.nil _) (by simp) (fun a hC => ?_)
  refine W.seqk fun k1 hk1 => ?_
  refine W.region ?_
  refine L.pu hC rfl rfl (fun _ => All.nil) rfl rfl ?_; clear hC a; intro a hC
  refine L.nil ?_
  refine hk1 _ _ ?_; clear hk1; try clear k1
  refine W.seqk fun k2 hk2 => ?_
  refine W.region ?_
  refine L.pu hC rfl rfl (fun _ => All.nil) rfl rfl ?_; clear hC a; intro a hC
  refine L.pu hC rfl rfl (fun _ => All.nil) rfl rfl ?_; clear hC a; intro a hC
  refine L.pu hC rfl rfl (fun _ => All.nil) rfl rfl ?_; clear hC a; intro a hC
  refine L.pu hC rfl rfl (fun _ => All.nil) rfl rfl ?_; clear hC a; intro a hC
  refine L.nil ?_
  refine hk2 _ _ ?_; clear hk2; try clear k2
  refine W.ret ?_
  refine ret1 hC rfl rfl ⟨?_, hC.frm⟩
  rfl

theorem compare_ok (x y : Int) (w : World) : Calls Try.prog 48 #[.int .i64 x, .int .i64 y] w fun e w' => e = .returned (.int .i64 (cmpI x y)) ∧ Frm Nob w w' := by
  refine enter (μ := []) (S := Nob) (vs := [.int .i64 x, .int .i64 y]) Try.func48 rfl Try.ntmps48 rfl (Mem.nil _) (by simp) (fun a hC => ?_)
  refine W.seqk fun k1 hk1 => ?_
  refine W.region ?_
  refine L.pu hC rfl rfl (fun _ => All.nil) rfl rfl ?_; clear hC a; intro a hC
  refine L.nil ?_
  refine hk1 _ _ ?_; clear hk1; try clear k1
  refine W.seqk fun k2 hk2 => ?_
  refine W.region ?_
  refine L.pu hC rfl rfl (fun _ => All.nil) rfl rfl ?_; clear hC a; intro a hC
  refine L.call hC rfl rfl Try.call76 rfl (fun _ => All.nil) (fun hg => isNaN_ok _ _) rfl rfl ?_; clear hC a; intro a w hF hC
  refine L.pu hC rfl rfl (fun _ => All.nil) rfl rfl ?_; clear hC a; intro a hC
  refine L.nil ?_
  refine hk2 _ _ ?_; clear hk2; try clear k2
  refine W.seqk fun k3 hk3 => ?_
  refine W.region ?_
  refine L.pu hC rfl rfl (fun _ => All.nil) rfl rfl ?_; clear hC a; intro a hC
  refine L.call hC rfl rfl Try.call76 rfl (fun _ => All.nil) (fun hg => isNaN_ok _ _) rfl rfl ?_; clear hC a; intro a w hF hC
  refine L.pu hC rfl rfl (fun _ => All.nil) rfl rfl ?_; clear hC a; intro a hC
  refine L.nil ?_
  refine hk3 _ _ ?_; clear hk3; try clear k3
  refine W.seqk fun k4 hk4 => ?_
  refine W.seqk fun k5 hk5 => ?_
  refine W.region ?_
  refine L.pu hC rfl rfl (fun _ => All.nil) rfl rfl ?_; clear hC a; intro a hC
  refine L.nil ?_
  refine hk5 _ _ ?_; clear hk5; try clear k5
  refine W.cond hC rfl (fun h1 => ?_) (fun h1 => ?_)
  ·
    exact absurd h1 (by simp)
  ·
    refine W.skip ?_
    refine hk4 _ _ ?_; clear hk4; try clear k4
    refine W.seqk fun k6 hk6 => ?_
    refine W.seqk fun k7 hk7 => ?_
    refine W.region ?_
    refine L.pu hC rfl rfl (fun _ => All.nil) rfl rfl ?_; clear hC a; intro a hC
    refine L.nil ?_
    refine hk7 _ _ ?_; clear hk7; try clear k7
    refine W.cond hC rfl (fun h2 => ?_) (fun h2 => ?_)
    ·
      exact absurd h2 (by simp)
    ·
      refine W.skip ?_
      refine hk6 _ _ ?_; clear hk6; try clear k6
      refine W.seqk fun k8 hk8 => ?_
      refine W.seqk fun k9 hk9 => ?_
      refine W.region ?_
      refine L.pu hC rfl rfl (fun _ => All.nil) rfl rfl ?_; clear hC a; intro a hC
      refine L.pu hC rfl rfl (fun _ => All.nil) rfl rfl ?_; clear hC a; intro a hC
      refine L.pu hC rfl rfl (fun _ => All.nil) rfl rfl ?_; clear hC a; intro a hC
      refine L.nil ?_
      refine hk9 _ _ ?_; clear hk9; try clear k9
      refine W.cond hC rfl (fun h3 => ?_) (fun h3 => ?_)
      ·
        refine W.seqk fun k10 hk10 => ?_
        refine W.region ?_
        refine L.pu hC rfl rfl (fun _ => All.nil) rfl rfl ?_; clear hC a; intro a hC
        refine L.nil ?_
        refine hk10 _ _ ?_; clear hk10; try clear k10
        refine W.ret ?_
        refine ret1 hC rfl rfl ⟨?_, hC.frm⟩
        refine ri ?_; unfold cmpI; simp only [decide_eq_true_eq, decide_eq_false_iff_not] at *; first | rw [if_pos (by omega)] | (rw [if_neg (by omega)]; first | rw [if_pos (by omega)] | rw [if_neg (by omega)])
      ·
        refine W.skip ?_
        refine hk8 _ _ ?_; clear hk8; try clear k8
        refine W.seqk fun k11 hk11 => ?_
        refine W.seqk fun k12 hk12 => ?_
        refine W.region ?_
        refine L.pu hC rfl rfl (fun _ => All.nil) rfl rfl ?_; clear hC a; intro a hC
        refine L.pu hC rfl rfl (fun _ => All.nil) rfl rfl ?_; clear hC a; intro a hC
        refine L.pu hC rfl rfl (fun _ => All.nil) rfl rfl ?_; clear hC a; intro a hC
        refine L.nil ?_
        refine hk12 _ _ ?_; clear hk12; try clear k12
        refine W.cond hC rfl (fun h4 => ?_) (fun h4 => ?_)
        ·
          refine W.seqk fun k13 hk13 => ?_
          refine W.region ?_
          refine L.pu hC rfl rfl (fun _ => All.nil) rfl rfl ?_; clear hC a; intro a hC
          refine L.nil ?_
          refine hk13 _ _ ?_; clear hk13; try clear k13
          refine W.ret ?_
          refine ret1 hC rfl rfl ⟨?_, hC.frm⟩
          refine ri ?_; unfold cmpI; simp only [decide_eq_true_eq, decide_eq_false_iff_not] at *; first | rw [if_pos (by omega)] | (rw [if_neg (by omega)]; first | rw [if_pos (by omega)] | rw [if_neg (by omega)])
        ·
          refine W.skip ?_
          refine hk11 _ _ ?_; clear hk11; try clear k11
          refine W.seqk fun k14 hk14 => ?_
          refine W.region ?_
          refine L.pu hC rfl rfl (fun _ => All.nil) rfl rfl ?_; clear hC a; intro a hC
          refine L.nil ?_
          refine hk14 _ _ ?_; clear hk14; try clear k14
          refine W.ret ?_
          refine ret1 hC rfl rfl ⟨?_, hC.frm⟩
          refine ri ?_; unfold cmpI; simp only [decide_eq_true_eq, decide_eq_false_iff_not] at *; first | rw [if_pos (by omega)] | (rw [if_neg (by omega)]; first | rw [if_pos (by omega)] | rw [if_neg (by omega)])

theorem or_ok (v : Value) (l : List Int) (w : World) (hr : (rdR v intE l).ok w) : Calls Try.prog 46 #[v] w fun e w' => e = .returned (.int .i64 (orI l)) ∧ Frm Nob w w' := by
  obtain ⟨A, c, hv, hm, _⟩ := id hr
  refine enter (μ := [rdR v intE l]) (S := Nob) (vs := [v]) Try.func46 rfl Try.ntmps46 rfl ⟨by simpa using hr, by simp⟩ (by simp [rdR]) (fun a hC => ?_)
  refine W.seqk fun k1 hk1 => ?_
  refine W.region ?_
  refine L.pu hC rfl rfl (fun _ => All.nil) rfl rfl ?_; clear hC a; intro a hC
  refine L.nil ?_
  refine hk1 _ _ ?_; clear hk1; try clear k1
  refine W.seqk fun k2 hk2 => ?_
  refine W.region ?_
  refine L.pu hC rfl rfl (fun _ => All.nil) rfl rfl ?_; clear hC a; intro a hC
  refine L.nil ?_
  refine hk2 _ _ ?_; clear hk2; try clear k2
  refine W.seqk fun k3 hk3 => ?_
  refine W.seqk fun k4 hk4 => ?_
  refine W.region ?_
  refine L.pu hC rfl rfl (fun _ => All.nil) rfl rfl ?_; clear hC a; intro a hC
  refine L.len hC rfl rfl rfl (fun _ => All.nil) (rd_form (hC.at m0)) Try.underlying81 rfl rfl ?_; clear hC a; intro a hC
  refine L.pu hC rfl rfl (fun _ => All.nil) rfl rfl ?_; clear hC a; intro a hC
  refine L.nil ?_
  refine hk4 _ _ ?_; clear hk4; try clear k4
  refine W.block ?_
  refine W.loop (fun (j : Nat) a w' => j ≤ l.length ∧ orI (l.drop j) = orI l ∧ Conf 18 Nob w [(8, (none, .int .i64 j)), (7, (none, .int .i64 l.length)), (6, (none, v)), (3, (none, .int .i64 0))] [rdR v intE l] a w') (fun j => l.length - j) 0 ?_ ?_
  · exact ⟨Nat.zero_le _, rfl, hC.keep ⟨rfl, rfl, rfl, rfl, trivial⟩⟩
  ·
    rintro j a w ⟨hj, ho, hC⟩
    refine W.seqk fun k5 hk5 => ?_
    refine W.region ?_
    refine L.pu hC rfl rfl (fun _ => All.nil) rfl rfl ?_; clear hC a; intro a hC
    refine L.nil ?_
    refine hk5 _ _ ?_; clear hk5; try clear k5
    refine W.seqk fun k6 hk6 => ?_
    refine W.cond hC rfl (fun h1 => ?_) (fun h1 => ?_)
    ·
      have h1 := of_decide_eq_true h1
      refine W.skip ?_
      refine hk6 _ _ ?_; clear hk6; try clear k6
      refine W.seqk fun k7 hk7 => ?_
      refine W.block ?_
      refine W.seqk fun k8 hk8 => ?_
      refine W.region ?_
      refine L.ixr hC rfl rfl rfl rfl m0 (fun _ => All.nil) (fun _ => All.nil) Try.underlying81 Try.sizeOf3 (fun _ => by simp at h1; omega) rfl rfl ?_; clear hC a; intro a hC
      refine L.ldx hC rfl rfl rfl rfl (fun _ => All.nil) (fun hg => rd_bang hC m0 (by simp at h1; omega) _) Try.isAgg3 rfl rfl rfl ?_; clear hC a; intro a hC
      refine L.pu hC rfl rfl (fun _ => All.nil) rfl rfl ?_; clear hC a; intro a hC
      refine L.nil ?_
      refine hk8 _ _ ?_; clear hk8; try clear k8
      refine W.seqk fun k9 hk9 => ?_
      refine W.region ?_
      refine L.pu hC rfl rfl (fun _ => All.nil) rfl rfl ?_; clear hC a; intro a hC
      refine L.pu hC rfl rfl (fun _ => All.nil) rfl rfl ?_; clear hC a; intro a hC
      refine L.pu hC rfl rfl (fun _ => All.nil) rfl rfl ?_; clear hC a; intro a hC
      refine L.nil ?_
      refine hk9 _ _ ?_; clear hk9; try clear k9
      refine W.cond hC rfl (fun h2 => ?_) (fun h2 => ?_)
      ·
        refine W.seqk fun k10 hk10 => ?_
        refine W.region ?_
        refine L.pu hC rfl rfl (fun _ => All.nil) rfl rfl ?_; clear hC a; intro a hC
        refine L.pu hC rfl rfl (fun _ => All.nil) rfl rfl ?_; clear hC a; intro a hC
        refine L.nil ?_
        refine hk10 _ _ ?_; clear hk10; try clear k10
        refine W.ret ?_
        refine ret1 hC rfl rfl ⟨?_, hC.frm⟩
        refine ri ?_
        have h3 : l[j]! ≠ 0 := by simpa using h2
        rw [← ho, List.drop_eq_getElem_cons (by omega), orI, if_neg (by simpa [show j < l.length by omega] using h3)]
        simp [show j < l.length by omega]
      ·
        refine W.skip ?_
        refine hk7 _ _ ?_; clear hk7; try clear k7
        refine W.region ?_
        refine L.pu hC rfl rfl (fun _ => All.nil) rfl rfl ?_; clear hC a; intro a hC
        refine L.pu hC rfl rfl (fun _ => All.nil) rfl rfl ?_; clear hC a; intro a hC
        refine L.nil ?_
        refine ⟨j + 1, ⟨by omega, by rw [← ho, orI_drop l j (by omega) (by simpa using h2)], hC.keep ⟨?_, rfl, rfl, rfl, trivial⟩⟩, by omega⟩
        rw [w64 (by omega)]; rfl
    ·
      have h1 := of_decide_eq_false h1
      refine W.exit ?_
      refine Kb.here ?_
      refine hk3 _ _ ?_; clear hk3; try clear k3
      refine W.seqk fun k11 hk11 => ?_
      refine W.region ?_
      refine L.pu hC rfl rfl (fun _ => All.nil) rfl rfl ?_; clear hC a; intro a hC
      refine L.pu hC rfl rfl (fun _ => All.nil) rfl rfl ?_; clear hC a; intro a hC
      refine L.nil ?_
      refine hk11 _ _ ?_; clear hk11; try clear k11
      refine W.ret ?_
      refine ret1 hC rfl rfl ⟨?_, hC.frm⟩
      refine ri ?_
      rw [← ho, List.drop_of_length_le (by omega)]; rfl

theorem fold_ok (x : Int) (w0 : World) : Calls Try.prog 64 #[.int .u64 x] w0 fun e w' => e = .returned (.int .u64 (foldU x)) ∧ Frm Nob w0 w' := by
  refine enter (μ := []) (S := Nob) (vs := [.int .u64 x]) Try.func64 rfl Try.ntmps64 rfl (Mem.nil _) (by simp) (fun a hC => ?_)
  refine W.seqk fun k1 hk1 => ?_
  refine W.region ?_
  refine L.pu hC rfl rfl (fun _ => All.nil) rfl rfl ?_; clear hC a; intro a hC
  refine L.nil ?_
  refine hk1 _ _ ?_; clear hk1; try clear k1
  refine W.seqk fun k2 hk2 => ?_
  refine W.region ?_
  refine L.pu hC rfl rfl (fun _ => All.nil) rfl rfl ?_; clear hC a; intro a hC
  refine L.pu hC rfl rfl (fun _ => All.nil) rfl rfl ?_; clear hC a; intro a hC
  refine L.bin hC rfl rfl rfl rfl (fun _ => All.nil) (fun _ => All.nil) (fun hg => run_shr (by decide) _) rfl rfl ?_; clear hC a; intro a hC
  refine L.pu hC rfl rfl (fun _ => All.nil) rfl rfl ?_; clear hC a; intro a hC
  refine L.pu hC rfl rfl (fun _ => All.nil) rfl rfl ?_; clear hC a; intro a hC
  refine L.nil ?_
  refine hk2 _ _ ?_; clear hk2; try clear k2
  refine W.ret ?_
  refine rets hC rfl (.tmp rfl .nil) ?_
  refine ⟨?_, hC.frm⟩
  rfl

theorem mix_ok (x : Int) (w0 : World) : Calls Try.prog 43 #[.int .u64 x] w0 fun e w' => e = .returned (.int .u64 (mixU x)) ∧ Frm Nob w0 w' := by
  refine enter (μ := []) (S := Nob) (vs := [.int .u64 x]) Try.func43 rfl Try.ntmps43 rfl (Mem.nil _) (by simp) (fun a hC => ?_)
  refine W.seqk fun k1 hk1 => ?_
  refine W.region ?_
  refine L.pu hC rfl rfl (fun _ => All.nil) rfl rfl ?_; clear hC a; intro a hC
  refine L.nil ?_
  refine hk1 _ _ ?_; clear hk1; try clear k1
  refine W.seqk fun k2 hk2 => ?_
  refine W.region ?_
  refine L.pu hC rfl rfl (fun _ => All.nil) rfl rfl ?_; clear hC a; intro a hC
  refine L.call hC rfl rfl Try.call64 rfl (fun _ => All.nil) (fun hg => fold_ok _ _) rfl rfl ?_; clear hC a; intro a w hF hC
  refine L.pu hC rfl rfl (fun _ => All.nil) rfl rfl ?_; clear hC a; intro a hC
  refine L.call hC rfl rfl Try.call64 rfl (fun _ => All.nil) (fun hg => fold_ok _ _) rfl rfl ?_; clear hC a; intro a w hF hC
  refine L.pu hC rfl rfl (fun _ => All.nil) rfl rfl ?_; clear hC a; intro a hC
  refine L.call hC rfl rfl Try.call64 rfl (fun _ => All.nil) (fun hg => fold_ok _ _) rfl rfl ?_; clear hC a; intro a w hF hC
  refine L.pu hC rfl rfl (fun _ => All.nil) rfl rfl ?_; clear hC a; intro a hC
  refine L.nil ?_
  refine hk2 _ _ ?_; clear hk2; try clear k2
  refine W.ret ?_
  refine rets hC rfl (.tmp rfl .nil) ?_
  refine ⟨?_, hC.frm⟩
  rfl

theorem hints_ok (seed : Int) (v : Value) (l : List Int) (w0 : World) (hr : (rdR v intE l).ok w0) : Calls Try.prog 21 #[.int .u64 seed, v] w0 fun e w' => e = .returned (.int .u64 (hints seed l)) ∧ Frm Nob w0 w' := by
  have hlen := rd_lt hr
  refine enter (μ := [rdR v intE l]) (S := Nob) (vs := [.int .u64 seed, v]) Try.func21 rfl Try.ntmps21 rfl ⟨by simpa using hr, by simp⟩ (by simp [rdR]) (fun a hC => ?_)
  refine W.seqk fun k1 hk1 => ?_
  refine W.region ?_
  refine L.pu hC rfl rfl (fun _ => All.nil) rfl rfl ?_; clear hC a; intro a hC
  refine L.nil ?_
  refine hk1 _ _ ?_; clear hk1; try clear k1
  refine W.seqk fun k2 hk2 => ?_
  refine W.seqk fun k3 hk3 => ?_
  refine W.region ?_
  refine L.pu hC rfl rfl (fun _ => All.nil) rfl rfl ?_; clear hC a; intro a hC
  refine L.len hC rfl rfl rfl (fun _ => All.nil) (rd_form (hC.at m0)) Try.underlying81 rfl rfl ?_; clear hC a; intro a hC
  refine L.pu hC rfl rfl (fun _ => All.nil) rfl rfl ?_; clear hC a; intro a hC
  refine L.nil ?_
  refine hk3 _ _ ?_; clear hk3; try clear k3
  refine W.block ?_
  refine W.loop (fun (gst : Nat × Int) a w' => match gst with | ⟨j, s⟩ => (j ≤ l.length) ∧ (hints s (l.drop j) = hints seed l) ∧ Conf 20 Nob w0 [(9, (none, .int .i64 (j : Int))), (8, (none, .int .i64 (l.length : Int))), (7, (none, v)), (0, (none, .int .u64 s))] [rdR v intE l] a w') (fun (gst : Nat × Int) => match gst with | ⟨j, s⟩ => l.length - j) (0, seed) ?_ ?_
  · exact ⟨Nat.zero_le _, rfl, hC.keep ⟨rfl, rfl, rfl, rfl, trivial⟩⟩
  · rintro ⟨j, s⟩ a w ⟨hj, hs, hC⟩
    refine W.seqk fun k4 hk4 => ?_
    refine W.region ?_
    refine L.pu hC rfl rfl (fun _ => All.nil) rfl rfl ?_; clear hC a; intro a hC
    refine L.nil ?_
    refine hk4 _ _ ?_; clear hk4; try clear k4
    refine W.seqk fun k5 hk5 => ?_
    refine W.cond hC rfl (fun h1 => ?_) (fun h1 => ?_)
    ·
      have h1 := of_decide_eq_true h1
      refine W.skip ?_
      refine hk5 _ _ ?_; clear hk5; try clear k5
      refine W.seqk fun k6 hk6 => ?_
      refine W.block ?_
      refine W.seqk fun k7 hk7 => ?_
      refine W.region ?_
      refine L.ixr hC rfl rfl rfl rfl m0 (fun _ => All.nil) (fun _ => All.nil) Try.underlying81 Try.sizeOf3 (fun _ => by omega) rfl rfl ?_; clear hC a; intro a hC
      refine L.ldx hC rfl rfl rfl rfl (fun _ => All.nil) (fun hg => rd_bang hC m0 (by omega) _) Try.isAgg3 rfl rfl rfl ?_; clear hC a; intro a hC
      refine L.pu hC rfl rfl (fun _ => All.nil) rfl rfl ?_; clear hC a; intro a hC
      refine L.nil ?_
      refine hk7 _ _ ?_; clear hk7; try clear k7
      refine W.region ?_
      refine L.pu hC rfl rfl (fun _ => All.nil) rfl rfl ?_; clear hC a; intro a hC
      refine L.pu hC rfl rfl (fun _ => All.nil) rfl rfl ?_; clear hC a; intro a hC
      refine L.conv hC rfl rfl rfl (fun _ => All.nil) Try.underlying3 Try.underlying28 rfl rfl ?_; clear hC a; intro a hC
      refine L.pu hC rfl rfl (fun _ => All.nil) rfl rfl ?_; clear hC a; intro a hC
      refine L.call hC rfl rfl Try.call43 rfl (fun _ => All.nil) (fun hg => mix_ok _ _) rfl rfl ?_; clear hC a; intro a w hF hC
      refine L.pu hC rfl rfl (fun _ => All.nil) rfl rfl ?_; clear hC a; intro a hC
      refine L.nil ?_
      refine hk6 _ _ ?_; clear hk6; try clear k6
      refine W.region ?_
      refine L.pu hC rfl rfl (fun _ => All.nil) rfl rfl ?_; clear hC a; intro a hC
      refine L.pu hC rfl rfl (fun _ => All.nil) rfl rfl ?_; clear hC a; intro a hC
      refine L.nil ?_
      exact ⟨(j + 1, mixU (IntKind.u64.wrap (s + IntKind.u64.wrap l[j]!))), ⟨by omega, by rw [← hs, List.drop_eq_getElem_cons (show j < l.length by omega), hints, bang (show j < l.length by omega)], hC.keep ⟨geti rfl (w64 (by omega)), rfl, rfl, rfl, trivial⟩⟩, by first | omega | (dsimp only; omega)⟩
    ·
      have h1 := of_decide_eq_false h1
      refine W.exit ?_
      refine Kb.here ?_
      refine hk2 _ _ ?_; clear hk2; try clear k2
      refine W.seqk fun k8 hk8 => ?_
      refine W.region ?_
      refine L.pu hC rfl rfl (fun _ => All.nil) rfl rfl ?_; clear hC a; intro a hC
      refine L.pu hC rfl rfl (fun _ => All.nil) rfl rfl ?_; clear hC a; intro a hC
      refine L.nil ?_
      refine hk8 _ _ ?_; clear hk8; try clear k8
      refine W.ret ?_
      refine rets hC rfl (.tmp rfl .nil) ?_
      refine ⟨?_, hC.frm⟩
      exact congrArg (fun x => Ending.returned (.int .u64 x)) (by rw [← hs, List.drop_of_length_le (by omega)]; rfl)

end Go.Proofs.E
