/- Part of the proof: what the functions of this program compute. -/
import Derived.Test.YtgekiiildobfkaaT6
set_option linter.unusedVariables false
set_option linter.unusedSimpArgs false
namespace Go.Proofs.E
open Go.RowKit
def dupI (xs : List Int) : Bool := decide (¬ xs.Nodup)
def badAt (l : List (Int × Int)) (i : Nat) : Bool := decide ((i : Int) > 0) && decide (ordI l[i]! l[(i - 1) / 2]! < 0)
def badH (l : List (Int × Int)) : Bool := (List.range l.length).any (badAt l)
/-- may a queue be? -/
def chkT (l : List (Int × Int)) : Int :=
  if decide ((l.length : Int) > 1024) = true then 3 else if l.any oddT = true then 4 else if dupI (l.map (·.2)) = true then 6 else if badH l = true then 9 else 0
def seen (l : List (Int × Int)) (j : Nat) : List (Int × Value) := (l.take j).map fun t => (t.2, Value.bool true)
theorem mget_seen (xs : List (Int × Int)) (y : Int) : mget (xs.map fun t => (t.2, Value.bool true)) y = if (xs.map (·.2)).contains y then some (.bool true) else none := by
  induction xs with
  | nil => rfl
  | cons x xs ih =>
    simp only [List.map_cons, mget, List.contains_cons, ih]
    by_cases h : x.2 = y
    · simp [h]
    · have h' : ¬ y = x.2 := fun e => h e.symm
      have hb : (y == x.2) = false := by simpa using h'
      have hc : (x.2 == y) = false := by simpa using h
      simp only [hb, hc, Bool.false_or, h', if_false, Bool.false_eq_true, cond_false]
theorem look_seen (xs : List (Int × Int)) (y : Int) : (mget (xs.map fun t => (t.2, Value.bool true)) y).getD (.bool false) = .bool ((xs.map (·.2)).contains y) := by
  rw [mget_seen]
  cases (xs.map (·.2)).contains y <;> rfl
theorem mput_new : ∀ (l : List (Int × Value)) (y : Int) (v : Value), mget l y = none → mput l y v = l ++ [(y, v)]
  | [], y, v, _ => rfl
  | (k, u) :: r, y, v, h => by
    by_cases hk : k = y
    · subst hk
      simp [mget] at h
    · have hk' : ¬ y = k := fun e => hk e.symm
      have h' : mget r y = none := by simpa [mget, hk'] using h
      simp [mput, hk', mput_new r y v h']
theorem take_snoc {α : Type _} [Inhabited α] {l : List α} {j : Nat} (hj : j < l.length) : l.take (j + 1) = l.take j ++ [l[j]!] := by
  rw [List.take_add_one, List.getElem?_eq_getElem hj, bang hj]; rfl
theorem seen_step {l : List (Int × Int)} {j : Nat} (hnd : ((l.take j).map (·.2)).Nodup) (hj : j < l.length) (h : ((l.take j).map (·.2)).contains l[j]!.2 = false) : mput (seen l j) l[j]!.2 (.bool true) = seen l (j + 1) := by
  unfold seen
  rw [mput_new _ _ _ (by rw [mget_seen, h]; rfl), take_snoc hj, List.map_append]; rfl
theorem seen_nodup {l : List (Int × Int)} {j : Nat} (hnd : ((l.take j).map (·.2)).Nodup) (hj : j < l.length) (h : ((l.take j).map (·.2)).contains l[j]!.2 = false) : ((l.take (j + 1)).map (·.2)).Nodup := by
  rw [take_snoc hj, List.map_append, List.nodup_append]
  refine ⟨hnd, by simp, fun x hx y hy e => ?_⟩
  simp at hy
  subst hy; subst e
  rw [List.contains_eq_mem] at h
  have h' := of_decide_eq_false h
  exact h' (by simpa using hx)
theorem dup_here {l : List (Int × Int)} {j : Nat} (hj : j < l.length) (h : ((l.take j).map (·.2)).contains l[j]!.2 = true) : dupI (l.map (·.2)) = true := by
  unfold dupI
  refine decide_eq_true (fun hnd => ?_)
  have h2 : ((l.take (j + 1)).map (·.2)).Nodup := by rw [List.map_take]; exact hnd.sublist (List.take_sublist _ _)
  rw [take_snoc hj, List.map_append, List.nodup_append] at h2
  rw [List.contains_eq_mem] at h
  exact h2.2.2 _ (of_decide_eq_true h) _ (by simp) rfl
theorem bad_here {l : List (Int × Int)} {j : Nat} (hj : j < l.length) (h : badAt l j = true) : badH l = true := List.any_eq_true.2 ⟨j, by simpa using hj, h⟩
theorem bad_none {l : List (Int × Int)} (h : ∀ i, i < l.length → badAt l i = false) : badH l = false := by
  unfold badH
  rw [List.any_eq_false]
  intro i hi
  rw [h i (by simpa using hi)]; simp
theorem check20_ok (v : Value) (l : List (Int × Int)) (w0 : World) (hr : (rdR v timE l).ok w0) : Calls Try.prog 25 #[v] w0 fun e w' => e = .returned (.int .i64 (chkT l)) ∧ Frm Nob w0 w' := by
  have hlen := rd_lt hr
  refine enter (μ := [rdR v timE l]) (S := Nob) (vs := [v]) Try.func25 rfl Try.ntmps25 rfl ⟨by simpa using hr, by simp⟩ (by simp [rdR]) (fun a hC => ?_)
  refine W.seqk fun k1 hk1 => ?_
  refine W.region ?_
  refine L.pu hC rfl rfl (fun _ => All.nil) rfl rfl ?_; clear hC a; intro a hC
  refine L.nil ?_
  refine hk1 _ _ ?_; clear hk1; try clear k1
  refine W.seqk fun k2 hk2 => ?_
  refine W.block ?_
  refine W.seqk fun k3 hk3 => ?_
  refine W.region ?_
  refine L.pu hC rfl rfl (fun _ => All.nil) rfl rfl ?_; clear hC a; intro a hC
  refine L.len hC rfl rfl rfl (fun _ => All.nil) (rd_form (hC.at m0)) Try.underlying22 rfl rfl ?_; clear hC a; intro a hC
  refine L.pu hC rfl rfl (fun _ => All.nil) rfl rfl ?_; clear hC a; intro a hC
  refine L.pu hC rfl rfl (fun _ => All.nil) rfl rfl ?_; clear hC a; intro a hC
  refine L.nil ?_
  refine hk3 _ _ ?_; clear hk3; try clear k3
  refine W.cond hC rfl (fun h1 => ?_) (fun h1 => ?_)
  ·
    refine W.seqk fun k4 hk4 => ?_
    refine W.region ?_
    refine L.pu hC rfl rfl (fun _ => All.nil) rfl rfl ?_; clear hC a; intro a hC
    refine L.nil ?_
    refine hk4 _ _ ?_; clear hk4; try clear k4
    refine W.ret ?_
    refine rets hC rfl (.tmp rfl .nil) ?_
    refine ⟨?_, hC.frm⟩
    refine ri ?_
    unfold chkT; rw [if_pos h1]
  ·
    refine W.seqk fun k5 hk5 => ?_
    refine W.region ?_
    refine L.pu hC rfl rfl (fun _ => All.nil) rfl rfl ?_; clear hC a; intro a hC
    refine L.call hC rfl rfl Try.call74 rfl (fun _ => All.nil) (fun hg => hasT_ok v l 68 #[] oddT _ (hC.at m0) Try.call68 (fun x hx w' hw => by simpa using odd_ok x w')) rfl rfl ?_; clear hC a; intro a w hF hC
    refine L.pu hC rfl rfl (fun _ => All.nil) rfl rfl ?_; clear hC a; intro a hC
    refine L.nil ?_
    refine hk5 _ _ ?_; clear hk5; try clear k5
    refine W.cond hC rfl (fun h2 => ?_) (fun h2 => ?_)
    ·
      refine W.seqk fun k6 hk6 => ?_
      refine W.region ?_
      refine L.pu hC rfl rfl (fun _ => All.nil) rfl rfl ?_; clear hC a; intro a hC
      refine L.nil ?_
      refine hk6 _ _ ?_; clear hk6; try clear k6
      refine W.ret ?_
      refine rets hC rfl (.tmp rfl .nil) ?_
      refine ⟨?_, hC.frm⟩
      refine ri ?_
      unfold chkT; rw [if_neg (by simp [h1]), if_pos h2]
    ·
      refine W.skip ?_
      refine hk2 _ _ ?_; clear hk2; try clear k2
      refine W.seqk fun k7 hk7 => ?_
      refine W.region ?_
      refine L.mkmap hC rfl rfl rfl rfl ?_; clear hC a; intro mb a w hF hC
      refine L.pu hC rfl rfl (fun _ => All.nil) rfl rfl ?_; clear hC a; intro a hC
      refine L.nil ?_
      refine hk7 _ _ ?_; clear hk7; try clear k7
      refine W.seqk fun k8 hk8 => ?_
      refine W.seqk fun k9 hk9 => ?_
      refine W.region ?_
      refine L.pu hC rfl rfl (fun _ => All.nil) rfl rfl ?_; clear hC a; intro a hC
      refine L.len hC rfl rfl rfl (fun _ => All.nil) (rd_form (hC.at m1)) Try.underlying22 rfl rfl ?_; clear hC a; intro a hC
      refine L.pu hC rfl rfl (fun _ => All.nil) rfl rfl ?_; clear hC a; intro a hC
      refine L.nil ?_
      refine hk9 _ _ ?_; clear hk9; try clear k9
      refine W.block ?_
      refine W.loop (fun (j : Nat) a w' => (j ≤ l.length) ∧ (((l.take j).map (·.2)).Nodup) ∧ Conf 45 Nob w0 [(17, (none, .int .i64 (j : Int))), (16, (none, .int .i64 (l.length : Int))), (15, (none, v)), (3, (none, .map (some mb))), (2, (none, .int .i64 0)), (0, (none, v))] [mapR mb (seen l j), rdR v timE l] a w') (fun (j : Nat) => l.length - j) 0 ?_ ?_
      · exact ⟨Nat.zero_le _, by simp, hC.keep ⟨rfl, rfl, rfl, rfl, rfl, rfl, trivial⟩⟩
      · rintro j a w ⟨hj, hnd, hC⟩
        refine W.seqk fun k10 hk10 => ?_
        refine W.region ?_
        refine L.pu hC rfl rfl (fun _ => All.nil) rfl rfl ?_; clear hC a; intro a hC
        refine L.nil ?_
        refine hk10 _ _ ?_; clear hk10; try clear k10
        refine W.seqk fun k11 hk11 => ?_
        refine W.cond hC rfl (fun h3 => ?_) (fun h3 => ?_)
        ·
          have h3 := of_decide_eq_true h3
          refine W.skip ?_
          refine hk11 _ _ ?_; clear hk11; try clear k11
          refine W.seqk fun k12 hk12 => ?_
          refine W.block ?_
          refine W.seqk fun k13 hk13 => ?_
          refine W.region ?_
          refine L.ixr hC rfl rfl rfl rfl m1 (fun _ => All.nil) (fun _ => All.nil) Try.underlying22 Try.sizeOf25 (fun _ => by omega) rfl rfl ?_; clear hC a; intro a hC
          refine L.ldxa hC rfl rfl rfl rfl (fun _ => All.nil) (fun _ => rd_bang hC m1 (by omega) _) Try.isAgg25 Try.sizeOf25 rfl rfl rfl rfl ?_; clear hC a; intro a hC
          refine L.alloc hC rfl rfl Try.zeroValue25 rfl rfl rfl ?_; clear hC a; intro tb a w hF hC
          refine L.st hC rfl rfl rfl rfl Try.sizeOf25 rfl rfl rfl rfl rfl ?_; clear hC a; intro a w hF hC
          refine L.nil ?_
          refine hk13 _ _ ?_; clear hk13; try clear k13
          refine W.seqk fun k14 hk14 => ?_
          refine W.seqk fun k15 hk15 => ?_
          refine W.region ?_
          refine L.pu hC rfl rfl (fun _ => All.nil) rfl rfl ?_; clear hC a; intro a hC
          refine L.fa hC rfl rfl rfl (fun _ => All.nil) Try.underlying25 rfl Try.sizeOf3 rfl rfl rfl ?_; clear hC a; intro a hC
          refine L.ld hC rfl rfl rfl (fun _ => All.nil) m0 Try.isAgg3 rfl rfl rfl ?_; clear hC a; intro a hC
          refine L.look hC rfl rfl rfl rfl (fun _ => All.nil) (fun _ => All.nil) m1 Try.underlying133 Try.underlying3 Try.zeroValue4 rfl rfl (look_seen _ _) ?_; clear hC a; intro a hC
          refine L.nil ?_
          refine hk15 _ _ ?_; clear hk15; try clear k15
          refine W.cond hC rfl (fun h4 => ?_) (fun h4 => ?_)
          ·
            refine W.seqk fun k16 hk16 => ?_
            refine W.region ?_
            refine L.pu hC rfl rfl (fun _ => All.nil) rfl rfl ?_; clear hC a; intro a hC
            refine L.nil ?_
            refine hk16 _ _ ?_; clear hk16; try clear k16
            refine W.ret ?_
            refine rets hC rfl (.tmp rfl .nil) ?_
            refine ⟨?_, hC.frm⟩
            refine ri ?_
            unfold chkT; rw [if_neg (by simp [h1]), if_neg (by simp [h2]), if_pos (dup_here (by omega) h4)]
          ·
            refine W.skip ?_
            refine hk14 _ _ ?_; clear hk14; try clear k14
            refine W.region ?_
            refine L.pu hC rfl rfl (fun _ => All.nil) rfl rfl ?_; clear hC a; intro a hC
            refine L.fa hC rfl rfl rfl (fun _ => All.nil) Try.underlying25 rfl Try.sizeOf3 rfl rfl rfl ?_; clear hC a; intro a hC
            refine L.ld hC rfl rfl rfl (fun _ => All.nil) m0 Try.isAgg3 rfl rfl rfl ?_; clear hC a; intro a hC
            replace hC := hC.fr1
            refine L.mupd hC rfl rfl rfl rfl rfl Try.underlying133 Try.underlying3 rfl ?_; clear hC a; intro a w hF hC
            refine L.nil ?_
            refine hk12 _ _ ?_; clear hk12; try clear k12
            refine W.region ?_
            refine L.pu hC rfl rfl (fun _ => All.nil) rfl rfl ?_; clear hC a; intro a hC
            refine L.pu hC rfl rfl (fun _ => All.nil) rfl rfl ?_; clear hC a; intro a hC
            refine L.nil ?_
            have hnd2 := seen_nodup hnd (by omega) h4
            replace hC := hC.dr1.hd (congrArg (mapR mb) (seen_step hnd (by omega) h4))
            exact ⟨j + 1, ⟨by omega, hnd2, hC.keep ⟨geti rfl (w64 (by omega)), rfl, rfl, rfl, rfl, rfl, trivial⟩⟩, by first | omega | (dsimp only; omega)⟩
        ·
          have h3 := of_decide_eq_false h3
          refine W.exit ?_
          refine Kb.here ?_
          refine hk8 _ _ ?_; clear hk8; try clear k8
          refine W.seqk fun k17 hk17 => ?_
          refine W.seqk fun k18 hk18 => ?_
          refine W.region ?_
          refine L.pu hC rfl rfl (fun _ => All.nil) rfl rfl ?_; clear hC a; intro a hC
          refine L.len hC rfl rfl rfl (fun _ => All.nil) (rd_form (hC.at m1)) Try.underlying22 rfl rfl ?_; clear hC a; intro a hC
          refine L.pu hC rfl rfl (fun _ => All.nil) rfl rfl ?_; clear hC a; intro a hC
          refine L.nil ?_
          refine hk18 _ _ ?_; clear hk18; try clear k18
          refine W.block ?_
          replace hC := hC.tail
          have hndA : (l.map (·.2)).Nodup := by rwa [List.take_of_length_le (by omega)] at hnd
          refine W.loop (fun (j : Nat) a w' => (j ≤ l.length) ∧ (∀ i, i < j → badAt l i = false) ∧ Conf 45 Nob w0 [(31, (none, .int .i64 (j : Int))), (30, (none, .int .i64 (l.length : Int))), (29, (none, v)), (2, (none, .int .i64 0)), (0, (none, v))] [rdR v timE l] a w') (fun (j : Nat) => l.length - j) 0 ?_ ?_
          · exact ⟨Nat.zero_le _, fun i hi => by omega, hC.keep ⟨rfl, rfl, rfl, rfl, rfl, trivial⟩⟩
          · rintro j a w ⟨hj2, hbd, hC⟩
            refine W.seqk fun k19 hk19 => ?_
            refine W.region ?_
            refine L.pu hC rfl rfl (fun _ => All.nil) rfl rfl ?_; clear hC a; intro a hC
            refine L.nil ?_
            refine hk19 _ _ ?_; clear hk19; try clear k19
            refine W.seqk fun k20 hk20 => ?_
            refine W.cond hC rfl (fun h5 => ?_) (fun h5 => ?_)
            ·
              have h5 := of_decide_eq_true h5
              refine W.skip ?_
              refine hk20 _ _ ?_; clear hk20; try clear k20
              refine W.seqk fun k21 hk21 => ?_
              refine W.block ?_
              refine W.seqk fun k22 hk22 => ?_
              refine W.region ?_
              refine L.pu hC rfl rfl (fun _ => All.nil) rfl rfl ?_; clear hC a; intro a hC
              refine L.pu hC rfl rfl (fun _ => All.nil) rfl rfl ?_; clear hC a; intro a hC
              refine L.nil ?_
              refine hk22 _ _ ?_; clear hk22; try clear k22
              refine W.seqk fun k23 hk23 => ?_
              refine W.region ?_
              refine L.pu hC rfl rfl (fun _ => All.nil) rfl rfl ?_; clear hC a; intro a hC
              refine L.pu hC rfl rfl (fun _ => All.nil) rfl rfl ?_; clear hC a; intro a hC
              refine L.pu hC rfl rfl (fun _ => All.nil) rfl rfl ?_; clear hC a; intro a hC
              refine L.pu hC rfl rfl (fun _ => All.nil) rfl rfl ?_; clear hC a; intro a hC
              refine L.pu hC rfl rfl (fun _ => All.nil) rfl rfl ?_; clear hC a; intro a hC
              refine L.pu hC rfl rfl (fun _ => All.nil) rfl rfl ?_; clear hC a; intro a hC
              refine L.pu hC rfl rfl (fun hg => by simp only [Gt, Bool.and_eq_true] at hg; simp only [All, List.cons_append, List.nil_append, List.append_nil, List.mem_cons, List.not_mem_nil, or_false, forall_eq_or_imp, forall_eq, Bool.and_eq_true, hg, Bool.not_false, Bool.not_true, and_self]) rfl rfl ?_; clear hC a; intro a hC
              refine L.bin hC rfl rfl rfl rfl (fun hg => by simp only [Gt, Bool.and_eq_true] at hg; simp only [All, List.cons_append, List.nil_append, List.append_nil, List.mem_cons, List.not_mem_nil, or_false, forall_eq_or_imp, forall_eq, Bool.and_eq_true, hg, Bool.not_false, Bool.not_true, and_self]) (fun _ => All.nil) (fun hg => run_quo (by decide) _) rfl rfl ?_; clear hC a; intro a hC
              refine L.call hC rfl rfl Try.call75 rfl (fun hg => by simp only [Gt, Bool.and_eq_true] at hg; simp only [All, List.cons_append, List.nil_append, List.append_nil, List.mem_cons, List.not_mem_nil, or_false, forall_eq_or_imp, forall_eq, Bool.and_eq_true, hg, Bool.not_false, Bool.not_true, and_self]) (fun hg => ahead_ok _ _ _ _ j ((j - 1) / 2) rfl (hpar (by have := of_decide_eq_true hg; omega) (by omega)) (by omega) (by omega) _ (hC.at m0)) rfl rfl ?_; clear hC a; intro a w hF hC
              refine L.and hC rfl rfl rfl rfl (fun _ => All.nil) (fun _ hp => by simp only [All, List.cons_append, List.nil_append, List.append_nil, List.mem_cons, List.not_mem_nil, or_false, forall_eq_or_imp, forall_eq, Bool.and_eq_true, hp, Bool.not_false, Bool.not_true, and_self]) rfl rfl ?_; clear hC a; intro a hC
              refine L.nil ?_
              refine hk23 _ _ ?_; clear hk23; try clear k23
              refine W.cond hC rfl (fun h6 => ?_) (fun h6 => ?_)
              ·
                refine W.seqk fun k24 hk24 => ?_
                refine W.region ?_
                refine L.pu hC rfl rfl (fun _ => All.nil) rfl rfl ?_; clear hC a; intro a hC
                refine L.nil ?_
                refine hk24 _ _ ?_; clear hk24; try clear k24
                refine W.ret ?_
                refine rets hC rfl (.tmp rfl .nil) ?_
                refine ⟨?_, hC.frm⟩
                refine ri ?_
                unfold chkT; rw [if_neg (by simp [h1]), if_neg (by simp [h2]), if_neg (by simp [dupI, hndA]), if_pos (bad_here (by omega) h6)]
              ·
                refine W.skip ?_
                refine hk21 _ _ ?_; clear hk21; try clear k21
                refine W.region ?_
                refine L.pu hC rfl rfl (fun _ => All.nil) rfl rfl ?_; clear hC a; intro a hC
                refine L.pu hC rfl rfl (fun _ => All.nil) rfl rfl ?_; clear hC a; intro a hC
                refine L.nil ?_
                exact ⟨j + 1, ⟨by omega, fun i hi => (Nat.lt_succ_iff_lt_or_eq.1 hi).elim (hbd i) (fun e => by rw [e]; exact h6), hC.keep ⟨geti rfl (w64 (by omega)), rfl, rfl, rfl, rfl, trivial⟩⟩, by first | omega | (dsimp only; omega)⟩
            ·
              have h5 := of_decide_eq_false h5
              refine W.exit ?_
              refine Kb.here ?_
              refine hk17 _ _ ?_; clear hk17; try clear k17
              refine W.seqk fun k25 hk25 => ?_
              refine W.region ?_
              refine L.pu hC rfl rfl (fun _ => All.nil) rfl rfl ?_; clear hC a; intro a hC
              refine L.nil ?_
              refine hk25 _ _ ?_; clear hk25; try clear k25
              refine W.ret ?_
              refine rets hC rfl (.tmp rfl .nil) ?_
              refine ⟨?_, hC.frm⟩
              refine ri ?_
              unfold chkT; rw [if_neg (by simp [h1]), if_neg (by simp [h2]), if_neg (by simp [dupI, hndA]), if_neg (by rw [bad_none (fun i hi => hbd i (by omega))]; simp)]

end Go.Proofs.E
