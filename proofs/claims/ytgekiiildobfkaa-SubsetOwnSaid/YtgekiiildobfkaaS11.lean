/- The page's own hash, draws and shuffle compute what the program's do. -/
import Derived.Test.YtgekiiildobfkaaS8
import Derived.WalkSmall
set_option linter.unusedVariables false
set_option linter.unusedSimpArgs false
namespace Go.Proofs.E
open Go.RowKit
def timesP (a b : Int) (j : Nat) : Int := IntKind.u64.wrap (a * (b % 2 ^ j))
theorem times_z (a b : Int) : 0 = timesP a b 0 := by
  unfold timesP
  rw [uwrap]; simp
theorem times_bit {b : Int} {j : Nat} (hb : 0 ≤ b ∧ b < 18446744073709551616) (hj : j < 64) : Go.bits .and .u64 (b.fdiv (2 ^ (min (j : Int).toNat 64))) 1 = b / 2 ^ j % 2 := by
  have hm : min (j : Int).toNat 64 = j := by simp; omega
  have hp : (0 : Int) < 2 ^ j := Int.pow_pos (by decide)
  rw [hm, Int.fdiv_eq_ediv_of_nonneg _ (by omega)]
  have h0 : 0 ≤ b / 2 ^ j := Int.ediv_nonneg hb.1 (by omega)
  have h1 : b / 2 ^ j ≤ b := Int.ediv_le_self _ hb.1
  exact and_one_u64 _ h0 (by omega)
theorem mod_step {b : Int} (hb : 0 ≤ b) (j : Nat) : b % 2 ^ (j + 1) = b % 2 ^ j + 2 ^ j * (b / 2 ^ j % 2) := by
  obtain ⟨m, rfl⟩ := Int.eq_ofNat_of_zero_le hb
  have h := Nat.mod_mul (x := m) (a := 2 ^ j) (b := 2)
  rw [Int.pow_succ]
  exact_mod_cast h
theorem times_yes {a b : Int} {j : Nat} (hb : 0 ≤ b ∧ b < 18446744073709551616) (hj : j < 64) (h : (Go.bits .and .u64 (b.fdiv (2 ^ (min (j : Int).toNat 64))) 1 == 1) = true) :
    IntKind.u64.wrap (timesP a b j + IntKind.u64.wrap (a * 2 ^ (min (j : Int).toNat 64))) = timesP a b (j + 1) := by
  rw [times_bit hb hj] at h
  have h : b / 2 ^ j % 2 = 1 := by simpa using h
  have hm : min (j : Int).toNat 64 = j := by simp; omega
  unfold timesP
  rw [hm, mod_step hb.1, h, Int.mul_one, Int.mul_add]
  simp only [uwrap, Int.emod_add_emod, Int.add_emod_emod]
theorem times_no {a b : Int} {j : Nat} (hb : 0 ≤ b ∧ b < 18446744073709551616) (hj : j < 64) (h : (Go.bits .and .u64 (b.fdiv (2 ^ (min (j : Int).toNat 64))) 1 == 1) = false) :
    timesP a b j = timesP a b (j + 1) := by
  rw [times_bit hb hj] at h
  have h : b / 2 ^ j % 2 = 0 := by
    have : ¬ b / 2 ^ j % 2 = 1 := by simpa using h
    omega
  unfold timesP
  rw [mod_step hb.1, h, Int.mul_zero, Int.add_zero]
theorem times_end {a b : Int} {j : Nat} (hb : 0 ≤ b ∧ b < 18446744073709551616) (h1 : j ≤ 64) (h2 : 64 ≤ j) : timesP a b j = IntKind.u64.wrap (a * b) := by
  have e : j = 64 := by omega
  subst e
  unfold timesP
  rw [Int.emod_eq_of_lt hb.1 (by simpa using hb.2)]
theorem bits_in (op : BinOp) (x y : Int) : 0 ≤ Go.bits op .u64 x y ∧ Go.bits op .u64 x y < 18446744073709551616 := uwrap_in _
theorem mixU_in (x : Int) : 0 ≤ mixU x ∧ mixU x < 18446744073709551616 := by
  unfold mixU foldU
  exact bits_in _ _ _
theorem share_eq {x n : Int} (hx : 0 ≤ x ∧ x < 18446744073709551616) (h : (decide (n < 1) || decide (n > 1048576)) = false) :
    IntKind.i64.wrap ((IntKind.u64.wrap (x.fdiv (2 ^ (min (32 : Int).toNat 64)) * IntKind.u64.wrap n)).fdiv (2 ^ (min (32 : Int).toNat 64))) = IntKind.i64.wrap (IntKind.u64.wrap (x.fdiv (2 ^ (min (32 : Int).toNat 64)) * 2 ^ (min (32 : Int).toNat 64)) * IntKind.u64.wrap n / 18446744073709551616) := by
  rw [Bool.or_eq_false_iff, decide_eq_false_iff_not, decide_eq_false_iff_not] at h
  have e : (2 : Int) ^ (min (32 : Int).toNat 64) = 4294967296 := by decide
  rw [e, Int.fdiv_eq_ediv_of_nonneg _ (by decide), Int.fdiv_eq_ediv_of_nonneg _ (by decide)]
  have hn : IntKind.u64.wrap n = n := by rw [uwrap]; omega
  obtain ⟨y, hy⟩ : ∃ y, x / 4294967296 = y := ⟨_, rfl⟩
  have hy2 : 0 ≤ y ∧ y < 4294967296 := by omega
  rw [hy, hn]
  have h1 : IntKind.u64.wrap (y * 4294967296) = y * 4294967296 := by rw [uwrap]; omega
  have h3 : 0 ≤ y * n := Int.mul_nonneg hy2.1 (by omega)
  have h4 : y * n ≤ y * 1048576 := Int.mul_le_mul_of_nonneg_left (by omega) hy2.1
  have h2 : IntKind.u64.wrap (y * n) = y * n := by rw [uwrap]; omega
  rw [h1, h2]
  congr 1
  have h5 : y * 4294967296 * n = y * n * 4294967296 := by rw [Int.mul_assoc, Int.mul_comm 4294967296 n, ← Int.mul_assoc]
  rw [h5]
  omega
theorem swpI_comm {l : List Int} {i k : Nat} (hi : i < l.length) (hk : k < l.length) : swpI l k i = swpI l i k := by
  unfold swpI
  by_cases h : i = k
  · subst h; rfl
  · exact List.set_comm _ _ (fun e => h e.symm)
theorem times_ok (x y : Int) (hb : 0 ≤ y ∧ y < 18446744073709551616) (w0 : World) : Calls Try.prog 160 #[.int .u64 x, .int .u64 y] w0 fun e w' => e = .returned (.int .u64 (IntKind.u64.wrap (x * y))) ∧ Frm Nob w0 w' := by
  refine enter (μ := []) (S := Nob) (vs := [.int .u64 x, .int .u64 y]) Try.func160 rfl Try.ntmps160 rfl (Mem.nil _) (by simp) (fun a hC => ?_)
  refine W.seqk fun k1 hk1 => ?_
  refine W.region ?_
  refine L.pu hC rfl rfl (fun _ => All.nil) rfl rfl ?_; clear hC a; intro a hC
  refine L.nil ?_
  refine hk1 _ _ ?_; clear hk1; try clear k1
  refine W.seqk fun k2 hk2 => ?_
  refine W.region ?_
  refine L.pu hC rfl rfl (fun _ => All.nil) rfl rfl ?_; clear hC a; intro a hC
  refine L.nil ?_
  refine hk2 _ _ ?_; clear hk2; try clear k2
  refine W.seqk fun k3 hk3 => ?_
  refine W.seqk fun k4 hk4 => ?_
  refine W.region ?_
  refine L.pu hC rfl rfl (fun _ => All.nil) rfl rfl ?_; clear hC a; intro a hC
  refine L.nil ?_
  refine hk4 _ _ ?_; clear hk4; try clear k4
  refine W.block ?_
  refine W.loop (fun (j : Nat) a w' => (j ≤ 64) ∧ Conf 22 Nob w0 [(6, (none, .int .i64 (j : Int))), (5, (none, .int .u64 (timesP x y j))), (0, (none, .int .u64 x)), (1, (none, .int .u64 y))] [] a w') (fun (j : Nat) => 64 - j) 0 ?_ ?_
  · exact ⟨by omega, hC.keep ⟨rfl, geti rfl (times_z x y), rfl, rfl, trivial⟩⟩
  · rintro j a w ⟨hj, hC⟩
    refine W.seqk fun k5 hk5 => ?_
    refine W.seqk fun k6 hk6 => ?_
    refine W.region ?_
    refine L.pu hC rfl rfl (fun _ => All.nil) rfl rfl ?_; clear hC a; intro a hC
    refine L.pu hC rfl rfl (fun _ => All.nil) rfl rfl ?_; clear hC a; intro a hC
    refine L.nil ?_
    refine hk6 _ _ ?_; clear hk6; try clear k6
    refine W.cond hC rfl (fun h1 => ?_) (fun h1 => ?_)
    ·
      have h1 := of_decide_eq_true h1
      refine W.skip ?_
      refine hk5 _ _ ?_; clear hk5; try clear k5
      refine W.seqk fun k7 hk7 => ?_
      refine W.block ?_
      refine W.seqk fun k8 hk8 => ?_
      refine W.region ?_
      refine L.pu hC rfl rfl (fun _ => All.nil) rfl rfl ?_; clear hC a; intro a hC
      refine L.pu hC rfl rfl (fun _ => All.nil) rfl rfl ?_; clear hC a; intro a hC
      refine L.bin hC rfl rfl rfl rfl (fun _ => All.nil) (fun _ => All.nil) (fun hg => run_shr (by omega) _) rfl rfl ?_; clear hC a; intro a hC
      refine L.pu hC rfl rfl (fun _ => All.nil) rfl rfl ?_; clear hC a; intro a hC
      refine L.pu hC rfl rfl (fun _ => All.nil) rfl rfl ?_; clear hC a; intro a hC
      refine L.nil ?_
      refine hk8 _ _ ?_; clear hk8; try clear k8
      refine W.cond hC rfl (fun h2 => ?_) (fun h2 => ?_)
      ·
        refine W.region ?_
        refine L.pu hC rfl rfl (fun _ => All.nil) rfl rfl ?_; clear hC a; intro a hC
        refine L.pu hC rfl rfl (fun _ => All.nil) rfl rfl ?_; clear hC a; intro a hC
        refine L.pu hC rfl rfl (fun _ => All.nil) rfl rfl ?_; clear hC a; intro a hC
        refine L.bin hC rfl rfl rfl rfl (fun _ => All.nil) (fun _ => All.nil) (fun hg => run_shl (by omega) _) rfl rfl ?_; clear hC a; intro a hC
        refine L.pu hC rfl rfl (fun _ => All.nil) rfl rfl ?_; clear hC a; intro a hC
        refine L.pu hC rfl rfl (fun _ => All.nil) rfl rfl ?_; clear hC a; intro a hC
        refine L.nil ?_
        refine hk7 _ _ ?_; clear hk7; try clear k7
        refine W.region ?_
        refine L.pu hC rfl rfl (fun _ => All.nil) rfl rfl ?_; clear hC a; intro a hC
        refine L.pu hC rfl rfl (fun _ => All.nil) rfl rfl ?_; clear hC a; intro a hC
        refine L.pu hC rfl rfl (fun _ => All.nil) rfl rfl ?_; clear hC a; intro a hC
        refine L.nil ?_
        exact ⟨j + 1, ⟨by omega, hC.keep ⟨geti rfl (w64 (by omega)), (by first | exact geti rfl (times_yes hb (by omega) h2) | exact geti rfl (times_no hb (by omega) h2)), rfl, rfl, trivial⟩⟩, by first | omega | (dsimp only; omega)⟩
      ·
        refine W.skip ?_
        refine hk7 _ _ ?_; clear hk7; try clear k7
        refine W.region ?_
        refine L.pu hC rfl rfl (fun _ => All.nil) rfl rfl ?_; clear hC a; intro a hC
        refine L.pu hC rfl rfl (fun _ => All.nil) rfl rfl ?_; clear hC a; intro a hC
        refine L.pu hC rfl rfl (fun _ => All.nil) rfl rfl ?_; clear hC a; intro a hC
        refine L.nil ?_
        exact ⟨j + 1, ⟨by omega, hC.keep ⟨geti rfl (w64 (by omega)), (by first | exact geti rfl (times_yes hb (by omega) h2) | exact geti rfl (times_no hb (by omega) h2)), rfl, rfl, trivial⟩⟩, by first | omega | (dsimp only; omega)⟩
    ·
      have h1 := of_decide_eq_false h1
      refine W.exit ?_
      refine Kb.here ?_
      refine hk3 _ _ ?_; clear hk3; try clear k3
      refine W.seqk fun k9 hk9 => ?_
      refine W.region ?_
      refine L.pu hC rfl rfl (fun _ => All.nil) rfl rfl ?_; clear hC a; intro a hC
      refine L.pu hC rfl rfl (fun _ => All.nil) rfl rfl ?_; clear hC a; intro a hC
      refine L.nil ?_
      refine hk9 _ _ ?_; clear hk9; try clear k9
      refine W.ret ?_
      refine rets hC rfl (.tmp rfl .nil) ?_
      refine ⟨?_, hC.frm⟩
      exact congrArg (fun x => Ending.returned (.int .u64 x)) (times_end hb hj (by omega))

theorem mixr_ok (x : Int) (w0 : World) : Calls Try.prog 134 #[.int .u64 x] w0 fun e w' => e = .returned (.int .u64 (mixU x)) ∧ Frm Nob w0 w' := by
  refine enter (μ := []) (S := Nob) (vs := [.int .u64 x]) Try.func134 rfl Try.ntmps134 rfl (Mem.nil _) (by simp) (fun a hC => ?_)
  refine W.seqk fun k1 hk1 => ?_
  refine W.region ?_
  refine L.pu hC rfl rfl (fun _ => All.nil) rfl rfl ?_; clear hC a; intro a hC
  refine L.nil ?_
  refine hk1 _ _ ?_; clear hk1; try clear k1
  refine W.seqk fun k2 hk2 => ?_
  refine W.region ?_
  refine L.pu hC rfl rfl (fun _ => All.nil) rfl rfl ?_; clear hC a; intro a hC
  refine L.pu hC rfl rfl (fun _ => All.nil) rfl rfl ?_; clear hC a; intro a hC
  refine L.bin hC rfl rfl rfl rfl (fun _ => All.nil) (fun _ => All.nil) (fun hg => run_shr (by decide) _) rfl rfl ?_; clear hC a; intro a hC
  refine L.pu hC rfl rfl (fun _ => All.nil) rfl rfl ?_; clear hC a; intro a hC
  refine L.call hC rfl rfl Try.call160 rfl (fun _ => All.nil) (fun hg => times_ok _ _ (by decide) _) rfl rfl ?_; clear hC a; intro a w hF hC
  refine L.pu hC rfl rfl (fun _ => All.nil) rfl rfl ?_; clear hC a; intro a hC
  refine L.nil ?_
  refine hk2 _ _ ?_; clear hk2; try clear k2
  refine W.seqk fun k3 hk3 => ?_
  refine W.region ?_
  refine L.pu hC rfl rfl (fun _ => All.nil) rfl rfl ?_; clear hC a; intro a hC
  refine L.pu hC rfl rfl (fun _ => All.nil) rfl rfl ?_; clear hC a; intro a hC
  refine L.bin hC rfl rfl rfl rfl (fun _ => All.nil) (fun _ => All.nil) (fun hg => run_shr (by decide) _) rfl rfl ?_; clear hC a; intro a hC
  refine L.pu hC rfl rfl (fun _ => All.nil) rfl rfl ?_; clear hC a; intro a hC
  refine L.call hC rfl rfl Try.call160 rfl (fun _ => All.nil) (fun hg => times_ok _ _ (by decide) _) rfl rfl ?_; clear hC a; intro a w hF hC
  refine L.pu hC rfl rfl (fun _ => All.nil) rfl rfl ?_; clear hC a; intro a hC
  refine L.nil ?_
  refine hk3 _ _ ?_; clear hk3; try clear k3
  refine W.seqk fun k4 hk4 => ?_
  refine W.region ?_
  refine L.pu hC rfl rfl (fun _ => All.nil) rfl rfl ?_; clear hC a; intro a hC
  refine L.pu hC rfl rfl (fun _ => All.nil) rfl rfl ?_; clear hC a; intro a hC
  refine L.bin hC rfl rfl rfl rfl (fun _ => All.nil) (fun _ => All.nil) (fun hg => run_shr (by decide) _) rfl rfl ?_; clear hC a; intro a hC
  refine L.pu hC rfl rfl (fun _ => All.nil) rfl rfl ?_; clear hC a; intro a hC
  refine L.pu hC rfl rfl (fun _ => All.nil) rfl rfl ?_; clear hC a; intro a hC
  refine L.nil ?_
  refine hk4 _ _ ?_; clear hk4; try clear k4
  refine W.ret ?_
  refine rets hC rfl (.tmp rfl .nil) ?_
  refine ⟨?_, hC.frm⟩
  rfl

theorem hintsr_ok (seed : Int) (v : Value) (l : List Int) (w0 : World) (hr : (rdR v intE l).ok w0) : Calls Try.prog 96 #[.int .u64 seed, v] w0 fun e w' => e = .returned (.int .u64 (hints seed l)) ∧ Frm Nob w0 w' := by
  have hlen := rd_lt hr
  refine enter (μ := [rdR v intE l]) (S := Nob) (vs := [.int .u64 seed, v]) Try.func96 rfl Try.ntmps96 rfl ⟨by simpa using hr, by simp⟩ (by simp [rdR]) (fun a hC => ?_)
  refine W.seqk fun k1 hk1 => ?_
  refine W.region ?_
  refine L.pu hC rfl rfl (fun _ => All.nil) rfl rfl ?_; clear hC a; intro a hC
  refine L.nil ?_
  refine hk1 _ _ ?_; clear hk1; try clear k1
  refine W.seqk fun k2 hk2 => ?_
  refine W.seqk fun k3 hk3 => ?_
  refine W.region ?_
  refine L.pu hC rfl rfl (fun _ => All.nil) rfl rfl ?_; clear hC a; intro a hC
  refine L.nil ?_
  refine hk3 _ _ ?_; clear hk3; try clear k3
  refine W.block ?_
  refine W.loop (fun (gst : Nat × Int) a w' => match gst with | ⟨j, s⟩ => (j ≤ l.length) ∧ (hints s (l.drop j) = hints seed l) ∧ Conf 21 Nob w0 [(5, (none, .int .i64 (j : Int))), (1, (none, v)), (0, (none, .int .u64 s))] [rdR v intE l] a w') (fun (gst : Nat × Int) => match gst with | ⟨j, s⟩ => l.length - j) (0, seed) ?_ ?_
  · exact ⟨Nat.zero_le _, rfl, hC.keep ⟨rfl, rfl, rfl, trivial⟩⟩
  · rintro ⟨j, s⟩ a w ⟨hj, hs, hC⟩
    refine W.seqk fun k4 hk4 => ?_
    refine W.seqk fun k5 hk5 => ?_
    refine W.region ?_
    refine L.pu hC rfl rfl (fun _ => All.nil) rfl rfl ?_; clear hC a; intro a hC
    refine L.pu hC rfl rfl (fun _ => All.nil) rfl rfl ?_; clear hC a; intro a hC
    refine L.len hC rfl rfl rfl (fun _ => All.nil) (rd_form (hC.at m0)) Try.underlying37 rfl rfl ?_; clear hC a; intro a hC
    refine L.pu hC rfl rfl (fun _ => All.nil) rfl rfl ?_; clear hC a; intro a hC
    refine L.nil ?_
    refine hk5 _ _ ?_; clear hk5; try clear k5
    refine W.cond hC rfl (fun h1 => ?_) (fun h1 => ?_)
    ·
      have h1 := of_decide_eq_true h1
      refine W.skip ?_
      refine hk4 _ _ ?_; clear hk4; try clear k4
      refine W.seqk fun k6 hk6 => ?_
      refine W.block ?_
      refine W.region ?_
      refine L.pu hC rfl rfl (fun _ => All.nil) rfl rfl ?_; clear hC a; intro a hC
      refine L.pu hC rfl rfl (fun _ => All.nil) rfl rfl ?_; clear hC a; intro a hC
      refine L.pu hC rfl rfl (fun _ => All.nil) rfl rfl ?_; clear hC a; intro a hC
      refine L.ixr hC rfl rfl rfl rfl m0 (fun _ => All.nil) (fun _ => All.nil) Try.underlying37 Try.sizeOf3 (fun _ => by omega) rfl rfl ?_; clear hC a; intro a hC
      refine L.ldx hC rfl rfl rfl rfl (fun _ => All.nil) (fun hg => rd_bang hC m0 (by omega) _) Try.isAgg3 rfl rfl rfl ?_; clear hC a; intro a hC
      refine L.conv hC rfl rfl rfl (fun _ => All.nil) Try.underlying3 Try.underlying61 rfl rfl ?_; clear hC a; intro a hC
      refine L.pu hC rfl rfl (fun _ => All.nil) rfl rfl ?_; clear hC a; intro a hC
      refine L.call hC rfl rfl Try.call134 rfl (fun _ => All.nil) (fun hg => mixr_ok _ _) rfl rfl ?_; clear hC a; intro a w hF hC
      refine L.pu hC rfl rfl (fun _ => All.nil) rfl rfl ?_; clear hC a; intro a hC
      refine L.nil ?_
      refine hk6 _ _ ?_; clear hk6; try clear k6
      refine W.region ?_
      refine L.pu hC rfl rfl (fun _ => All.nil) rfl rfl ?_; clear hC a; intro a hC
      refine L.pu hC rfl rfl (fun _ => All.nil) rfl rfl ?_; clear hC a; intro a hC
      refine L.pu hC rfl rfl (fun _ => All.nil) rfl rfl ?_; clear hC a; intro a hC
      refine L.nil ?_
      exact ⟨(j + 1, mixU (IntKind.u64.wrap (s + IntKind.u64.wrap l[j]!))), ⟨by omega, by rw [← hs, List.drop_eq_getElem_cons (show j < l.length by omega), hints, bang (show j < l.length by omega)], hC.keep ⟨geti rfl (w64 (by omega)), rfl, rfl, trivial⟩⟩, by first | omega | (dsimp only; omega)⟩
    ·
      have h1 := of_decide_eq_false h1
      refine W.exit ?_
      refine Kb.here ?_
      refine hk2 _ _ ?_; clear hk2; try clear k2
      refine W.seqk fun k7 hk7 => ?_
      refine W.region ?_
      refine L.pu hC rfl rfl (fun _ => All.nil) rfl rfl ?_; clear hC a; intro a hC
      refine L.pu hC rfl rfl (fun _ => All.nil) rfl rfl ?_; clear hC a; intro a hC
      refine L.nil ?_
      refine hk7 _ _ ?_; clear hk7; try clear k7
      refine W.ret ?_
      refine rets hC rfl (.tmp rfl .nil) ?_
      refine ⟨?_, hC.frm⟩
      exact congrArg (fun x => Ending.returned (.int .u64 x)) (by rw [← hs, List.drop_of_length_le (by omega)]; rfl)

theorem sharer_ok (x n : Int) (hx : 0 ≤ x ∧ x < 18446744073709551616) (w0 : World) : Calls Try.prog 129 #[.int .u64 x, .int .i64 n] w0 fun e w' => e = .returned (.tuple #[.int .i64 (shareR x n).1, .int .i64 (shareR x n).2]) ∧ Frm Nob w0 w' := by
  refine enter (μ := []) (S := Nob) (vs := [.int .u64 x, .int .i64 n]) Try.func129 rfl Try.ntmps129 rfl (Mem.nil _) (by simp) (fun a hC => ?_)
  refine W.seqk fun k1 hk1 => ?_
  refine W.region ?_
  refine L.pu hC rfl rfl (fun _ => All.nil) rfl rfl ?_; clear hC a; intro a hC
  refine L.pu hC rfl rfl (fun _ => All.nil) rfl rfl ?_; clear hC a; intro a hC
  refine L.nil ?_
  refine hk1 _ _ ?_; clear hk1; try clear k1
  refine W.seqk fun k2 hk2 => ?_
  refine W.seqk fun k3 hk3 => ?_
  refine W.region ?_
  refine L.pu hC rfl rfl (fun _ => All.nil) rfl rfl ?_; clear hC a; intro a hC
  refine L.pu hC rfl rfl (fun _ => All.nil) rfl rfl ?_; clear hC a; intro a hC
  refine L.pu hC rfl rfl (fun _ => All.nil) rfl rfl ?_; clear hC a; intro a hC
  refine L.pu hC rfl rfl (fun _ => All.nil) rfl rfl ?_; clear hC a; intro a hC
  refine L.pu hC rfl rfl (fun hg => by simp only [Gt, Bool.and_eq_true] at hg; simp only [All, List.cons_append, List.nil_append, List.append_nil, List.mem_cons, List.not_mem_nil, or_false, forall_eq_or_imp, forall_eq, Bool.and_eq_true, hg, Bool.not_false, Bool.not_true, and_self]) rfl rfl ?_; clear hC a; intro a hC
  refine L.or hC rfl rfl rfl rfl (fun _ => All.nil) (fun _ hp => by simp only [All, List.cons_append, List.nil_append, List.append_nil, List.mem_cons, List.not_mem_nil, or_false, forall_eq_or_imp, forall_eq, Bool.and_eq_true, hp, Bool.not_false, Bool.not_true, and_self]) rfl rfl ?_; clear hC a; intro a hC
  refine L.nil ?_
  refine hk3 _ _ ?_; clear hk3; try clear k3
  refine W.cond hC rfl (fun h1 => ?_) (fun h1 => ?_)
  ·
    refine W.seqk fun k4 hk4 => ?_
    refine W.region ?_
    refine L.pu hC rfl rfl (fun _ => All.nil) rfl rfl ?_; clear hC a; intro a hC
    refine L.pu hC rfl rfl (fun _ => All.nil) rfl rfl ?_; clear hC a; intro a hC
    refine L.nil ?_
    refine hk4 _ _ ?_; clear hk4; try clear k4
    refine W.ret ?_
    refine retl hC rfl (.tmp rfl (.tmp rfl .nil)) rfl ?_
    exact ⟨(by unfold shareR; rw [if_pos h1]; try rfl), hC.frm⟩
  ·
    refine W.skip ?_
    refine hk2 _ _ ?_; clear hk2; try clear k2
    refine W.seqk fun k5 hk5 => ?_
    refine W.region ?_
    refine L.pu hC rfl rfl (fun _ => All.nil) rfl rfl ?_; clear hC a; intro a hC
    refine L.bin hC rfl rfl rfl rfl (fun _ => All.nil) (fun _ => All.nil) (fun hg => run_shr (by decide) _) rfl rfl ?_; clear hC a; intro a hC
    refine L.pu hC rfl rfl (fun _ => All.nil) rfl rfl ?_; clear hC a; intro a hC
    refine L.conv hC rfl rfl rfl (fun _ => All.nil) Try.underlying3 Try.underlying61 rfl rfl ?_; clear hC a; intro a hC
    refine L.pu hC rfl rfl (fun _ => All.nil) rfl rfl ?_; clear hC a; intro a hC
    refine L.bin hC rfl rfl rfl rfl (fun _ => All.nil) (fun _ => All.nil) (fun hg => run_shr (by decide) _) rfl rfl ?_; clear hC a; intro a hC
    refine L.conv hC rfl rfl rfl (fun _ => All.nil) Try.underlying61 Try.underlying3 rfl rfl ?_; clear hC a; intro a hC
    refine L.pu hC rfl rfl (fun _ => All.nil) rfl rfl ?_; clear hC a; intro a hC
    refine L.pu hC rfl rfl (fun _ => All.nil) rfl rfl ?_; clear hC a; intro a hC
    refine L.nil ?_
    refine hk5 _ _ ?_; clear hk5; try clear k5
    refine W.ret ?_
    refine retl hC rfl (.tmp rfl (.tmp rfl .nil)) rfl ?_
    exact ⟨(by unfold shareR; rw [if_neg (nt h1)]; rw [← share_eq hx h1]; try rfl), hC.frm⟩

theorem nextr_ok (x : Int) (w0 : World) : Calls Try.prog 159 #[.int .u64 x] w0 fun e w' => e = .returned (.tuple #[.int .u64 (nextS x), .int .u64 (mixU (nextS x))]) ∧ Frm Nob w0 w' := by
  refine enter (μ := []) (S := Nob) (vs := [.int .u64 x]) Try.func159 rfl Try.ntmps159 rfl (Mem.nil _) (by simp) (fun a hC => ?_)
  refine W.seqk fun k1 hk1 => ?_
  refine W.region ?_
  refine L.pu hC rfl rfl (fun _ => All.nil) rfl rfl ?_; clear hC a; intro a hC
  refine L.pu hC rfl rfl (fun _ => All.nil) rfl rfl ?_; clear hC a; intro a hC
  refine L.nil ?_
  refine hk1 _ _ ?_; clear hk1; try clear k1
  refine W.seqk fun k2 hk2 => ?_
  refine W.region ?_
  refine L.pu hC rfl rfl (fun _ => All.nil) rfl rfl ?_; clear hC a; intro a hC
  refine L.pu hC rfl rfl (fun _ => All.nil) rfl rfl ?_; clear hC a; intro a hC
  refine L.pu hC rfl rfl (fun _ => All.nil) rfl rfl ?_; clear hC a; intro a hC
  refine L.pu hC rfl rfl (fun _ => All.nil) rfl rfl ?_; clear hC a; intro a hC
  refine L.call hC rfl rfl Try.call134 rfl (fun _ => All.nil) (fun hg => mixr_ok _ _) rfl rfl ?_; clear hC a; intro a w hF hC
  refine L.pu hC rfl rfl (fun _ => All.nil) rfl rfl ?_; clear hC a; intro a hC
  refine L.pu hC rfl rfl (fun _ => All.nil) rfl rfl ?_; clear hC a; intro a hC
  refine L.nil ?_
  refine hk2 _ _ ?_; clear hk2; try clear k2
  refine W.ret ?_
  refine retl hC rfl (.tmp rfl (.tmp rfl .nil)) rfl ?_
  refine ⟨?_, hC.frm⟩
  rfl

theorem one_ok (s n : Int) (w0 : World) : Calls Try.prog 133 #[.int .u64 s, .int .i64 n] w0 fun e w' => e = .returned (.tuple #[.int .u64 (nextS s), .int .i64 (drawK s n)]) ∧ Frm Nob w0 w' := by
  refine enter (μ := []) (S := Nob) (vs := [.int .u64 s, .int .i64 n]) Try.func133 rfl Try.ntmps133 rfl (Mem.nil _) (by simp) (fun a hC => ?_)
  refine W.seqk fun k1 hk1 => ?_
  refine W.region ?_
  refine L.pu hC rfl rfl (fun _ => All.nil) rfl rfl ?_; clear hC a; intro a hC
  refine L.pu hC rfl rfl (fun _ => All.nil) rfl rfl ?_; clear hC a; intro a hC
  refine L.nil ?_
  refine hk1 _ _ ?_; clear hk1; try clear k1
  refine W.seqk fun k2 hk2 => ?_
  refine W.region ?_
  refine L.pu hC rfl rfl (fun _ => All.nil) rfl rfl ?_; clear hC a; intro a hC
  refine L.call hC rfl rfl Try.call159 rfl (fun _ => All.nil) (fun hg => nextr_ok _ _) rfl rfl ?_; clear hC a; intro a w hF hC
  refine L.pu hC rfl rfl (fun _ => All.nil) rfl rfl ?_; clear hC a; intro a hC
  refine L.pu hC rfl rfl (fun _ => All.nil) rfl rfl ?_; clear hC a; intro a hC
  refine L.pu hC rfl rfl (fun _ => All.nil) rfl rfl ?_; clear hC a; intro a hC
  refine L.pu hC rfl rfl (fun _ => All.nil) rfl rfl ?_; clear hC a; intro a hC
  refine L.pu hC rfl rfl (fun _ => All.nil) rfl rfl ?_; clear hC a; intro a hC
  refine L.nil ?_
  refine hk2 _ _ ?_; clear hk2; try clear k2
  refine W.seqk fun k3 hk3 => ?_
  refine W.region ?_
  refine L.pu hC rfl rfl (fun _ => All.nil) rfl rfl ?_; clear hC a; intro a hC
  refine L.pu hC rfl rfl (fun _ => All.nil) rfl rfl ?_; clear hC a; intro a hC
  refine L.call hC rfl rfl Try.call129 rfl (fun _ => All.nil) (fun hg => sharer_ok _ _ (mixU_in _) _) rfl rfl ?_; clear hC a; intro a w hF hC
  refine L.pu hC rfl rfl (fun _ => All.nil) rfl rfl ?_; clear hC a; intro a hC
  refine L.pu hC rfl rfl (fun _ => All.nil) rfl rfl ?_; clear hC a; intro a hC
  refine L.pu hC rfl rfl (fun _ => All.nil) rfl rfl ?_; clear hC a; intro a hC
  refine L.pu hC rfl rfl (fun _ => All.nil) rfl rfl ?_; clear hC a; intro a hC
  refine L.pu hC rfl rfl (fun _ => All.nil) rfl rfl ?_; clear hC a; intro a hC
  refine L.nil ?_
  refine hk3 _ _ ?_; clear hk3; try clear k3
  refine W.seqk fun k4 hk4 => ?_
  refine W.region ?_
  refine L.pu hC rfl rfl (fun _ => All.nil) rfl rfl ?_; clear hC a; intro a hC
  refine L.pu hC rfl rfl (fun _ => All.nil) rfl rfl ?_; clear hC a; intro a hC
  refine L.pu hC rfl rfl (fun _ => All.nil) rfl rfl ?_; clear hC a; intro a hC
  refine L.pu hC rfl rfl (fun _ => All.nil) rfl rfl ?_; clear hC a; intro a hC
  refine L.nil ?_
  refine hk4 _ _ ?_; clear hk4; try clear k4
  refine W.ret ?_
  refine retl hC rfl (.tmp rfl (.tmp rfl .nil)) rfl ?_
  refine ⟨?_, hC.frm⟩
  rfl

theorem shuffler_ok (s n0 : Int) (w0 : World) : Calls Try.prog 95 #[.int .u64 s, .int .i64 n0] w0 fun e w' => ∃ r : Value, e = .returned (.tuple #[.int .u64 (shufR s n0).1, r, .int .i64 (shufR s n0).2.2]) ∧ True ∧ Post Nob [ownR r 3 intE (shufR s n0).2.1] w0 w' := by
  refine enter (μ := []) (S := Nob) (vs := [.int .u64 s, .int .i64 n0]) Try.func95 rfl Try.ntmps95 rfl (Mem.nil _) (by simp) (fun a hC => ?_)
  refine W.seqk fun k1 hk1 => ?_
  refine W.region ?_
  refine L.pu hC rfl rfl (fun _ => All.nil) rfl rfl ?_; clear hC a; intro a hC
  refine L.pu hC rfl rfl (fun _ => All.nil) rfl rfl ?_; clear hC a; intro a hC
  refine L.pu hC rfl rfl (fun _ => All.nil) rfl rfl ?_; clear hC a; intro a hC
  refine L.nil ?_
  refine hk1 _ _ ?_; clear hk1; try clear k1
  refine W.seqk fun k2 hk2 => ?_
  refine W.seqk fun k3 hk3 => ?_
  refine W.region ?_
  refine L.pu hC rfl rfl (fun _ => All.nil) rfl rfl ?_; clear hC a; intro a hC
  refine L.pu hC rfl rfl (fun _ => All.nil) rfl rfl ?_; clear hC a; intro a hC
  refine L.pu hC rfl rfl (fun _ => All.nil) rfl rfl ?_; clear hC a; intro a hC
  refine L.pu hC rfl rfl (fun _ => All.nil) rfl rfl ?_; clear hC a; intro a hC
  refine L.pu hC rfl rfl (fun hg => by simp only [Gt, Bool.and_eq_true] at hg; simp only [All, List.cons_append, List.nil_append, List.append_nil, List.mem_cons, List.not_mem_nil, or_false, forall_eq_or_imp, forall_eq, Bool.and_eq_true, hg, Bool.not_false, Bool.not_true, and_self]) rfl rfl ?_; clear hC a; intro a hC
  refine L.or hC rfl rfl rfl rfl (fun _ => All.nil) (fun _ hp => by simp only [All, List.cons_append, List.nil_append, List.append_nil, List.mem_cons, List.not_mem_nil, or_false, forall_eq_or_imp, forall_eq, Bool.and_eq_true, hp, Bool.not_false, Bool.not_true, and_self]) rfl rfl ?_; clear hC a; intro a hC
  refine L.nil ?_
  refine hk3 _ _ ?_; clear hk3; try clear k3
  refine W.cond hC rfl (fun h1 => ?_) (fun h1 => ?_)
  ·
    refine W.seqk fun k4 hk4 => ?_
    refine W.region ?_
    refine L.pu hC rfl rfl (fun _ => All.nil) rfl rfl ?_; clear hC a; intro a hC
    refine L.pu hC rfl rfl (fun _ => All.nil) rfl rfl ?_; clear hC a; intro a hC
    refine L.pu hC rfl rfl (fun _ => All.nil) rfl rfl ?_; clear hC a; intro a hC
    refine L.nil ?_
    refine hk4 _ _ ?_; clear hk4; try clear k4
    refine W.ret ?_
    refine retl hC rfl (.tmp rfl (.tmp rfl (.tmp rfl .nil))) rfl ?_
    replace hC := (hC.drop).nilown (ty := 3) (E := intE)
    exact ⟨_, by unfold shufR; rw [if_pos h1], trivial, by unfold shufR; rw [if_pos h1]; exact hC.toPost (by simp [ownR])⟩
  ·
    obtain ⟨n, hn, hn2⟩ := shuf_n h1
    subst hn
    refine W.skip ?_
    refine hk2 _ _ ?_; clear hk2; try clear k2
    refine W.seqk fun k5 hk5 => ?_
    refine W.region ?_
    refine L.pu hC rfl rfl (fun _ => All.nil) rfl rfl ?_; clear hC a; intro a hC
    refine L.nil ?_
    refine hk5 _ _ ?_; clear hk5; try clear k5
    refine W.seqk fun k6 hk6 => ?_
    refine W.seqk fun k7 hk7 => ?_
    refine W.region ?_
    refine L.pu hC rfl rfl (fun _ => All.nil) rfl rfl ?_; clear hC a; intro a hC
    refine L.nil ?_
    refine hk7 _ _ ?_; clear hk7; try clear k7
    refine W.block ?_
    replace hC := hC.nilown (ty := 3) (E := intE)
    refine W.loop (fun (gst : Nat × Value) a w' => match gst with | ⟨j, ov⟩ => (j ≤ n) ∧ Conf 55 Nob w0 [(8, (none, .int .i64 (j : Int))), (1, (none, .int .i64 (n : Int))), (7, (none, ov)), (0, (none, .int .u64 s))] [ownR ov 3 intE (upI j)] a w') (fun (gst : Nat × Value) => match gst with | ⟨j, ov⟩ => n - j) (0, .slice none 0 0) ?_ ?_
    · exact ⟨Nat.zero_le _, hC.keep ⟨rfl, rfl, rfl, rfl, trivial⟩⟩
    · rintro ⟨j, ov⟩ a w ⟨hj, hC⟩
      refine W.seqk fun k8 hk8 => ?_
      refine W.seqk fun k9 hk9 => ?_
      refine W.region ?_
      refine L.pu hC rfl rfl (fun _ => All.nil) rfl rfl ?_; clear hC a; intro a hC
      refine L.pu hC rfl rfl (fun _ => All.nil) rfl rfl ?_; clear hC a; intro a hC
      refine L.pu hC rfl rfl (fun _ => All.nil) rfl rfl ?_; clear hC a; intro a hC
      refine L.nil ?_
      refine hk9 _ _ ?_; clear hk9; try clear k9
      refine W.cond hC rfl (fun h2 => ?_) (fun h2 => ?_)
      ·
        have h2 := of_decide_eq_true h2
        refine W.skip ?_
        refine hk8 _ _ ?_; clear hk8; try clear k8
        refine W.seqk fun k10 hk10 => ?_
        refine W.block ?_
        refine W.region ?_
        refine L.pu hC rfl rfl (fun _ => All.nil) rfl rfl ?_; clear hC a; intro a hC
        refine L.pu hC rfl rfl (fun _ => All.nil) rfl rfl ?_; clear hC a; intro a hC
        refine L.bsP hC rfl rfl rfl Try.underlying37 Try.infoI3 rfl rfl rfl rfl rfl rfl rfl ?_; clear hC a; intro b1 a w hF hC
        replace hC := hC.fr1
        refine L.app (xs := [(j : Int)]) hC rfl rfl rfl rfl ⟨_, _, rfl, lit_cells (hC.at m1) rfl⟩ Try.underlying37 Try.infoI3 rfl (by rw [upI_len]; simp; omega) (by rw [upI_len]; simp; omega) rfl rfl ?_; clear hC a; intro v2 a w hF hC
        refine L.pu hC rfl rfl (fun _ => All.nil) rfl rfl ?_; clear hC a; intro a hC
        refine L.nil ?_
        refine hk10 _ _ ?_; clear hk10; try clear k10
        refine W.region ?_
        refine L.pu hC rfl rfl (fun _ => All.nil) rfl rfl ?_; clear hC a; intro a hC
        refine L.pu hC rfl rfl (fun _ => All.nil) rfl rfl ?_; clear hC a; intro a hC
        refine L.pu hC rfl rfl (fun _ => All.nil) rfl rfl ?_; clear hC a; intro a hC
        refine L.nil ?_
        replace hC := hC.subl (.cons_cons _ (.cons _ .slnil))
        replace hC := hC.hd (r' := ownR v2 3 intE (upI (j + 1))) (by rw [upI_snoc])
        exact ⟨(j + 1, v2), ⟨by omega, hC.keep ⟨geti rfl (w64 (by omega)), rfl, rfl, rfl, trivial⟩⟩, by first | omega | (dsimp only; omega)⟩
      ·
        have h2 := of_decide_eq_false h2
        refine W.exit ?_
        refine Kb.here ?_
        refine hk6 _ _ ?_; clear hk6; try clear k6
        refine W.seqk fun k11 hk11 => ?_
        refine W.seqk fun k12 hk12 => ?_
        refine W.region ?_
        refine L.pu hC rfl rfl (fun _ => All.nil) rfl rfl ?_; clear hC a; intro a hC
        refine L.pu hC rfl rfl (fun _ => All.nil) rfl rfl ?_; clear hC a; intro a hC
        refine L.pu hC rfl rfl (fun _ => All.nil) rfl rfl ?_; clear hC a; intro a hC
        refine L.nil ?_
        refine hk12 _ _ ?_; clear hk12; try clear k12
        refine W.block ?_
        have hjn : j = n := by omega
        subst hjn
        refine W.loop (fun (gst : Nat × Int × List Int) a w' => match gst with | ⟨m, t, l⟩ => (m ≤ j) ∧ (l.length = j) ∧ (shuf m t l = shuf j s (upI j)) ∧ Conf 55 Nob w0 [(9, (none, .int .i64 ((m : Int) - 1))), (7, (none, ov)), (0, (none, .int .u64 t))] [ownR ov 3 intE l] a w') (fun (gst : Nat × Int × List Int) => match gst with | ⟨m, t, l⟩ => m) (j, s, upI j) ?_ ?_
        · exact ⟨Nat.le_refl _, upI_len _, rfl, hC.keep ⟨geti rfl (w64 (by omega)), rfl, rfl, trivial⟩⟩
        · rintro ⟨m, t, l⟩ a w ⟨hm, hl, hs, hC⟩
          refine W.seqk fun k13 hk13 => ?_
          refine W.seqk fun k14 hk14 => ?_
          refine W.region ?_
          refine L.pu hC rfl rfl (fun _ => All.nil) rfl rfl ?_; clear hC a; intro a hC
          refine L.pu hC rfl rfl (fun _ => All.nil) rfl rfl ?_; clear hC a; intro a hC
          refine L.nil ?_
          refine hk14 _ _ ?_; clear hk14; try clear k14
          refine W.cond hC rfl (fun h3 => ?_) (fun h3 => ?_)
          ·
            have h3 := of_decide_eq_true h3
            refine W.skip ?_
            refine hk13 _ _ ?_; clear hk13; try clear k13
            refine W.seqk fun k15 hk15 => ?_
            refine W.block ?_
            refine W.seqk fun k16 hk16 => ?_
            refine W.region ?_
            refine L.pu hC rfl rfl (fun _ => All.nil) rfl rfl ?_; clear hC a; intro a hC
            refine L.nil ?_
            refine hk16 _ _ ?_; clear hk16; try clear k16
            refine W.seqk fun k17 hk17 => ?_
            refine W.region ?_
            refine L.pu hC rfl rfl (fun _ => All.nil) rfl rfl ?_; clear hC a; intro a hC
            refine L.pu hC rfl rfl (fun _ => All.nil) rfl rfl ?_; clear hC a; intro a hC
            refine L.pu hC rfl rfl (fun _ => All.nil) rfl rfl ?_; clear hC a; intro a hC
            replace hC := hC.slot (d := 35) (geti (b := (m : Int)) rfl (by rw [w64 (by omega)]; omega))
            refine L.call hC rfl rfl Try.call133 rfl (fun _ => All.nil) (fun hg => one_ok _ _ _) rfl rfl ?_; clear hC a; intro a w hF hC
            refine L.pu hC rfl rfl (fun _ => All.nil) rfl rfl ?_; clear hC a; intro a hC
            refine L.pu hC rfl rfl (fun _ => All.nil) rfl rfl ?_; clear hC a; intro a hC
            refine L.pu hC rfl rfl (fun _ => All.nil) rfl rfl ?_; clear hC a; intro a hC
            refine L.pu hC rfl rfl (fun _ => All.nil) rfl rfl ?_; clear hC a; intro a hC
            refine L.pu hC rfl rfl (fun _ => All.nil) rfl rfl ?_; clear hC a; intro a hC
            have hk := drawK_lt t (n := m) (by omega) (by omega)
            replace hC := hC.slot (d := 9) (geti (b := ((m - 1 : Nat) : Int)) rfl (by omega))
            replace hC := hC.slot (d := 10) (geti (b := ((drawK t m).toNat : Int)) rfl (by omega))
            have hkn : (drawK t m).toNat < m := by omega
            obtain ⟨kk, hkk⟩ : ∃ kk, (drawK t m).toNat = kk := ⟨_, rfl⟩
            rw [hkk] at hkn hC
            refine L.nil ?_
            refine hk17 _ _ ?_; clear hk17; try clear k17
            refine W.drawN (fun c' _ => match c' with | 0 => [ownR ov 3 intE l] | 1 => [ownR ov 3 intE (l.set (m - 1) l[kk]!)] | _ => [ownR ov 3 intE (swpI l (m - 1) kk)]) undef hC Try.mixed rfl rfl ?_
            apply ERN.q (.det _ _) 0 rfl rfl
            · intro c' γ hle
              obtain rfl := (by omega : c' = 0)
              · intro a w hC
                refine L.pu hC rfl rfl (fun _ => All.nil) rfl rfl ?_; clear hC a; intro a hC
                exact L.nil ⟨⟨_, [], hC⟩, Frm.refl _ _⟩
            apply ERN.q (.det _ _) 0 rfl rfl
            · intro c' γ hle
              obtain rfl := (by omega : c' = 0)
              · intro a w hC
                refine L.pu hC rfl rfl (fun _ => All.nil) rfl rfl ?_; clear hC a; intro a hC
                exact L.nil ⟨⟨_, [], hC⟩, Frm.refl _ _⟩
            apply ERN.q (.det _ _) 1 rfl rfl
            · intro c' γ hle
              obtain rfl | rfl := (by omega : c' = 0 ∨ c' = 1)
              · intro a w hC
                refine L.pu hC rfl rfl (fun _ => All.nil) rfl rfl ?_; clear hC a; intro a hC
                exact L.nil ⟨⟨_, [], hC⟩, Frm.refl _ _⟩
              · intro a w hC
                refine L.pu hC rfl rfl (fun _ => All.nil) rfl rfl ?_; clear hC a; intro a hC
                exact L.nil ⟨⟨_, [], hC⟩, Frm.refl _ _⟩
            apply ERN.q (.det _ _) 1 rfl rfl
            · intro c' γ hle
              obtain rfl | rfl := (by omega : c' = 0 ∨ c' = 1)
              · intro a w hC
                refine L.pu hC rfl rfl (fun _ => All.nil) rfl rfl ?_; clear hC a; intro a hC
                exact L.nil ⟨⟨_, [], hC⟩, Frm.refl _ _⟩
              · intro a w hC
                refine L.pu hC rfl rfl (fun _ => All.nil) rfl rfl ?_; clear hC a; intro a hC
                exact L.nil ⟨⟨_, [], hC⟩, Frm.refl _ _⟩
            apply ERN.q (.det _ _) 0 rfl rfl
            · intro c' γ hle
              obtain rfl := (by omega : c' = 0)
              · intro a w hC
                refine L.pu hC rfl rfl (fun _ => All.nil) rfl rfl ?_; clear hC a; intro a hC
                exact L.nil ⟨⟨_, [], hC⟩, Frm.refl _ _⟩
            apply ERN.q (.det _ _) 0 rfl rfl
            · intro c' γ hle
              obtain rfl := (by omega : c' = 0)
              · intro a w hC
                refine L.pu hC rfl rfl (fun _ => All.nil) rfl rfl ?_; clear hC a; intro a hC
                exact L.nil ⟨⟨_, [], hC⟩, Frm.refl _ _⟩
            apply ERN.q (.det _ _) 0 rfl rfl
            · intro c' γ hle
              obtain rfl := (by omega : c' = 0)
              · intro a w hC
                refine L.ixo hC rfl rfl rfl rfl m0 (fun _ => All.nil) (fun _ => All.nil) Try.underlying37 Try.sizeOf3 (fun _ => by first | omega | (simp only [List.length_set]; omega)) rfl rfl ?_; clear hC a; intro a hC
                exact L.nil ⟨⟨_, [], hC⟩, Frm.refl _ _⟩
            apply ERN.q (.det _ _) 0 rfl rfl
            · intro c' γ hle
              obtain rfl := (by omega : c' = 0)
              · intro a w hC
                refine L.ldx hC rfl rfl rfl rfl (fun _ => All.nil) (fun hg => own_bang hC m0 (by first | omega | (simp only [List.length_set]; omega)) _) Try.isAgg3 rfl rfl rfl ?_; clear hC a; intro a hC
                exact L.nil ⟨⟨_, [], hC⟩, Frm.refl _ _⟩
            apply ERN.q (.det _ _) 1 rfl rfl
            · intro c' γ hle
              obtain rfl | rfl := (by omega : c' = 0 ∨ c' = 1)
              · intro a w hC
                refine L.pu hC rfl rfl (fun _ => All.nil) rfl rfl ?_; clear hC a; intro a hC
                exact L.nil ⟨⟨_, [], hC⟩, Frm.refl _ _⟩
              · intro a w hC
                refine L.pu hC rfl rfl (fun _ => All.nil) rfl rfl ?_; clear hC a; intro a hC
                exact L.nil ⟨⟨_, [], hC⟩, Frm.refl _ _⟩
            apply ERN.q (.det _ _) 1 rfl rfl
            · intro c' γ hle
              obtain rfl | rfl := (by omega : c' = 0 ∨ c' = 1)
              · intro a w hC
                refine L.pu hC rfl rfl (fun _ => All.nil) rfl rfl ?_; clear hC a; intro a hC
                exact L.nil ⟨⟨_, [], hC⟩, Frm.refl _ _⟩
              · intro a w hC
                refine L.pu hC rfl rfl (fun _ => All.nil) rfl rfl ?_; clear hC a; intro a hC
                exact L.nil ⟨⟨_, [], hC⟩, Frm.refl _ _⟩
            apply ERN.q (.det _ _) 1 rfl rfl
            · intro c' γ hle
              obtain rfl | rfl := (by omega : c' = 0 ∨ c' = 1)
              · intro a w hC
                refine L.ixo hC rfl rfl rfl rfl m0 (fun _ => All.nil) (fun _ => All.nil) Try.underlying37 Try.sizeOf3 (fun _ => by first | omega | (simp only [List.length_set]; omega)) rfl rfl ?_; clear hC a; intro a hC
                exact L.nil ⟨⟨_, [], hC⟩, Frm.refl _ _⟩
              · intro a w hC
                refine L.ixo hC rfl rfl rfl rfl m0 (fun _ => All.nil) (fun _ => All.nil) Try.underlying37 Try.sizeOf3 (fun _ => by first | omega | (simp only [List.length_set]; omega)) rfl rfl ?_; clear hC a; intro a hC
                exact L.nil ⟨⟨_, [], hC⟩, Frm.refl _ _⟩
            apply ERN.q (.det _ _) 0 rfl rfl
            · intro c' γ hle
              obtain rfl := (by omega : c' = 0)
              · intro a w hC
                refine L.ldx hC rfl rfl rfl rfl (fun _ => All.nil) (fun hg => own_bang hC m0 (by first | omega | (simp only [List.length_set]; omega)) _) Try.isAgg3 rfl rfl rfl ?_; clear hC a; intro a hC
                exact L.nil ⟨⟨_, [], hC⟩, Frm.refl _ _⟩
            apply ERN.q (.det _ _) 0 rfl rfl
            · intro c' γ hle
              obtain rfl := (by omega : c' = 0)
              · intro a w hC
                refine L.ixo hC rfl rfl rfl rfl m0 (fun _ => All.nil) (fun _ => All.nil) Try.underlying37 Try.sizeOf3 (fun _ => by first | omega | (simp only [List.length_set]; omega)) rfl rfl ?_; clear hC a; intro a hC
                exact L.nil ⟨⟨_, [], hC⟩, Frm.refl _ _⟩
            apply ERN.f false (fun h => by cases h) rfl rfl
            · intro γ a w hC
              refine L.ste hC rfl rfl rfl rfl rfl Try.sizeOf3 rfl rfl rfl (by first | omega | (simp only [List.length_set]; omega)) (Nat.le_of_ble_eq_true rfl) (x' := l[kk]!) rfl rfl ?_; clear hC a; intro a w hF hC
              exact L.nil ⟨γ, _, fun _ => rfl, trivial, hC, hF⟩
            apply ERN.q (.det _ _) 1 rfl rfl
            · intro c' γ hle
              obtain rfl | rfl := (by omega : c' = 0 ∨ c' = 1)
              · intro a w hC
                refine L.ixo hC rfl rfl rfl rfl m0 (fun _ => All.nil) (fun _ => All.nil) Try.underlying37 Try.sizeOf3 (fun _ => by first | omega | (simp only [List.length_set]; omega)) rfl rfl ?_; clear hC a; intro a hC
                exact L.nil ⟨⟨_, [], hC⟩, Frm.refl _ _⟩
              · intro a w hC
                refine L.ixo hC rfl rfl rfl rfl m0 (fun _ => All.nil) (fun _ => All.nil) Try.underlying37 Try.sizeOf3 (fun _ => by first | omega | (simp only [List.length_set]; omega)) rfl rfl ?_; clear hC a; intro a hC
                exact L.nil ⟨⟨_, [], hC⟩, Frm.refl _ _⟩
            apply ERN.f false (fun h => by cases h) rfl rfl
            · intro γ a w hC
              refine L.ste hC rfl rfl rfl rfl rfl Try.sizeOf3 rfl rfl rfl (by first | omega | (simp only [List.length_set]; omega)) (Nat.le_of_ble_eq_true rfl) (x' := l[m - 1]!) rfl rfl ?_; clear hC a; intro a w hF hC
              exact L.nil ⟨γ, _, fun _ => rfl, trivial, hC, hF⟩
            refine ERN.nil ?_
            intro γ w' a w hC hw
            subst hw
            refine hk15 _ _ ?_; clear hk15; try clear k15
            refine W.region ?_
            refine L.pu hC rfl rfl (fun _ => All.nil) rfl rfl ?_; clear hC a; intro a hC
            refine L.pu hC rfl rfl (fun _ => All.nil) rfl rfl ?_; clear hC a; intro a hC
            refine L.pu hC rfl rfl (fun _ => All.nil) rfl rfl ?_; clear hC a; intro a hC
            refine L.nil ?_
            exact ⟨(m - 1, nextS t, swpI l (m - 1) kk), ⟨by omega, by simp only [swpI, List.length_set]; exact hl, by rw [← hs, shuf_step (m := m) (by omega), hkk, swpI_comm (by omega) (by omega)], hC.keep ⟨geti rfl (w64 (by omega)), rfl, rfl, trivial⟩⟩, by first | omega | (dsimp only; omega)⟩
          ·
            have h3 := of_decide_eq_false h3
            refine W.exit ?_
            refine Kb.here ?_
            refine hk11 _ _ ?_; clear hk11; try clear k11
            refine W.seqk fun k18 hk18 => ?_
            refine W.region ?_
            refine L.pu hC rfl rfl (fun _ => All.nil) rfl rfl ?_; clear hC a; intro a hC
            refine L.pu hC rfl rfl (fun _ => All.nil) rfl rfl ?_; clear hC a; intro a hC
            refine L.pu hC rfl rfl (fun _ => All.nil) rfl rfl ?_; clear hC a; intro a hC
            refine L.pu hC rfl rfl (fun _ => All.nil) rfl rfl ?_; clear hC a; intro a hC
            refine L.pu hC rfl rfl (fun _ => All.nil) rfl rfl ?_; clear hC a; intro a hC
            refine L.nil ?_
            refine hk18 _ _ ?_; clear hk18; try clear k18
            refine W.ret ?_
            have e : shufR s (j : Int) = (t, l, 0) := by
              unfold shufR; rw [if_neg (nt h1), Int.toNat_natCast, ← hs, shuf_end (by omega)]
            refine retl hC rfl (.tmp rfl (.tmp rfl (.tmp rfl .nil))) rfl ?_
            exact ⟨_, by rw [e]; try rfl, trivial, by rw [e]; exact hC.toPost (by simp [ownR])⟩

end Go.Proofs.E
