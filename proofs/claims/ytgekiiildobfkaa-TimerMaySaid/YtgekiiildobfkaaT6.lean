/- Part of the proof: what the functions of this program compute. -/
import Derived.Test.YtgekiiildobfkaaT5
set_option linter.unusedVariables false
set_option linter.unusedSimpArgs false
namespace Go.Proofs.E
open Go.RowKit
theorem geti {ρ : Env} {i : Nat} {k : IntKind} {a b : Int} {g : Option Bool} (h : ρ.get i = some (g, .int k a)) (e : a = b) : ρ.get i = some (g, .int k b) := by rw [h, e]
theorem hpar {i : Nat} (h : 0 < i) (hb : i ≤ 9223372036854775807) : IntKind.i64.wrap ((IntKind.i64.wrap ((i : Int) - 1)).tdiv 2) = (((i - 1) / 2 : Nat) : Int) := by
  rw [w64 (x := (i : Int) - 1) (by omega), Int.tdiv_eq_ediv_of_nonneg (by omega), w64 (by omega)]
  omega
def siftUp (l : List (Int × Int)) (i : Nat) : List (Int × Int) :=
  if h : 0 < i then (if ordI l[i]! l[(i - 1) / 2]! < 0 then siftUp (swp l i ((i - 1) / 2)) ((i - 1) / 2) else l) else l
termination_by i
decreasing_by omega
def pushH (l : List (Int × Int)) (x : Int × Int) : List (Int × Int) := siftUp (l ++ [x]) l.length
theorem siftUp_step {l : List (Int × Int)} {i : Nat} (h : (decide ((i : Int) > 0) && decide (ordI l[i]! l[(i - 1) / 2]! < 0)) = true) : siftUp l i = siftUp (swp l i ((i - 1) / 2)) ((i - 1) / 2) := by
  rw [Bool.and_eq_true, decide_eq_true_eq, decide_eq_true_eq] at h
  rw [siftUp, dif_pos (by omega), if_pos h.2]
theorem siftUp_stop {l : List (Int × Int)} {i : Nat} (h : (decide ((i : Int) > 0) && decide (ordI l[i]! l[(i - 1) / 2]! < 0)) = false) : siftUp l i = l := by
  rw [siftUp]
  split
  · split
    · rw [Bool.and_eq_false_iff, decide_eq_false_iff_not, decide_eq_false_iff_not] at h
      rcases h with h | h
      · omega
      · contradiction
    · rfl
  · rfl
def aheadR (x y : Int × Int) : Bool := decide (x.1 < y.1) || (x.1 == y.1 && decide (x.2 < y.2))
theorem push_ok (b : Nat) (v : Value) (l : List (Int × Int)) (x : Int × Int) (w0 : World) (hM : Mem [blkR b [v] 126, ownR v 25 timE l] w0) (hl : l.length ≤ 1000000) : Calls Try.prog 71 #[.pointer (some ⟨b, 0, none⟩), .agg (timE.enc x).toArray] w0 fun e w' => ∃ v' : Value, e = .returned (.tuple #[]) ∧ True ∧ Post (fun c => c = b ∨ v.ownBlock = some c) [blkR b [v'] 126, ownR v' 25 timE (pushH l x)] w0 w' := by
  refine enter (μ := [blkR b [v] 126, ownR v 25 timE l]) (S := (fun c => c = b ∨ v.ownBlock = some c)) (vs := [.pointer (some ⟨b, 0, none⟩), .agg (timE.enc x).toArray]) Try.func71 rfl Try.ntmps71 rfl hM (by simp [ownR, blkR]; intro c h; exact .inr h) (fun a hC => ?_)
  refine W.seqk fun k1 hk1 => ?_
  refine W.region ?_
  refine L.box hC rfl rfl rfl rfl rfl rfl ?_; clear hC a; intro tb a w hF hC
  refine L.nil ?_
  refine hk1 _ _ ?_; clear hk1; try clear k1
  refine W.seqk fun k2 hk2 => ?_
  replace hC := hC.fr2
  refine W.drawN (fun c γ => match c with | 0 => [ownR v 25 timE l, blkR tb (timE.enc x) 25, blkR b [v] 126] | 1 => [ownR γ 25 timE (l ++ [x]), blkR tb (timE.enc x) 25, blkR b [v] 126] | _ => [blkR b [γ] 126, ownR γ 25 timE (l ++ [x]), blkR tb (timE.enc x) 25]) undef hC Try.mixed rfl rfl ?_
  apply ERN.q (.det _ _) 1 rfl rfl
  · intro c' γ hle
    obtain rfl | rfl := (by omega : c' = 0 ∨ c' = 1)
    · intro a w hC
      refine L.pu hC rfl rfl (fun _ => All.nil) rfl rfl ?_; clear hC a; intro a hC
      exact L.nil ⟨⟨_, [], hC⟩, Frm.refl _ _⟩
    · intro a w hC
      refine L.pu hC rfl rfl (fun _ => All.nil) rfl rfl ?_; clear hC a; intro a hC
      exact L.nil ⟨⟨_, [], hC⟩, Frm.refl _ _⟩
  apply ERN.q (.det _ _) 1 rfl rfl
  · intro c' γ hle
    obtain rfl | rfl := (by omega : c' = 0 ∨ c' = 1)
    · intro a w hC
      refine L.pu hC rfl rfl (fun _ => All.nil) rfl rfl ?_; clear hC a; intro a hC
      exact L.nil ⟨⟨_, [], hC⟩, Frm.refl _ _⟩
    · intro a w hC
      refine L.pu hC rfl rfl (fun _ => All.nil) rfl rfl ?_; clear hC a; intro a hC
      exact L.nil ⟨⟨_, [], hC⟩, Frm.refl _ _⟩
  apply ERN.q (.det _ _) 1 rfl rfl
  · intro c' γ hle
    obtain rfl | rfl := (by omega : c' = 0 ∨ c' = 1)
    · intro a w hC
      refine L.pu hC rfl rfl (fun _ => All.nil) rfl rfl ?_; clear hC a; intro a hC
      exact L.nil ⟨⟨_, [], hC⟩, Frm.refl _ _⟩
    · intro a w hC
      refine L.pu hC rfl rfl (fun _ => All.nil) rfl rfl ?_; clear hC a; intro a hC
      exact L.nil ⟨⟨_, [], hC⟩, Frm.refl _ _⟩
  apply ERN.q (.det _ _) 0 rfl rfl
  · intro c' γ hle
    obtain rfl := (by omega : c' = 0)
    · intro a w hC
      refine L.ld hC rfl rfl rfl (fun _ => All.nil) m2 Try.isAgg126 rfl rfl rfl ?_; clear hC a; intro a hC
      exact L.nil ⟨⟨_, [], hC⟩, Frm.refl _ _⟩
  apply ERN.q (.det _ _) 1 rfl rfl
  · intro c' γ hle
    obtain rfl | rfl := (by omega : c' = 0 ∨ c' = 1)
    · intro a w hC
      refine L.lda hC rfl rfl rfl (fun _ => All.nil) m1 Try.isAgg25 Try.sizeOf25 rfl rfl rfl rfl ?_; clear hC a; intro a hC
      exact L.nil ⟨⟨_, [], hC⟩, Frm.refl _ _⟩
    · intro a w hC
      refine L.lda hC rfl rfl rfl (fun _ => All.nil) m1 Try.isAgg25 Try.sizeOf25 rfl rfl rfl rfl ?_; clear hC a; intro a hC
      exact L.nil ⟨⟨_, [], hC⟩, Frm.refl _ _⟩
  apply ERN.q (.lit _ _ fun v => rdR v timE _) 0 rfl rfl
  · intro c' γ hle
    obtain rfl := (by omega : c' = 0)
    · intro a w hC
      refine L.bsP hC rfl rfl rfl Try.underlying126 Try.infoI25 rfl rfl rfl rfl rfl rfl rfl ?_; clear hC a; intro b1 a w hF hC
      replace hC := hC.litrd (E := timE) [x] rfl (Nat.le_of_ble_eq_true rfl)
      exact L.nil ⟨⟨_, _, [], fun _ h => h.2, hC⟩, hF⟩
  apply ERN.f true (fun h => rfl) rfl rfl
  · intro γ v5 a w hC
    replace hC := hC.fr1
    refine L.appr hC rfl rfl rfl rfl (hC.at m1 trivial) Try.underlying126 Try.infoI25 rfl (by simp; omega) (by simp; omega) rfl rfl ?_; clear hC a; intro v2 a w hF hC
    exact L.nil ⟨v2, _, (fun h => by cases h), (hC.env.vals 11 (none, v2) rfl), hC.dr1, hF.dr1 (fun _ h => h.2)⟩
  apply ERN.q (.det _ _) 1 rfl rfl
  · intro c' γ hle
    obtain rfl | rfl := (by omega : c' = 0 ∨ c' = 1)
    · intro v5 a w hC
      refine L.pu hC rfl rfl (fun _ => All.nil) rfl rfl ?_; clear hC a; intro a hC
      exact L.nil ⟨⟨_, [_], hC⟩, Frm.refl _ _⟩
    · intro v5 a w hC
      refine L.pu hC rfl rfl (fun _ => All.nil) rfl rfl ?_; clear hC a; intro a hC
      exact L.nil ⟨⟨_, [_], hC⟩, Frm.refl _ _⟩
  apply ERN.f false (fun h => by cases h) rfl rfl
  · intro γ v5 a w hC
    replace hC := hC.fr3
    refine L.st hC rfl rfl rfl rfl Try.sizeOf126 (cells_sl (own_form (hC.at m2))) rfl (one_sl (own_form (hC.at m2))) rfl rfl ?_; clear hC a; intro a w hF hC
    exact L.nil ⟨γ, _, fun _ => rfl, trivial, hC.dr1, ((hF.dr1 (fun _ h => h.2)).perm pf2.symm (List.Perm.refl _))⟩
  refine ERN.nil ?_
  intro γ w' v5 a w hC hw
  subst hw
  replace hC := hC.tail
  replace hC := hC.dr2
  refine hk2 _ _ ?_; clear hk2; try clear k2
  refine W.seqk fun k3 hk3 => ?_
  refine W.region ?_
  refine L.pu hC rfl rfl (fun _ => All.nil) rfl rfl ?_; clear hC a; intro a hC
  refine L.pu hC rfl rfl (fun _ => All.nil) rfl rfl ?_; clear hC a; intro a hC
  refine L.ld hC rfl rfl rfl (fun _ => All.nil) m0 Try.isAgg126 rfl rfl rfl ?_; clear hC a; intro a hC
  refine L.len hC rfl rfl rfl (fun _ => All.nil) (own_form (hC.at m1)) Try.underlying126 rfl rfl ?_; clear hC a; intro a hC
  refine L.pu hC rfl rfl (fun _ => All.nil) rfl rfl ?_; clear hC a; intro a hC
  refine L.pu hC rfl rfl (fun _ => All.nil) rfl rfl ?_; clear hC a; intro a hC
  refine L.nil ?_
  refine hk3 _ _ ?_; clear hk3; try clear k3
  refine W.block ?_
  refine W.loop (fun (s : Value × (List (Int × Int)) × Nat) a w' => match s with | ⟨v', l', i⟩ => (i < l'.length) ∧ (l'.length = l.length + 1) ∧ (siftUp l' i = pushH l x) ∧ Conf 41 (fun c => c = b ∨ v.ownBlock = some c) w0 [(4, (none, .int .i64 (i : Int))), (0, (none, .pointer (some ⟨b, 0, none⟩)))] [blkR b [v'] 126, ownR v' 25 timE l'] a w') (fun (s : Value × (List (Int × Int)) × Nat) => match s with | ⟨v', l', i⟩ => i) (γ, l ++ [x], l.length) ?_ ?_
  · exact ⟨by simp, by simp, rfl, hC.keep ⟨geti rfl (by rw [w64 (by simp; omega)]; simp), rfl, trivial⟩⟩
  · rintro ⟨v', l', i⟩ a w ⟨hi, hn, hp, hC⟩
    have hl' := own_lt (hC.at m1)
    refine W.seqk fun k4 hk4 => ?_
    refine W.seqk fun k5 hk5 => ?_
    refine W.region ?_
    refine L.pu hC rfl rfl (fun _ => All.nil) rfl rfl ?_; clear hC a; intro a hC
    refine L.pu hC rfl rfl (fun _ => All.nil) rfl rfl ?_; clear hC a; intro a hC
    refine L.pu hC rfl rfl (fun _ => All.nil) rfl rfl ?_; clear hC a; intro a hC
    refine L.pu hC rfl rfl (fun _ => All.nil) rfl rfl ?_; clear hC a; intro a hC
    refine L.pu hC rfl rfl (fun hg => by simp only [Gt, Bool.and_eq_true] at hg; simp only [All, List.cons_append, List.nil_append, List.append_nil, List.mem_cons, List.not_mem_nil, or_false, forall_eq_or_imp, forall_eq, Bool.and_eq_true, hg, Bool.not_false, Bool.not_true, and_self]) rfl rfl ?_; clear hC a; intro a hC
    refine L.ld hC rfl rfl rfl (fun hg => by simp only [Gt, Bool.and_eq_true] at hg; simp only [All, List.cons_append, List.nil_append, List.append_nil, List.mem_cons, List.not_mem_nil, or_false, forall_eq_or_imp, forall_eq, Bool.and_eq_true, hg, Bool.not_false, Bool.not_true, and_self]) m0 Try.isAgg126 rfl rfl rfl ?_; clear hC a; intro a hC
    refine L.pu hC rfl rfl (fun _ => All.nil) rfl rfl ?_; clear hC a; intro a hC
    refine L.pu hC rfl rfl (fun _ => All.nil) rfl rfl ?_; clear hC a; intro a hC
    refine L.pu hC rfl rfl (fun hg => by simp only [Gt, Bool.and_eq_true] at hg; simp only [All, List.cons_append, List.nil_append, List.append_nil, List.mem_cons, List.not_mem_nil, or_false, forall_eq_or_imp, forall_eq, Bool.and_eq_true, hg, Bool.not_false, Bool.not_true, and_self]) rfl rfl ?_; clear hC a; intro a hC
    refine L.bin hC rfl rfl rfl rfl (fun hg => by simp only [Gt, Bool.and_eq_true] at hg; simp only [All, List.cons_append, List.nil_append, List.append_nil, List.mem_cons, List.not_mem_nil, or_false, forall_eq_or_imp, forall_eq, Bool.and_eq_true, hg, Bool.not_false, Bool.not_true, and_self]) (fun _ => All.nil) (fun hg => run_quo (by decide) _) rfl rfl ?_; clear hC a; intro a hC
    refine L.call hC rfl rfl Try.call75 rfl (fun hg => by simp only [Gt, Bool.and_eq_true] at hg; simp only [All, List.cons_append, List.nil_append, List.append_nil, List.mem_cons, List.not_mem_nil, or_false, forall_eq_or_imp, forall_eq, Bool.and_eq_true, hg, Bool.not_false, Bool.not_true, and_self]) (fun hg => ahead_ok _ _ _ _ i ((i - 1) / 2) rfl (hpar (by have := of_decide_eq_true hg; omega) (by omega)) (by omega) (by omega) _ (own_rd (hC.at m1))) rfl rfl ?_; clear hC a; intro a w hF hC
    refine L.and hC rfl rfl rfl rfl (fun _ => All.nil) (fun _ hp => by simp only [All, List.cons_append, List.nil_append, List.append_nil, List.mem_cons, List.not_mem_nil, or_false, forall_eq_or_imp, forall_eq, Bool.and_eq_true, hp, Bool.not_false, Bool.not_true, and_self]) rfl rfl ?_; clear hC a; intro a hC
    refine L.nil ?_
    refine hk5 _ _ ?_; clear hk5; try clear k5
    refine W.cond hC rfl (fun h1 => ?_) (fun h1 => ?_)
    ·
      have hi0 := of_decide_eq_true (Bool.and_eq_true_iff.1 h1).1
      refine W.skip ?_
      refine hk4 _ _ ?_; clear hk4; try clear k4
      refine W.seqk fun k6 hk6 => ?_
      refine W.block ?_
      refine W.region ?_
      refine L.pu hC rfl rfl (fun _ => All.nil) rfl rfl ?_; clear hC a; intro a hC
      refine L.pu hC rfl rfl (fun _ => All.nil) rfl rfl ?_; clear hC a; intro a hC
      refine L.ld hC rfl rfl rfl (fun _ => All.nil) m0 Try.isAgg126 rfl rfl rfl ?_; clear hC a; intro a hC
      refine L.pu hC rfl rfl (fun _ => All.nil) rfl rfl ?_; clear hC a; intro a hC
      refine L.pu hC rfl rfl (fun _ => All.nil) rfl rfl ?_; clear hC a; intro a hC
      refine L.pu hC rfl rfl (fun _ => All.nil) rfl rfl ?_; clear hC a; intro a hC
      refine L.bin hC rfl rfl rfl rfl (fun _ => All.nil) (fun _ => All.nil) (fun hg => run_quo (by decide) _) rfl rfl ?_; clear hC a; intro a hC
      replace hC := hC.fr1
      refine L.callg [_] hC rfl rfl Try.call114 rfl (swap_ok _ _ _ _ i ((i - 1) / 2) rfl (hpar (by omega) (by omega)) (by omega) (by omega) _ (hC.at m0)) (fun b h => ⟨_, m0, h⟩) rfl rfl ?_; clear hC a; intro _ a w hQ hC
      refine L.nil ?_
      refine hk6 _ _ ?_; clear hk6; try clear k6
      refine W.region ?_
      refine L.pu hC rfl rfl (fun _ => All.nil) rfl rfl ?_; clear hC a; intro a hC
      refine L.pu hC rfl rfl (fun _ => All.nil) rfl rfl ?_; clear hC a; intro a hC
      refine L.bin hC rfl rfl rfl rfl (fun _ => All.nil) (fun _ => All.nil) (fun hg => run_quo (by decide) _) rfl rfl ?_; clear hC a; intro a hC
      refine L.pu hC rfl rfl (fun _ => All.nil) rfl rfl ?_; clear hC a; intro a hC
      refine L.nil ?_
      replace hC := hC.fr1
      exact ⟨(v', swp l' i ((i - 1) / 2), (i - 1) / 2), ⟨by simp only [swp, List.length_set]; omega, by simp only [swp, List.length_set]; omega, by rw [← hp]; exact (siftUp_step h1).symm, hC.keep ⟨geti rfl (hpar (by omega) (by omega)), rfl, trivial⟩⟩, by first | omega | (dsimp only; omega)⟩
    ·
      refine W.exit ?_
      refine Kb.here ?_
      refine ret0 hC rfl ?_
      exact ⟨v', rfl, trivial, by rw [← hp, siftUp_stop h1]; exact hC.toPost (by simp [ownR, blkR])⟩

theorem add1_ok (x y : Int × Int) (b : Nat) (w0 : World) (hr : (blkR b (timE.enc y) 25).ok w0) : Calls Try.prog 70 #[.agg (timE.enc x).toArray, .pointer (some ⟨b, 0, none⟩)] w0 fun e w' => e = .returned (.bool (x.2 == y.2)) ∧ Frm Nob w0 w' := by
  refine enter (μ := [blkR b (timE.enc y) 25]) (S := (fun c => c = b)) (vs := [.agg (timE.enc x).toArray, .pointer (some ⟨b, 0, none⟩)]) Try.func70 rfl Try.ntmps70 rfl ⟨by simpa using hr, by simp⟩ (by simp [blkR]) (fun a hC => ?_)
  refine W.seqk fun k1 hk1 => ?_
  refine W.region ?_
  refine L.box hC rfl rfl rfl rfl rfl rfl ?_; clear hC a; intro b1 a w hF hC
  refine L.pu hC rfl rfl (fun _ => All.nil) rfl rfl ?_; clear hC a; intro a hC
  refine L.nil ?_
  refine hk1 _ _ ?_; clear hk1; try clear k1
  refine W.seqk fun k2 hk2 => ?_
  refine W.region ?_
  refine L.fa hC rfl rfl rfl (fun _ => All.nil) Try.underlying25 rfl Try.sizeOf3 rfl rfl rfl ?_; clear hC a; intro a hC
  refine L.ld hC rfl rfl rfl (fun _ => All.nil) m0 Try.isAgg3 rfl rfl rfl ?_; clear hC a; intro a hC
  refine L.fa hC rfl rfl rfl (fun _ => All.nil) Try.underlying25 rfl Try.sizeOf3 rfl rfl rfl ?_; clear hC a; intro a hC
  refine L.ld hC rfl rfl rfl (fun _ => All.nil) m1 Try.isAgg3 rfl rfl rfl ?_; clear hC a; intro a hC
  refine L.pu hC rfl rfl (fun _ => All.nil) rfl rfl ?_; clear hC a; intro a hC
  refine L.pu hC rfl rfl (fun _ => All.nil) rfl rfl ?_; clear hC a; intro a hC
  refine L.nil ?_
  refine hk2 _ _ ?_; clear hk2; try clear k2
  refine W.ret ?_
  refine rets hC rfl (.tmp rfl .nil) ?_
  exact ⟨rfl, hC.frm.unblk (fun c h => .inl h) hr (hC.at m1)⟩

theorem num20_ok (x : Int) (w0 : World) : Calls Try.prog 15 #[.int .i64 x] w0 fun e w' => e = .returned (.int .i64 x) ∧ Frm Nob w0 w' := by
  refine enter (μ := []) (S := Nob) (vs := [.int .i64 x]) Try.func15 rfl Try.ntmps15 rfl (Mem.nil _) (by simp) (fun a hC => ?_)
  refine W.seqk fun k1 hk1 => ?_
  refine W.region ?_
  refine L.pu hC rfl rfl (fun _ => All.nil) rfl rfl ?_; clear hC a; intro a hC
  refine L.nil ?_
  refine hk1 _ _ ?_; clear hk1; try clear k1
  refine W.seqk fun k2 hk2 => ?_
  refine W.region ?_
  refine L.pu hC rfl rfl (fun _ => All.nil) rfl rfl ?_; clear hC a; intro a hC
  refine L.pu hC rfl rfl (fun _ => All.nil) rfl rfl ?_; clear hC a; intro a hC
  refine L.nil ?_
  refine hk2 _ _ ?_; clear hk2; try clear k2
  refine W.ret ?_
  refine rets hC rfl (.tmp rfl .nil) ?_
  refine ⟨?_, hC.frm⟩
  rfl

theorem refahead_ok (x y : Int × Int) (w0 : World) : Calls Try.prog 16 #[.agg (timE.enc x).toArray, .agg (timE.enc y).toArray] w0 fun e w' => e = .returned (.bool (aheadR x y)) ∧ Frm Nob w0 w' := by
  refine enter (μ := []) (S := Nob) (vs := [.agg (timE.enc x).toArray, .agg (timE.enc y).toArray]) Try.func16 rfl Try.ntmps16 rfl (Mem.nil _) (by simp) (fun a hC => ?_)
  refine W.seqk fun k1 hk1 => ?_
  refine W.region ?_
  refine L.box hC rfl rfl rfl rfl rfl rfl ?_; clear hC a; intro b1 a w hF hC
  refine L.box hC rfl rfl rfl rfl rfl rfl ?_; clear hC a; intro b2 a w hF hC
  refine L.pu hC rfl rfl (fun _ => All.nil) rfl rfl ?_; clear hC a; intro a hC
  refine L.nil ?_
  refine hk1 _ _ ?_; clear hk1; try clear k1
  refine W.seqk fun k2 hk2 => ?_
  refine W.region ?_
  refine L.fa hC rfl rfl rfl (fun _ => All.nil) Try.underlying25 rfl Try.sizeOf3 rfl rfl rfl ?_; clear hC a; intro a hC
  refine L.ld hC rfl rfl rfl (fun _ => All.nil) m1 Try.isAgg3 rfl rfl rfl ?_; clear hC a; intro a hC
  refine L.fa hC rfl rfl rfl (fun _ => All.nil) Try.underlying25 rfl Try.sizeOf3 rfl rfl rfl ?_; clear hC a; intro a hC
  refine L.ld hC rfl rfl rfl (fun _ => All.nil) m0 Try.isAgg3 rfl rfl rfl ?_; clear hC a; intro a hC
  refine L.pu hC rfl rfl (fun _ => All.nil) rfl rfl ?_; clear hC a; intro a hC
  refine L.pu hC rfl rfl (fun _ => All.nil) rfl rfl ?_; clear hC a; intro a hC
  refine L.fa hC rfl rfl rfl (fun _ => All.nil) Try.underlying25 rfl Try.sizeOf3 rfl rfl rfl ?_; clear hC a; intro a hC
  refine L.ld hC rfl rfl rfl (fun hg => by simp only [Gt, Bool.and_eq_true] at hg; simp only [All, List.cons_append, List.nil_append, List.append_nil, List.mem_cons, List.not_mem_nil, or_false, forall_eq_or_imp, forall_eq, Bool.and_eq_true, hg, Bool.not_false, Bool.not_true, and_self]) m1 Try.isAgg3 rfl rfl rfl ?_; clear hC a; intro a hC
  refine L.fa hC rfl rfl rfl (fun _ => All.nil) Try.underlying25 rfl Try.sizeOf3 rfl rfl rfl ?_; clear hC a; intro a hC
  refine L.ld hC rfl rfl rfl (fun hg => by simp only [Gt, Bool.and_eq_true] at hg; simp only [All, List.cons_append, List.nil_append, List.append_nil, List.mem_cons, List.not_mem_nil, or_false, forall_eq_or_imp, forall_eq, Bool.and_eq_true, hg, Bool.not_false, Bool.not_true, and_self]) m0 Try.isAgg3 rfl rfl rfl ?_; clear hC a; intro a hC
  refine L.pu hC rfl rfl (fun hg => by simp only [Gt, Bool.and_eq_true] at hg; simp only [All, List.cons_append, List.nil_append, List.append_nil, List.mem_cons, List.not_mem_nil, or_false, forall_eq_or_imp, forall_eq, Bool.and_eq_true, hg, Bool.not_false, Bool.not_true, and_self]) rfl rfl ?_; clear hC a; intro a hC
  refine L.pu hC rfl rfl (fun hg => by simp only [Gt, Bool.and_eq_true] at hg; simp only [All, List.cons_append, List.nil_append, List.append_nil, List.mem_cons, List.not_mem_nil, or_false, forall_eq_or_imp, forall_eq, Bool.and_eq_true, hg, Bool.not_false, Bool.not_true, and_self]) rfl rfl ?_; clear hC a; intro a hC
  refine L.fa hC rfl rfl rfl (fun _ => All.nil) Try.underlying25 rfl Try.sizeOf3 rfl rfl rfl ?_; clear hC a; intro a hC
  refine L.ld hC rfl rfl rfl (fun hg => by simp only [Gt, Bool.and_eq_true] at hg; simp only [All, List.cons_append, List.nil_append, List.append_nil, List.mem_cons, List.not_mem_nil, or_false, forall_eq_or_imp, forall_eq, Bool.and_eq_true, hg, Bool.not_false, Bool.not_true, and_self]) m1 Try.isAgg3 rfl rfl rfl ?_; clear hC a; intro a hC
  refine L.fa hC rfl rfl rfl (fun _ => All.nil) Try.underlying25 rfl Try.sizeOf3 rfl rfl rfl ?_; clear hC a; intro a hC
  refine L.ld hC rfl rfl rfl (fun hg => by simp only [Gt, Bool.and_eq_true] at hg; simp only [All, List.cons_append, List.nil_append, List.append_nil, List.mem_cons, List.not_mem_nil, or_false, forall_eq_or_imp, forall_eq, Bool.and_eq_true, hg, Bool.not_false, Bool.not_true, and_self]) m0 Try.isAgg3 rfl rfl rfl ?_; clear hC a; intro a hC
  refine L.pu hC rfl rfl (fun hg => by simp only [Gt, Bool.and_eq_true] at hg; simp only [All, List.cons_append, List.nil_append, List.append_nil, List.mem_cons, List.not_mem_nil, or_false, forall_eq_or_imp, forall_eq, Bool.and_eq_true, hg, Bool.not_false, Bool.not_true, and_self]) rfl rfl ?_; clear hC a; intro a hC
  refine L.and hC rfl rfl rfl rfl (fun hg => by simp only [Gt, Bool.and_eq_true] at hg; simp only [All, List.cons_append, List.nil_append, List.append_nil, List.mem_cons, List.not_mem_nil, or_false, forall_eq_or_imp, forall_eq, Bool.and_eq_true, hg, Bool.not_false, Bool.not_true, and_self]) (fun hg hp => by simp only [Gt, Bool.and_eq_true] at hg; simp only [All, List.cons_append, List.nil_append, List.append_nil, List.mem_cons, List.not_mem_nil, or_false, forall_eq_or_imp, forall_eq, Bool.and_eq_true, hg, hp, Bool.not_false, Bool.not_true, and_self]) rfl rfl ?_; clear hC a; intro a hC
  refine L.or hC rfl rfl rfl rfl (fun _ => All.nil) (fun _ hp => by simp only [All, List.cons_append, List.nil_append, List.append_nil, List.mem_cons, List.not_mem_nil, or_false, forall_eq_or_imp, forall_eq, Bool.and_eq_true, hp, Bool.not_false, Bool.not_true, and_self]) rfl rfl ?_; clear hC a; intro a hC
  refine L.pu hC rfl rfl (fun _ => All.nil) rfl rfl ?_; clear hC a; intro a hC
  refine L.nil ?_
  refine hk2 _ _ ?_; clear hk2; try clear k2
  refine W.ret ?_
  refine rets hC rfl (.tmp rfl .nil) ?_
  refine ⟨?_, hC.frm⟩
  rfl

end Go.Proofs.E
