/- Part of the proof: what the functions of this program compute. -/
import Derived.Test.YtgekiiildobfkaaT4
set_option linter.unusedVariables false
set_option linter.unusedSimpArgs false
namespace Go.Proofs.E
open Go.RowKit
def swp (l : List (Int × Int)) (i k : Nat) : List (Int × Int) := (l.set i l[k]!).set k l[i]!
theorem ahead_ok (v : Value) (l : List (Int × Int)) (I K : Int) (i k : Nat) (hI : I = i) (hK : K = k) (hi : i < l.length) (hk : k < l.length) (w : World) (hr : (rdR v timE l).ok w) : Calls Try.prog 75 #[v, .int .i64 I, .int .i64 K] w fun e w' => e = .returned (.bool (decide (ordI l[i]! l[k]! < 0))) ∧ Frm Nob w w' := by
  subst hI; subst hK
  refine enter (μ := [rdR v timE l]) (S := Nob) (vs := [v, .int .i64 (i : Int), .int .i64 (k : Int)]) Try.func75 rfl Try.ntmps75 rfl ⟨by simpa using hr, by simp⟩ (by simp [rdR]) (fun a hC => ?_)
  refine W.seqk fun k1 hk1 => ?_
  refine W.region ?_
  refine L.pu hC rfl rfl (fun _ => All.nil) rfl rfl ?_; clear hC a; intro a hC
  refine L.nil ?_
  refine hk1 _ _ ?_; clear hk1; try clear k1
  refine W.seqk fun k2 hk2 => ?_
  replace hC := hC.del 6
  refine W.drawD hC Try.mixed rfl rfl ?_
  apply DRN.cons (.det _ _) rfl
  · intro a w hC
    refine L.pu hC rfl rfl (fun _ => All.nil) rfl rfl ?_; clear hC a; intro a hC
    exact L.nil ⟨⟨_, [], hC⟩, Frm.refl _ _⟩
  apply DRN.cons (.det _ _) rfl
  · intro a w hC
    refine L.pu hC rfl rfl (fun _ => All.nil) rfl rfl ?_; clear hC a; intro a hC
    exact L.nil ⟨⟨_, [], hC⟩, Frm.refl _ _⟩
  apply DRN.cons (.det _ _) rfl
  · intro a w hC
    refine L.ixr hC rfl rfl rfl rfl m0 (fun _ => All.nil) (fun _ => All.nil) Try.underlying126 Try.sizeOf25 (fun _ => by omega) rfl rfl ?_; clear hC a; intro a hC
    exact L.nil ⟨⟨_, [], hC⟩, Frm.refl _ _⟩
  apply DRN.cons (.det _ _) rfl
  · intro a w hC
    refine L.ldxa hC rfl rfl rfl rfl (fun _ => All.nil) (fun _ => rd_bang hC m0 hi _) Try.isAgg25 Try.sizeOf25 rfl rfl rfl rfl ?_; clear hC a; intro a hC
    exact L.nil ⟨⟨_, [], hC⟩, Frm.refl _ _⟩
  apply DRN.cons (.det _ _) rfl
  · intro a w hC
    refine L.pu hC rfl rfl (fun _ => All.nil) rfl rfl ?_; clear hC a; intro a hC
    exact L.nil ⟨⟨_, [], hC⟩, Frm.refl _ _⟩
  apply DRN.cons (.det _ _) rfl
  · intro a w hC
    refine L.pu hC rfl rfl (fun _ => All.nil) rfl rfl ?_; clear hC a; intro a hC
    exact L.nil ⟨⟨_, [], hC⟩, Frm.refl _ _⟩
  apply DRN.cons (.det _ _) rfl
  · intro a w hC
    refine L.ixr hC rfl rfl rfl rfl m0 (fun _ => All.nil) (fun _ => All.nil) Try.underlying126 Try.sizeOf25 (fun _ => by omega) rfl rfl ?_; clear hC a; intro a hC
    exact L.nil ⟨⟨_, [], hC⟩, Frm.refl _ _⟩
  apply DRN.cons (.det _ _) rfl
  · intro a w hC
    refine L.ldxa hC rfl rfl rfl rfl (fun _ => All.nil) (fun _ => rd_bang hC m0 hk _) Try.isAgg25 Try.sizeOf25 rfl rfl rfl rfl ?_; clear hC a; intro a hC
    exact L.nil ⟨⟨_, [], hC⟩, Frm.refl _ _⟩
  apply DRN.cons (.det _ _) rfl
  · intro a w hC
    refine L.call hC rfl rfl Try.call118 rfl (fun _ => All.nil) (fun hg => order_ok _ _ _) rfl rfl ?_; clear hC a; intro a w hF hC
    exact L.nil ⟨⟨_, [], hC⟩, hF⟩
  apply DRN.cons (.det _ _) rfl
  · intro a w hC
    refine L.pu hC rfl rfl (fun _ => All.nil) rfl rfl ?_; clear hC a; intro a hC
    exact L.nil ⟨⟨_, [], hC⟩, Frm.refl _ _⟩
  apply DRN.cons (.det _ _) rfl
  · intro a w hC
    refine L.pu hC rfl rfl (fun _ => All.nil) rfl rfl ?_; clear hC a; intro a hC
    exact L.nil ⟨⟨_, [], hC⟩, Frm.refl _ _⟩
  refine DRN.nil (fun w' hF => ?_)
  intro a w hC hw
  subst hw
  refine hk2 _ _ ?_; clear hk2; try clear k2
  refine W.ret ?_
  refine rets hC rfl (.tmp rfl .nil) ?_
  refine ⟨?_, hC.frm⟩
  rfl

theorem cloneT_ok (v : Value) (l : List (Int × Int)) (w : World) (hr : (rdR v timE l).ok w) (hl : l.length ≤ 1000000) : Calls Try.prog 67 #[v] w fun e w' => ∃ r : Value, e = .returned r ∧ True ∧ Post Nob [ownR r 25 timE l] w w' := by
  obtain ⟨A, c, hv, hm, hA⟩ := id hr
  subst hv
  refine enter (μ := [rdR (.slice A l.length c) timE l]) (S := Nob) (vs := [.slice A l.length c]) Try.func67 rfl Try.ntmps67 rfl ⟨by simpa using hr, by simp⟩ (by simp [rdR]) (fun a hC => ?_)
  refine W.seqk fun k1 hk1 => ?_
  refine W.region ?_
  refine L.pu hC rfl rfl (fun _ => All.nil) rfl rfl ?_; clear hC a; intro a hC
  refine L.nil ?_
  refine hk1 _ _ ?_; clear hk1; try clear k1
  refine W.seqk fun k2 hk2 => ?_
  refine W.seqk fun k3 hk3 => ?_
  refine W.region ?_
  refine L.pu hC rfl rfl (fun _ => All.nil) rfl rfl ?_; clear hC a; intro a hC
  refine L.bin hC rfl rfl rfl rfl (fun _ => All.nil) (fun _ => All.nil) (fun _ => run_nilS Try.underlying22 _) rfl rfl ?_; clear hC a; intro a hC
  refine L.nil ?_
  refine hk3 _ _ ?_; clear hk3; try clear k3
  refine W.cond hC rfl (fun h1 => ?_) (fun h1 => ?_)
  ·
    refine W.seqk fun k4 hk4 => ?_
    refine W.region ?_
    refine L.pu hC rfl rfl (fun _ => All.nil) rfl rfl ?_; clear hC a; intro a hC
    refine L.nil ?_
    refine hk4 _ _ ?_; clear hk4; try clear k4
    refine W.ret ?_
    refine rets hC rfl (.tmp rfl .nil) ?_
    have hl : l = [] := by
      apply Classical.byContradiction
      intro hn
      obtain ⟨q, hq, _⟩ := hA hn
      rw [hq] at h1; cases h1
    subst hl
    replace hC := hC.tail.nilown (ty := 25) (E := timE)
    exact ⟨_, rfl, trivial, hC.toPost (by simp [ownR])⟩
  ·
    refine W.skip ?_
    refine hk2 _ _ ?_; clear hk2; try clear k2
    refine W.seqk fun k5 hk5 => ?_
    refine W.region ?_
    refine L.bs0 (E := timE) hC rfl rfl Try.underlying22 Try.sizeOf25 rfl rfl ?_; clear hC a; intro vs1 a w hF hC
    refine L.pu hC rfl rfl (fun _ => All.nil) rfl rfl ?_; clear hC a; intro a hC
    refine L.appr hC rfl rfl rfl rfl (hC.at m1) Try.underlying22 Try.infoI25 rfl (by simp; omega) (by simp; omega) rfl rfl ?_; clear hC a; intro v2 a w hF hC
    refine L.pu hC rfl rfl (fun _ => All.nil) rfl rfl ?_; clear hC a; intro a hC
    refine L.nil ?_
    refine hk5 _ _ ?_; clear hk5; try clear k5
    refine W.ret ?_
    refine rets hC rfl (.tmp rfl .nil) ?_
    replace hC := hC.perm (ν := [rdR _ timE l, ownR _ 25 timE l]) (List.Perm.swap ..)
    replace hC := hC.tail
    exact ⟨_, rfl, trivial, hC.toPost (by simp [ownR])⟩

theorem swap_ok (v : Value) (l : List (Int × Int)) (I K : Int) (i k : Nat) (hI : I = i) (hK : K = k) (hi : i < l.length) (hk : k < l.length) (w : World) (hr : (ownR v 25 timE l).ok w) : Calls Try.prog 114 #[v, .int .i64 I, .int .i64 K] w fun e w' => ∃ x : Unit, e = .returned (.tuple #[]) ∧ True ∧ Post (fun b => v.ownBlock = some b) [ownR v 25 timE (swp l i k)] w w' := by
  subst hI; subst hK
  refine enter (μ := [ownR v 25 timE l]) (S := (fun b => v.ownBlock = some b)) (vs := [v, .int .i64 (i : Int), .int .i64 (k : Int)]) Try.func114 rfl Try.ntmps114 rfl ⟨by simpa using hr, by simp⟩ (by simp [ownR]) (fun a hC => ?_)
  refine W.drawN (fun c _ => match c with | 0 => [ownR v 25 timE l] | 1 => [ownR v 25 timE (l.set i l[k]!)] | _ => [ownR v 25 timE (swp l i k)]) undef hC Try.mixed rfl rfl ?_
  apply ERN.q (.det _ _) 0 rfl rfl
  · intro c' γ hle
    obtain rfl := (by omega : c' = 0)
    · intro a w hC
      refine L.pu hC rfl rfl (fun _ => All.nil) rfl rfl ?_; clear hC a; intro a hC
      exact L.nil ⟨⟨_, [], hC⟩, Frm.refl _ _⟩
  apply ERN.q (.det _ _) 0 rfl rfl
  · intro c' γ hle
    obtain rfl := (by omega : c' = 0)
    · intro a w hC
      refine L.pu hC rfl rfl (fun _ => All.nil) rfl rfl ?_; clear hC a; intro a hC
      exact L.nil ⟨⟨_, [], hC⟩, Frm.refl _ _⟩
  apply ERN.q (.det _ _) 1 rfl rfl
  · intro c' γ hle
    obtain rfl | rfl := (by omega : c' = 0 ∨ c' = 1)
    · intro a w hC
      refine L.pu hC rfl rfl (fun _ => All.nil) rfl rfl ?_; clear hC a; intro a hC
      exact L.nil ⟨⟨_, [], hC⟩, Frm.refl _ _⟩
    · intro a w hC
      refine L.pu hC rfl rfl (fun _ => All.nil) rfl rfl ?_; clear hC a; intro a hC
      exact L.nil ⟨⟨_, [], hC⟩, Frm.refl _ _⟩
  apply ERN.q (.det _ _) 1 rfl rfl
  · intro c' γ hle
    obtain rfl | rfl := (by omega : c' = 0 ∨ c' = 1)
    · intro a w hC
      refine L.pu hC rfl rfl (fun _ => All.nil) rfl rfl ?_; clear hC a; intro a hC
      exact L.nil ⟨⟨_, [], hC⟩, Frm.refl _ _⟩
    · intro a w hC
      refine L.pu hC rfl rfl (fun _ => All.nil) rfl rfl ?_; clear hC a; intro a hC
      exact L.nil ⟨⟨_, [], hC⟩, Frm.refl _ _⟩
  apply ERN.q (.det _ _) 0 rfl rfl
  · intro c' γ hle
    obtain rfl := (by omega : c' = 0)
    · intro a w hC
      refine L.pu hC rfl rfl (fun _ => All.nil) rfl rfl ?_; clear hC a; intro a hC
      exact L.nil ⟨⟨_, [], hC⟩, Frm.refl _ _⟩
  apply ERN.q (.det _ _) 0 rfl rfl
  · intro c' γ hle
    obtain rfl := (by omega : c' = 0)
    · intro a w hC
      refine L.pu hC rfl rfl (fun _ => All.nil) rfl rfl ?_; clear hC a; intro a hC
      exact L.nil ⟨⟨_, [], hC⟩, Frm.refl _ _⟩
  apply ERN.q (.det _ _) 0 rfl rfl
  · intro c' γ hle
    obtain rfl := (by omega : c' = 0)
    · intro a w hC
      refine L.ixo hC rfl rfl rfl rfl m0 (fun _ => All.nil) (fun _ => All.nil) Try.underlying126 Try.sizeOf25 (fun _ => by first | omega | (simp only [List.length_set]; omega)) rfl rfl ?_; clear hC a; intro a hC
      exact L.nil ⟨⟨_, [], hC⟩, Frm.refl _ _⟩
  apply ERN.q (.det _ _) 0 rfl rfl
  · intro c' γ hle
    obtain rfl := (by omega : c' = 0)
    · intro a w hC
      refine L.ldxa hC rfl rfl rfl rfl (fun _ => All.nil) (fun _ => own_bang hC m0 (by first | omega | (simp only [List.length_set]; omega)) _) Try.isAgg25 Try.sizeOf25 rfl rfl rfl rfl ?_; clear hC a; intro a hC
      exact L.nil ⟨⟨_, [], hC⟩, Frm.refl _ _⟩
  apply ERN.q (.det _ _) 1 rfl rfl
  · intro c' γ hle
    obtain rfl | rfl := (by omega : c' = 0 ∨ c' = 1)
    · intro a w hC
      refine L.pu hC rfl rfl (fun _ => All.nil) rfl rfl ?_; clear hC a; intro a hC
      exact L.nil ⟨⟨_, [], hC⟩, Frm.refl _ _⟩
    · intro a w hC
      refine L.pu hC rfl rfl (fun _ => All.nil) rfl rfl ?_; clear hC a; intro a hC
      exact L.nil ⟨⟨_, [], hC⟩, Frm.refl _ _⟩
  apply ERN.q (.det _ _) 1 rfl rfl
  · intro c' γ hle
    obtain rfl | rfl := (by omega : c' = 0 ∨ c' = 1)
    · intro a w hC
      refine L.pu hC rfl rfl (fun _ => All.nil) rfl rfl ?_; clear hC a; intro a hC
      exact L.nil ⟨⟨_, [], hC⟩, Frm.refl _ _⟩
    · intro a w hC
      refine L.pu hC rfl rfl (fun _ => All.nil) rfl rfl ?_; clear hC a; intro a hC
      exact L.nil ⟨⟨_, [], hC⟩, Frm.refl _ _⟩
  apply ERN.q (.det _ _) 1 rfl rfl
  · intro c' γ hle
    obtain rfl | rfl := (by omega : c' = 0 ∨ c' = 1)
    · intro a w hC
      refine L.ixo hC rfl rfl rfl rfl m0 (fun _ => All.nil) (fun _ => All.nil) Try.underlying126 Try.sizeOf25 (fun _ => by first | omega | (simp only [List.length_set]; omega)) rfl rfl ?_; clear hC a; intro a hC
      exact L.nil ⟨⟨_, [], hC⟩, Frm.refl _ _⟩
    · intro a w hC
      refine L.ixo hC rfl rfl rfl rfl m0 (fun _ => All.nil) (fun _ => All.nil) Try.underlying126 Try.sizeOf25 (fun _ => by first | omega | (simp only [List.length_set]; omega)) rfl rfl ?_; clear hC a; intro a hC
      exact L.nil ⟨⟨_, [], hC⟩, Frm.refl _ _⟩
  apply ERN.q (.det _ _) 0 rfl rfl
  · intro c' γ hle
    obtain rfl := (by omega : c' = 0)
    · intro a w hC
      refine L.ldxa hC rfl rfl rfl rfl (fun _ => All.nil) (fun _ => own_bang hC m0 (by first | omega | (simp only [List.length_set]; omega)) _) Try.isAgg25 Try.sizeOf25 rfl rfl rfl rfl ?_; clear hC a; intro a hC
      exact L.nil ⟨⟨_, [], hC⟩, Frm.refl _ _⟩
  apply ERN.q (.det _ _) 0 rfl rfl
  · intro c' γ hle
    obtain rfl := (by omega : c' = 0)
    · intro a w hC
      refine L.ixo hC rfl rfl rfl rfl m0 (fun _ => All.nil) (fun _ => All.nil) Try.underlying126 Try.sizeOf25 (fun _ => by first | omega | (simp only [List.length_set]; omega)) rfl rfl ?_; clear hC a; intro a hC
      exact L.nil ⟨⟨_, [], hC⟩, Frm.refl _ _⟩
  apply ERN.f false (fun h => by cases h) rfl rfl
  · intro γ a w hC
    refine L.ste hC rfl rfl rfl rfl rfl Try.sizeOf25 rfl rfl rfl (by first | omega | (simp only [List.length_set]; omega)) (Nat.le_of_ble_eq_true rfl) (x' := l[k]!) rfl rfl ?_; clear hC a; intro a w hF hC
    exact L.nil ⟨γ, _, fun _ => rfl, trivial, hC, hF⟩
  apply ERN.q (.det _ _) 1 rfl rfl
  · intro c' γ hle
    obtain rfl | rfl := (by omega : c' = 0 ∨ c' = 1)
    · intro a w hC
      refine L.ixo hC rfl rfl rfl rfl m0 (fun _ => All.nil) (fun _ => All.nil) Try.underlying126 Try.sizeOf25 (fun _ => by first | omega | (simp only [List.length_set]; omega)) rfl rfl ?_; clear hC a; intro a hC
      exact L.nil ⟨⟨_, [], hC⟩, Frm.refl _ _⟩
    · intro a w hC
      refine L.ixo hC rfl rfl rfl rfl m0 (fun _ => All.nil) (fun _ => All.nil) Try.underlying126 Try.sizeOf25 (fun _ => by first | omega | (simp only [List.length_set]; omega)) rfl rfl ?_; clear hC a; intro a hC
      exact L.nil ⟨⟨_, [], hC⟩, Frm.refl _ _⟩
  apply ERN.f false (fun h => by cases h) rfl rfl
  · intro γ a w hC
    refine L.ste hC rfl rfl rfl rfl rfl Try.sizeOf25 rfl rfl rfl (by first | omega | (simp only [List.length_set]; omega)) (Nat.le_of_ble_eq_true rfl) (x' := l[i]!) rfl rfl ?_; clear hC a; intro a w hF hC
    exact L.nil ⟨γ, _, fun _ => rfl, trivial, hC, hF⟩
  refine ERN.nil ?_
  intro γ w' a w hC hw
  subst hw
  refine ret0 hC rfl ?_
  exact ⟨(), rfl, trivial, hC.toPost (by simp [ownR])⟩

end Go.Proofs.E
