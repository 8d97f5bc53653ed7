/- Backoffs, plans, new calls. -/
import Derived.Test.YtgekiiildobfkaaC3
import Derived.Test.YtgekiiildobfkaaS2
set_option linter.unusedVariables false
set_option linter.unusedSimpArgs false
namespace Go.Proofs.E
open Go.RowKit
/-- What cannot be. -/
def noR : Res where
  fp := Nob
  rp := Nob
  ok _ := False
  st := fun _ _ h _ => h
  bd := fun _ h => h.elim
theorem Mem.ro0 {b : Nat} {us : List Value} {t : TypeId} {w : World} (h1 : (robR b us t).ok w) : Mem [robR b us t] w := ⟨by simpa using h1, by simp⟩
def moN (s : Bo) : Nat → Int
  | 0 => s.base
  | i + 1 => imin (IntKind.i64.wrap (2 * moN s i)) s.cap
def moE (s : Bo) : List (List Value) := (List.range 64).map fun (i : Nat) => [.int .i64 ((i : Int) + 1), .int .i64 (moN s i)]
theorem moE_len (s : Bo) : (moE s).length = 64 := by simp [moE]
theorem moE_at {s : Bo} {i : Nat} (h : i < 64) : ∃ hi : i < (moE s).length, (moE s)[i] = [.int .i64 ((i : Int) + 1), .int .i64 (moN s i)] := ⟨by rw [moE_len]; exact h, by simp [moE]⟩
theorem moE_get {s : Bo} {i : Nat} (hi : i < (moE s).length) : (moE s)[i] = [.int .i64 ((i : Int) + 1), .int .i64 (moN s i)] := by simp [moE]
theorem moE_two (s : Bo) : ∀ v ∈ moE s, v.length = 2 := by
  intro v hv
  simp only [moE, List.mem_map] at hv
  obtain ⟨i, _, rfl⟩ := hv
  rfl
def atR (s : Bo) (n : Int) : Int := if (decide (n < 1) || decide (n > 64)) = true then s.cap else moN s (n - 1).toNat
theorem at_yes {s : Bo} {n : Int} {i : Nat} (hi : i < (moE s).length) (h : ((i : Int) + 1 == n) = true) : moN s i = atR s n := by
  rw [moE_len] at hi
  have h : (i : Int) + 1 = n := by simpa using h
  unfold atR
  rw [if_neg (by simp; omega)]
  congr 1; omega
theorem at_no {s : Bo} {n : Int} (h : ∀ k : Nat, k < 64 → (k : Int) + 1 ≠ n) : s.cap = atR s n := by
  unfold atR
  rw [if_pos]
  rw [Bool.or_eq_true, decide_eq_true_eq, decide_eq_true_eq]
  apply Classical.byContradiction
  intro hn
  exact h (n - 1).toNat (by omega) (by omega)
def mostR (s : Bo) (n : Int) : Int × Int := if (boR s != 0) = true then (0, boR s) else if (decide (n < 1) || decide (n > 64)) = true then (0, 3) else (atR s n, 0)
def lessR (s : Bo) (m d : Int) : Int := imax (IntKind.i64.wrap (m - (shareR d (imin (IntKind.i64.wrap ((IntKind.i64.wrap (m * s.jit)).tdiv 1000 |> fun q => IntKind.i64.wrap q + 1)) 1048576)).1)) 1
def delR (s : Bo) (n d : Int) : Int × Int := if ((mostR s n).2 != 0) = true then (0, (mostR s n).2) else (lessR s (mostR s n).1 d, 0)
def hedgesR (c : CallH) (s : CSet) (l : List Att) (tick wait : Int) : Bool :=
  (((decide (cntA l > 0) && !c.once) && decide (hedA l < s.hed)) && decide (tick > l[(IntKind.i64.wrap ((l.length : Int) - 1)).toNat]!.at')) && decide (IntKind.i64.wrap (tick - l[(IntKind.i64.wrap ((l.length : Int) - 1)).toNat]!.at') ≥ wait)
def planR (c : CallH) (s : CSet) (l : List Att) (tick wait : Int) : Int :=
  if decide (tick ≥ c.dl) = true then 4 else if ((l.length : Int) == 0) = true then 1 else if decide ((l.length : Int) ≥ s.att) = true then 0 else if (cntA l == 0 && decide (tick ≥ c.nx)) = true then 2 else if hedgesR c s l tick wait = true then 3 else 0
def planT (c : CallH) (s : CSet) (l : List Att) (tick wait : Int) : Int × Int := if (chkA c s l != 0) = true then (0, chkA c s l) else (planR c s l tick wait, 0)
def newR (n : Int) (o : OpV) (t lf : Int) : CallH × Int :=
  if ((!inR 0 1048576 [n] || !inR 0 268435456 [t]) || !inR 0 1048576 [lf]) = true then (Zero'.zero, 4) else if (ledR o != 0) = true then (Zero'.zero, ledR o) else (⟨n, o, (onceR o.what).1, t, IntKind.i64.wrap (t + lf), t⟩, 0)
theorem len_pos2 {α : Type _} {l : List α} (h2 : ((l.length : Int) == 0) = false) : 0 < l.length := by
  have : ¬ (l.length : Int) = 0 := by simpa using h2
  omega
theorem most_ok (s : Bo) (w0 : World) : Calls Try.prog 177 #[.agg (boE s).toArray] w0 fun e w' => ∃ ob : Nat, e = .returned (.func (.func 186) #[] #[.pointer (some ⟨ob, 0, none⟩)]) ∧ True ∧ Post Nob [blkR ob (boE s) 193] w0 w' := by
  refine enter (μ := []) (S := Nob) (vs := [.agg (boE s).toArray]) Try.func177 rfl Try.ntmps177 rfl (Mem.nil _) (by simp) (fun a hC => ?_)
  refine W.seqk fun k1 hk1 => ?_
  refine W.region ?_
  refine L.box hC rfl rfl rfl rfl rfl rfl ?_; clear hC a; intro ob a w hF hC
  refine L.pu hC rfl rfl (fun _ => All.nil) rfl rfl ?_; clear hC a; intro a hC
  refine L.nil ?_
  refine hk1 _ _ ?_; clear hk1; try clear k1
  refine W.seqk fun k2 hk2 => ?_
  refine W.region ?_
  refine L.pu hC rfl rfl (fun _ => All.nil) rfl rfl ?_; clear hC a; intro a hC
  refine L.pu hC rfl rfl (fun _ => All.nil) rfl rfl ?_; clear hC a; intro a hC
  refine L.nil ?_
  refine hk2 _ _ ?_; clear hk2; try clear k2
  refine W.ret ?_
  refine rets hC rfl (.tmp rfl .nil) ?_
  replace hC := hC.hd (r' := blkR ob (boE s) 193) rfl
  exact ⟨_, rfl, trivial, hC.toPost (by simp [blkR])⟩

theorem most_iter (ob : Nat) (s : Bo) : Iter Try.prog 186 #[.pointer (some ⟨ob, 0, none⟩)] (moE s) (fun W => Mem [robR ob (boE s) 193] W) := by
  intro l0 J Jx W hJ hJx hI hY h0
  rw [show (#[.func (.yield l0) #[] #[]] ++ #[.pointer (some ⟨ob, 0, none⟩)] : Array Value) = #[.func (.yield l0) #[] #[], .pointer (some ⟨ob, 0, none⟩)] from rfl]
  refine enterI (μ := [robR ob (boE s) 193]) (S := Nob) (vs := [.func (.yield l0) #[] #[], .pointer (some ⟨ob, 0, none⟩)]) Try.func186 rfl Try.ntmps186 rfl (hI _ _ h0) (by simp [robR]) (fun a hC => ?_)
  refine WI.seqk fun k1 hk1 => ?_
  refine WI.reg rfl ?_
  refine L.fa hC rfl rfl rfl (fun _ => All.nil) Try.underlying193 rfl Try.sizeOf58 rfl rfl rfl ?_; clear hC a; intro a hC
  refine L.fa hC rfl rfl rfl (fun _ => All.nil) Try.underlying58 rfl Try.sizeOf3 rfl rfl rfl ?_; clear hC a; intro a hC
  refine L.ldr hC rfl rfl rfl (fun _ => All.nil) m0 Try.isAgg3 rfl rfl rfl ?_; clear hC a; intro a hC
  refine L.pu hC rfl rfl (fun _ => All.nil) rfl rfl ?_; clear hC a; intro a hC
  refine L.nil ⟨hC.env.defers, ?_⟩
  refine hk1 _ _ _ ?_; clear hk1; try clear k1
  refine WI.seqk fun k2 hk2 => ?_
  refine WI.reg rfl ?_
  refine L.pu hC rfl rfl (fun _ => All.nil) rfl rfl ?_; clear hC a; intro a hC
  refine L.nil ⟨hC.env.defers, ?_⟩
  refine hk2 _ _ _ ?_; clear hk2; try clear k2
  refine WI.block ?_
  refine WI.loop (fun (j : Nat) ds a w' => ds = [] ∧ (j ≤ 64) ∧ (J j w') ∧ Conf 24 Nob w' [(8, (none, .int .i64 (j : Int))), (3, (none, .int .i64 (moN s j))), (0, (none, .func (.yield l0) #[] #[])), (1, (none, .pointer (some ⟨ob, 0, none⟩)))] [robR ob (boE s) 193] a w') (fun (j : Nat) => 64 - j) 0 ?_ hC.env.defers ?_
  · exact ⟨rfl, by omega, h0, hC.keep ⟨rfl, rfl, rfl, rfl, trivial⟩⟩
  · rintro j ds a w ⟨rfl, hjl, hj, hC⟩
    refine WI.seqk fun k3 hk3 => ?_
    refine WI.reg rfl ?_
    refine L.pu hC rfl rfl (fun _ => All.nil) rfl rfl ?_; clear hC a; intro a hC
    refine L.nil ⟨hC.env.defers, ?_⟩
    refine hk3 _ _ _ ?_; clear hk3; try clear k3
    refine WI.seqk fun k4 hk4 => ?_
    refine WI.cond hC rfl (fun h1 => ?_) (fun h1 => ?_)
    ·
      have h1 := of_decide_eq_true h1
      refine WI.skip hC.env.defers ?_
      refine hk4 _ _ _ ?_; clear hk4; try clear k4
      refine WI.seqk fun k5 hk5 => ?_
      refine WI.block ?_
      refine WI.seqk fun k6 hk6 => ?_
      refine WI.reg rfl ?_
      refine L.pu hC rfl rfl (fun _ => All.nil) rfl rfl ?_; clear hC a; intro a hC
      refine L.pu hC rfl rfl (fun _ => All.nil) rfl rfl ?_; clear hC a; intro a hC
      refine L.nil ⟨hC.env.defers, ?_⟩
      refine hk6 _ _ _ ?_; clear hk6; try clear k6
      refine WI.seqk fun k7 hk7 => ?_
      refine WI.seqk fun k8 hk8 => ?_
      refine WI.region ?_
      refine LI.preN 4 rfl ?_
      refine L.pu hC rfl rfl (fun _ => All.nil) rfl rfl ?_; clear hC a; intro a hC
      refine L.pu hC rfl rfl (fun _ => All.nil) rfl rfl ?_; clear hC a; intro a hC
      refine L.pu hC rfl rfl (fun _ => All.nil) rfl rfl ?_; clear hC a; intro a hC
      replace hC := hC.slot (d := 13) (geti (b := (j : Int) + 1) rfl (w64 (by omega)))
      refine L.pu hC rfl rfl (fun _ => All.nil) rfl rfl ?_; clear hC a; intro a hC
      refine L.nil ⟨hC.env.defers, ?_⟩
      refine LI.yield hC rfl rfl rfl (fun _ => All.nil) rfl (fun _ => All.nil) rfl rfl (fun hg => (moE_at (s := s) (show j < 64 by omega)).elim fun hi hxe => yat hxe (hY j hi _ (hJ _ _ _ hj hC.frm))) (fun hg e w hR => ?_) (fun hg a hE => ?_)
      · rcases hR with ⟨rfl, hj⟩ | ⟨rfl, hx⟩
        ·
          refine ⟨true, rfl, fun a hE => ?_⟩
          have hC : Conf 24 Nob w _ [robR ob (boE s) 193] a w := ⟨hE, hI _ _ hj, Frm.refl _ _, by simp [robR]⟩
          clear hE
          refine LI.preN 1 rfl ?_
          refine L.pu hC rfl rfl (fun _ => All.nil) rfl rfl ?_; clear hC a; intro a hC
          refine L.nil ⟨hC.env.defers, ?_⟩
          refine LI.nil hC.env.defers ?_
          refine hk8 _ _ _ ?_; clear hk8; try clear k8
          refine WI.cond hC rfl (fun h2 => ?_) (fun h2 => ?_)
          ·
            exact absurd h2 (by simp)
          ·
            refine WI.skip hC.env.defers ?_
            refine hk7 _ _ _ ?_; clear hk7; try clear k7
            refine WI.reg rfl ?_
            refine L.pu hC rfl rfl (fun _ => All.nil) rfl rfl ?_; clear hC a; intro a hC
            refine L.pu hC rfl rfl (fun _ => All.nil) rfl rfl ?_; clear hC a; intro a hC
            refine L.fa hC rfl rfl rfl (fun _ => All.nil) Try.underlying193 rfl Try.sizeOf58 rfl rfl rfl ?_; clear hC a; intro a hC
            refine L.fa hC rfl rfl rfl (fun _ => All.nil) Try.underlying58 rfl Try.sizeOf3 rfl rfl rfl ?_; clear hC a; intro a hC
            refine L.ldr hC rfl rfl rfl (fun _ => All.nil) m0 Try.isAgg3 rfl rfl rfl ?_; clear hC a; intro a hC
            refine L.min2 hC rfl rfl rfl rfl (fun _ => All.nil) (fun _ => All.nil) rfl rfl ?_; clear hC a; intro a hC
            refine L.pu hC rfl rfl (fun _ => All.nil) rfl rfl ?_; clear hC a; intro a hC
            refine L.nil ⟨hC.env.defers, ?_⟩
            refine hk5 _ _ _ ?_; clear hk5; try clear k5
            refine WI.reg rfl ?_
            refine L.pu hC rfl rfl (fun _ => All.nil) rfl rfl ?_; clear hC a; intro a hC
            refine L.pu hC rfl rfl (fun _ => All.nil) rfl rfl ?_; clear hC a; intro a hC
            refine L.nil ⟨hC.env.defers, ?_⟩
            replace hj := hJ _ _ _ hj hC.frm
            replace hC := hC.restart (by simp [robR])
            exact ⟨j + 1, ⟨rfl, by omega, hj, hC.keep ⟨geti rfl (w64 (by omega)), rfl, rfl, rfl, trivial⟩⟩, by first | omega | (dsimp only; omega)⟩
        ·
          refine ⟨false, rfl, fun a hE => ?_⟩
          have hC : Conf 24 Nob w _ [] a w := ⟨hE, Mem.nil _, Frm.refl _ _, by simp⟩
          clear hE
          refine LI.preN 1 rfl ?_
          refine L.pu hC rfl rfl (fun _ => All.nil) rfl rfl ?_; clear hC a; intro a hC
          refine L.nil ⟨hC.env.defers, ?_⟩
          refine LI.nil hC.env.defers ?_
          refine hk8 _ _ _ ?_; clear hk8; try clear k8
          refine WI.cond hC rfl (fun h3 => ?_) (fun h3 => ?_)
          ·
            refine WI.ret hC.env.defers ?_
            refine leave0 ?_
            refine ret0 hC rfl ?_
            exact ⟨⟨_, rfl⟩, .inr hx⟩
          ·
            exact absurd h3 (by simp)
      ·
        exact absurd trivial hg
    ·
      have h1 := of_decide_eq_false h1
      refine WI.exit hC.env.defers ?_
      refine KbI.here ?_
      refine leave0 ?_
      refine ret0 hC rfl ?_
      refine ⟨⟨_, rfl⟩, .inl ?_⟩
      have e : j = (moE s).length := by rw [moE_len]; omega
      rw [← e]; exact hj

theorem at_ok (s : Bo) (n : Int) (w0 : World) : Calls Try.prog 153 #[.agg (boE s).toArray, .int .i64 n] w0 fun e w' => e = .returned (.int .i64 (atR s n)) ∧ Frm Nob w0 w' := by
  refine (callsIn_wide (n := 0)).1 ?_
  show CallsIn (FR none) 0 _ _ _ _ _
  refine enterI (μ := []) (S := Nob) (vs := [.agg (boE s).toArray, .int .i64 n]) Try.func153 rfl Try.ntmps153 rfl (Mem.nil _) (by simp) (fun a hC => ?_)
  refine WI.seqk fun k1 hk1 => ?_
  refine WI.reg rfl ?_
  refine L.box hC rfl rfl rfl rfl rfl rfl ?_; clear hC a; intro db a w hF hC
  refine L.box hC rfl rfl rfl rfl rfl rfl ?_; clear hC a; intro nb a w hF hC
  refine L.alloc hC rfl rfl Try.zeroValue3 rfl rfl rfl ?_; clear hC a; intro rb a w hF hC
  refine L.nil ⟨hC.env.defers, ?_⟩
  refine hk1 _ _ _ ?_; clear hk1; try clear k1
  refine WI.seqk fun k2 hk2 => ?_
  refine WI.seqk fun k3 hk3 => ?_
  refine WI.reg rfl ?_
  refine L.lda hC rfl rfl rfl (fun _ => All.nil) m2 Try.isAgg193 Try.sizeOf193 rfl rfl rfl rfl ?_; clear hC a; intro a hC
  refine L.callg [] hC rfl rfl Try.call177 rfl (most_ok s _) (fun b h => h.elim) rfl rfl ?_; clear hC a; intro ob a w hQ hC
  refine L.nil ⟨hC.env.defers, ?_⟩
  refine hk3 _ _ _ ?_; clear hk3; try clear k3
  refine WI.block ?_
  replace hC := hC.fr3
  replace hC := hC.fr3
  replace hC := hC.fr3
  replace hC := hC.fr3
  refine WI.range (Y := Unit) (Z := Unit) (fun i (_ : Unit) => [blkR ob (boE s) 193, blkR rb [.int .i64 0] 3, blkR nb [.int .i64 n] 3, blkR db (boE s) 193]) (fun i _ => ∀ k : Nat, k < i → (k : Int) + 1 ≠ n) (fun i _ _ => [(6, (none, .int .i64 (moN s i))), (5, (none, .int .i64 ((i : Int) + 1))), (4, (none, .pointer (some ⟨rb, 0, none⟩))), (3, (none, .pointer (some ⟨nb, 0, none⟩))), (2, (none, .pointer (some ⟨db, 0, none⟩)))]) (fun i _ _ => [blkR ob (boE s) 193, blkR rb [.int .i64 0] 3, blkR nb [.int .i64 n] 3, blkR db (boE s) 193]) (fun c _ => match c with | .ret => [blkR ob (boE s) 193, blkR rb [.int .i64 (atR s n)] 3, blkR nb [.int .i64 n] 3, blkR db (boE s) 193] | _ => [noR]) () hC (by intro k hk; omega) rfl Try.call186 (most_iter ob s) (fun i x W hm => Mem.ro0 (ro_of (hm.at m0))) (moE_two s) (by decide) ?_ ?_ ?_ ?_
  · intro i x yl S' W a R hi hq hC
    have hxe := moE_get hi
    rw [hxe] at hC
    replace hC : Conf 18 S' W (pars [9, 10] [.int .i64 ((i : Int) + 1), .int .i64 (moN s i)] _) [blkR ob (boE s) 193, blkR rb [.int .i64 0] 3, blkR nb [.int .i64 n] 3, blkR db (boE s) 193, R] a W := hC
    refine WI.seqk fun k4 hk4 => ?_
    refine WI.reg rfl ?_
    refine L.pu hC rfl rfl (fun _ => All.nil) rfl rfl ?_; clear hC a; intro a hC
    refine L.nil ⟨hC.env.defers, ?_⟩
    refine hk4 _ _ _ ?_; clear hk4; try clear k4
    refine WI.reg rfl ?_
    refine L.pu hC rfl rfl (fun _ => All.nil) rfl rfl ?_; clear hC a; intro a hC
    refine L.nil ⟨hC.env.defers, ?_⟩
    replace hC := hC.fr4
    replace hC := hC.fr4
    replace hC := hC.fr4
    replace hC := hC.fr4
    replace hC := hC.fr4
    exact ⟨rfl, (), hC.keep ⟨rfl, rfl, rfl, rfl, rfl, trivial⟩⟩
  · intro i x y yl S' W W1 a R hi hq hC
    replace hC : Conf 18 S' W [(6, (none, .int .i64 (moN s i))), (5, (none, .int .i64 ((i : Int) + 1))), (4, (none, .pointer (some ⟨rb, 0, none⟩))), (3, (none, .pointer (some ⟨nb, 0, none⟩))), (2, (none, .pointer (some ⟨db, 0, none⟩)))] [blkR ob (boE s) 193, blkR rb [.int .i64 0] 3, blkR nb [.int .i64 n] 3, blkR db (boE s) 193, R] a W1 := hC
    refine WI.block ?_
    refine WI.seqk fun k5 hk5 => ?_
    refine WI.reg rfl ?_
    refine L.pu hC rfl rfl (fun _ => All.nil) rfl rfl ?_; clear hC a; intro a hC
    refine L.ld hC rfl rfl rfl (fun _ => All.nil) m2 Try.isAgg3 rfl rfl rfl ?_; clear hC a; intro a hC
    refine L.pu hC rfl rfl (fun _ => All.nil) rfl rfl ?_; clear hC a; intro a hC
    refine L.nil ⟨hC.env.defers, ?_⟩
    refine hk5 _ _ _ ?_; clear hk5; try clear k5
    refine WI.cond hC rfl (fun h1 => ?_) (fun h1 => ?_)
    ·
      refine WI.seqk fun k6 hk6 => ?_
      refine WI.reg rfl ?_
      refine L.pu hC rfl rfl (fun _ => All.nil) rfl rfl ?_; clear hC a; intro a hC
      replace hC := hC.fr1
      refine L.st hC rfl rfl rfl rfl Try.sizeOf3 rfl rfl rfl rfl rfl ?_; clear hC a; intro a w hF hC
      refine L.nil ⟨hC.env.defers, ?_⟩
      refine hk6 _ _ _ ?_; clear hk6; try clear k6
      refine WI.ret hC.env.defers ?_
      replace hC := hC.hd (r' := blkR rb [.int .i64 (atR s n)] 3) (congrArg (fun x => blkR rb [.int .i64 x] 3) (at_yes hi h1))
      replace hC := hC.fr4
      replace hC := hC.fr4
      replace hC := hC.fr4
      replace hC := hC.fr3
      replace hC := hC.fr4
      exact ⟨rfl, (), _, hC⟩
    ·
      refine WI.skip hC.env.defers ?_
      replace hC := hC.fr4
      replace hC := hC.fr4
      replace hC := hC.fr4
      replace hC := hC.fr4
      replace hC := hC.fr4
      exact ⟨rfl, (), _, fun k hk => (Nat.lt_succ_iff_lt_or_eq.1 hk).elim (hq k) (fun e => by rw [e]; simpa using h1), hC⟩
  · clear hC; intro D x w hD hq hC
    replace hC : Conf 18 Nob w0 _ [blkR ob (boE s) 193, blkR rb [.int .i64 0] 3, blkR nb [.int .i64 n] 3, blkR db (boE s) 193, markR D] a w := hC
    refine hk2 _ _ _ ?_; clear hk2; try clear k2
    refine WI.seqk fun k7 hk7 => ?_
    refine WI.reg rfl ?_
    refine L.fa hC rfl rfl rfl (fun _ => All.nil) Try.underlying193 rfl Try.sizeOf58 rfl rfl rfl ?_; clear hC a; intro a hC
    refine L.fa hC rfl rfl rfl (fun _ => All.nil) Try.underlying58 rfl Try.sizeOf3 rfl rfl rfl ?_; clear hC a; intro a hC
    refine L.ld hC rfl rfl rfl (fun _ => All.nil) m3 Try.isAgg3 rfl rfl rfl ?_; clear hC a; intro a hC
    replace hC := hC.fr1
    refine L.st hC rfl rfl rfl rfl Try.sizeOf3 rfl rfl rfl rfl rfl ?_; clear hC a; intro a w hF hC
    refine L.nil ⟨hC.env.defers, ?_⟩
    refine hk7 _ _ _ ?_; clear hk7; try clear k7
    refine WI.ret hC.env.defers ?_
    replace hC := hC.fr4
    refine leave1' hC hD (fun w hC => ?_)
    refine rets hC rfl (.one rfl m0 Try.isAgg3 .nil) ?_
    refine ⟨?_, hC.frm⟩
    exact congrArg (fun x => Ending.returned (.int .i64 x)) (at_no (fun k hk => hq k (by rw [moE_len]; exact hk)))
  · clear hC; intro D jc z w hD hc hC
    rcases hc with rfl | ⟨jj, rfl⟩
    · replace hC : Conf 18 Nob w0 _ [blkR ob (boE s) 193, blkR rb [.int .i64 (atR s n)] 3, blkR nb [.int .i64 n] 3, blkR db (boE s) 193, markR D] a w := hC
      refine WI.ret hC.env.defers ?_
      replace hC := hC.fr4
      refine leave1' hC hD (fun w hC => ?_)
      refine rets hC rfl (.one rfl m1 Try.isAgg3 .nil) ?_
      exact ⟨rfl, hC.frm⟩
    · exact (hC.at (r := noR) (by simp)).elim

theorem Most_ok (s : Bo) (n : Int) (w0 : World) : Calls Try.prog 125 #[.agg (boE s).toArray, .int .i64 n] w0 fun e w' => e = .returned (.tuple #[.int .i64 (mostR s n).1, .int .i64 (mostR s n).2]) ∧ Frm Nob w0 w' := by
  refine enter (μ := []) (S := Nob) (vs := [.agg (boE s).toArray, .int .i64 n]) Try.func125 rfl Try.ntmps125 rfl (Mem.nil _) (by simp) (fun a hC => ?_)
  refine W.seqk fun k1 hk1 => ?_
  refine W.region ?_
  refine L.box hC rfl rfl rfl rfl rfl rfl ?_; clear hC a; intro db a w hF hC
  refine L.pu hC rfl rfl (fun _ => All.nil) rfl rfl ?_; clear hC a; intro a hC
  refine L.pu hC rfl rfl (fun _ => All.nil) rfl rfl ?_; clear hC a; intro a hC
  refine L.nil ?_
  refine hk1 _ _ ?_; clear hk1; try clear k1
  refine W.seqk fun k2 hk2 => ?_
  refine W.seqk fun k3 hk3 => ?_
  refine W.region ?_
  refine L.lda hC rfl rfl rfl (fun _ => All.nil) m0 Try.isAgg58 Try.sizeOf58 rfl rfl rfl rfl ?_; clear hC a; intro a hC
  refine L.call hC rfl rfl Try.call90 rfl (fun _ => All.nil) (fun hg => boc_ok _ _) rfl rfl ?_; clear hC a; intro a w hF hC
  refine L.pu hC rfl rfl (fun _ => All.nil) rfl rfl ?_; clear hC a; intro a hC
  refine L.nil ?_
  refine hk3 _ _ ?_; clear hk3; try clear k3
  refine W.seqk fun k4 hk4 => ?_
  refine W.region ?_
  refine L.pu hC rfl rfl (fun _ => All.nil) rfl rfl ?_; clear hC a; intro a hC
  refine L.pu hC rfl rfl (fun _ => All.nil) rfl rfl ?_; clear hC a; intro a hC
  refine L.nil ?_
  refine hk4 _ _ ?_; clear hk4; try clear k4
  refine W.cond hC rfl (fun h1 => ?_) (fun h1 => ?_)
  ·
    refine W.seqk fun k5 hk5 => ?_
    refine W.region ?_
    refine L.pu hC rfl rfl (fun _ => All.nil) rfl rfl ?_; clear hC a; intro a hC
    refine L.pu hC rfl rfl (fun _ => All.nil) rfl rfl ?_; clear hC a; intro a hC
    refine L.pu hC rfl rfl (fun _ => All.nil) rfl rfl ?_; clear hC a; intro a hC
    refine L.nil ?_
    refine hk5 _ _ ?_; clear hk5; try clear k5
    refine W.ret ?_
    refine retl hC rfl (.tmp rfl (.tmp rfl .nil)) rfl ?_
    exact ⟨(by unfold mostR; rw [if_pos h1]; try rfl), hC.frm⟩
  ·
    refine W.skip ?_
    refine hk2 _ _ ?_; clear hk2; try clear k2
    refine W.seqk fun k6 hk6 => ?_
    refine W.seqk fun k7 hk7 => ?_
    refine W.region ?_
    refine L.pu hC rfl rfl (fun _ => All.nil) rfl rfl ?_; clear hC a; intro a hC
    refine L.pu hC rfl rfl (fun _ => All.nil) rfl rfl ?_; clear hC a; intro a hC
    refine L.pu hC rfl rfl (fun _ => All.nil) rfl rfl ?_; clear hC a; intro a hC
    refine L.pu hC rfl rfl (fun _ => All.nil) rfl rfl ?_; clear hC a; intro a hC
    refine L.pu hC rfl rfl (fun hg => by first | (simp only [Gt, Bool.and_eq_true] at hg; simp only [All, List.cons_append, List.nil_append, List.append_nil, List.mem_cons, List.not_mem_nil, or_false, forall_eq_or_imp, forall_eq, Bool.and_eq_true, hg, Bool.not_false, Bool.not_true, and_self]; done) | (simp only [Gt] at hg; simp only [All, List.cons_append, List.nil_append, List.append_nil, List.mem_cons, List.not_mem_nil, or_false, forall_eq_or_imp, forall_eq, hg, and_self])) rfl rfl ?_; clear hC a; intro a hC
    refine L.or hC rfl rfl rfl rfl (fun _ => All.nil) (fun _ hp => by first | (simp only [All, List.cons_append, List.nil_append, List.append_nil, List.mem_cons, List.not_mem_nil, or_false, forall_eq_or_imp, forall_eq, Bool.and_eq_true, hp, Bool.not_false, Bool.not_true, and_self]; done) | simp [All, hp]) rfl rfl ?_; clear hC a; intro a hC
    refine L.nil ?_
    refine hk7 _ _ ?_; clear hk7; try clear k7
    refine W.cond hC rfl (fun h2 => ?_) (fun h2 => ?_)
    ·
      refine W.seqk fun k8 hk8 => ?_
      refine W.region ?_
      refine L.pu hC rfl rfl (fun _ => All.nil) rfl rfl ?_; clear hC a; intro a hC
      refine L.pu hC rfl rfl (fun _ => All.nil) rfl rfl ?_; clear hC a; intro a hC
      refine L.nil ?_
      refine hk8 _ _ ?_; clear hk8; try clear k8
      refine W.ret ?_
      refine retl hC rfl (.tmp rfl (.tmp rfl .nil)) rfl ?_
      exact ⟨(by unfold mostR; rw [if_neg (nt h1), if_pos h2]; try rfl), hC.frm⟩
    ·
      refine W.skip ?_
      refine hk6 _ _ ?_; clear hk6; try clear k6
      refine W.seqk fun k9 hk9 => ?_
      refine W.region ?_
      refine L.lda hC rfl rfl rfl (fun _ => All.nil) m0 Try.isAgg58 Try.sizeOf58 rfl rfl rfl rfl ?_; clear hC a; intro a hC
      refine L.buildS (ps := [(0, 3)]) hC rfl rfl rfl (fun _ => All.nil) Try.zeroValue193 Try.underlying193 ⟨⟨rfl, Try.sizeOf58⟩, trivial⟩ rfl rfl rfl ?_; clear hC a; intro a hC
      refine L.pu hC rfl rfl (fun _ => All.nil) rfl rfl ?_; clear hC a; intro a hC
      refine L.call hC rfl rfl Try.call153 rfl (fun _ => All.nil) (fun hg => at_ok s n _) rfl rfl ?_; clear hC a; intro a w hF hC
      refine L.pu hC rfl rfl (fun _ => All.nil) rfl rfl ?_; clear hC a; intro a hC
      refine L.pu hC rfl rfl (fun _ => All.nil) rfl rfl ?_; clear hC a; intro a hC
      refine L.nil ?_
      refine hk9 _ _ ?_; clear hk9; try clear k9
      refine W.ret ?_
      refine retl hC rfl (.tmp rfl (.tmp rfl .nil)) rfl ?_
      exact ⟨(by unfold mostR; rw [if_neg (nt h1), if_neg (nt h2)]; try rfl), hC.frm⟩

theorem less_ok (s : Bo) (m d : Int) (w0 : World) : Calls Try.prog 126 #[.agg (boE s).toArray, .int .i64 m, .int .u64 d] w0 fun e w' => e = .returned (.int .i64 (lessR s m d)) ∧ Frm Nob w0 w' := by
  refine enter (μ := []) (S := Nob) (vs := [.agg (boE s).toArray, .int .i64 m, .int .u64 d]) Try.func126 rfl Try.ntmps126 rfl (Mem.nil _) (by simp) (fun a hC => ?_)
  refine W.seqk fun k1 hk1 => ?_
  refine W.region ?_
  refine L.box hC rfl rfl rfl rfl rfl rfl ?_; clear hC a; intro db a w hF hC
  refine L.pu hC rfl rfl (fun _ => All.nil) rfl rfl ?_; clear hC a; intro a hC
  refine L.nil ?_
  refine hk1 _ _ ?_; clear hk1; try clear k1
  refine W.seqk fun k2 hk2 => ?_
  refine W.region ?_
  refine L.pu hC rfl rfl (fun _ => All.nil) rfl rfl ?_; clear hC a; intro a hC
  refine L.pu hC rfl rfl (fun _ => All.nil) rfl rfl ?_; clear hC a; intro a hC
  refine L.fa hC rfl rfl rfl (fun _ => All.nil) Try.underlying193 rfl Try.sizeOf58 rfl rfl rfl ?_; clear hC a; intro a hC
  refine L.fa hC rfl rfl rfl (fun _ => All.nil) Try.underlying58 rfl Try.sizeOf3 rfl rfl rfl ?_; clear hC a; intro a hC
  refine L.ld hC rfl rfl rfl (fun _ => All.nil) m0 Try.isAgg3 rfl rfl rfl ?_; clear hC a; intro a hC
  refine L.pu hC rfl rfl (fun _ => All.nil) rfl rfl ?_; clear hC a; intro a hC
  refine L.bin hC rfl rfl rfl rfl (fun _ => All.nil) (fun _ => All.nil) (fun hg => run_quo (by decide) _) rfl rfl ?_; clear hC a; intro a hC
  refine L.pu hC rfl rfl (fun _ => All.nil) rfl rfl ?_; clear hC a; intro a hC
  refine L.min2 hC rfl rfl rfl rfl (fun _ => All.nil) (fun _ => All.nil) rfl rfl ?_; clear hC a; intro a hC
  refine L.call hC rfl rfl Try.call154 rfl (fun _ => All.nil) (fun hg => share_ok _ _ _) rfl rfl ?_; clear hC a; intro a w hF hC
  refine L.pu hC rfl rfl (fun _ => All.nil) rfl rfl ?_; clear hC a; intro a hC
  refine L.pu hC rfl rfl (fun _ => All.nil) rfl rfl ?_; clear hC a; intro a hC
  refine L.pu hC rfl rfl (fun _ => All.nil) rfl rfl ?_; clear hC a; intro a hC
  refine L.pu hC rfl rfl (fun _ => All.nil) rfl rfl ?_; clear hC a; intro a hC
  refine L.pu hC rfl rfl (fun _ => All.nil) rfl rfl ?_; clear hC a; intro a hC
  refine L.nil ?_
  refine hk2 _ _ ?_; clear hk2; try clear k2
  refine W.seqk fun k3 hk3 => ?_
  refine W.region ?_
  refine L.pu hC rfl rfl (fun _ => All.nil) rfl rfl ?_; clear hC a; intro a hC
  refine L.pu hC rfl rfl (fun _ => All.nil) rfl rfl ?_; clear hC a; intro a hC
  refine L.pu hC rfl rfl (fun _ => All.nil) rfl rfl ?_; clear hC a; intro a hC
  refine L.max2 hC rfl rfl rfl rfl (fun _ => All.nil) (fun _ => All.nil) rfl rfl ?_; clear hC a; intro a hC
  refine L.pu hC rfl rfl (fun _ => All.nil) rfl rfl ?_; clear hC a; intro a hC
  refine L.nil ?_
  refine hk3 _ _ ?_; clear hk3; try clear k3
  refine W.ret ?_
  refine rets hC rfl (.tmp rfl .nil) ?_
  refine ⟨?_, hC.frm⟩
  rfl

theorem Delay_ok (s : Bo) (n d : Int) (w0 : World) : Calls Try.prog 81 #[.agg (boE s).toArray, .int .i64 n, .int .u64 d] w0 fun e w' => e = .returned (.tuple #[.int .i64 (delR s n d).1, .int .i64 (delR s n d).2]) ∧ Frm Nob w0 w' := by
  refine enter (μ := []) (S := Nob) (vs := [.agg (boE s).toArray, .int .i64 n, .int .u64 d]) Try.func81 rfl Try.ntmps81 rfl (Mem.nil _) (by simp) (fun a hC => ?_)
  refine W.seqk fun k1 hk1 => ?_
  refine W.region ?_
  refine L.box hC rfl rfl rfl rfl rfl rfl ?_; clear hC a; intro db a w hF hC
  refine L.pu hC rfl rfl (fun _ => All.nil) rfl rfl ?_; clear hC a; intro a hC
  refine L.pu hC rfl rfl (fun _ => All.nil) rfl rfl ?_; clear hC a; intro a hC
  refine L.nil ?_
  refine hk1 _ _ ?_; clear hk1; try clear k1
  refine W.seqk fun k2 hk2 => ?_
  refine W.region ?_
  refine L.lda hC rfl rfl rfl (fun _ => All.nil) m0 Try.isAgg58 Try.sizeOf58 rfl rfl rfl rfl ?_; clear hC a; intro a hC
  refine L.pu hC rfl rfl (fun _ => All.nil) rfl rfl ?_; clear hC a; intro a hC
  refine L.call hC rfl rfl Try.call125 rfl (fun _ => All.nil) (fun hg => Most_ok s n _) rfl rfl ?_; clear hC a; intro a w hF hC
  refine L.pu hC rfl rfl (fun _ => All.nil) rfl rfl ?_; clear hC a; intro a hC
  refine L.pu hC rfl rfl (fun _ => All.nil) rfl rfl ?_; clear hC a; intro a hC
  refine L.pu hC rfl rfl (fun _ => All.nil) rfl rfl ?_; clear hC a; intro a hC
  refine L.pu hC rfl rfl (fun _ => All.nil) rfl rfl ?_; clear hC a; intro a hC
  refine L.pu hC rfl rfl (fun _ => All.nil) rfl rfl ?_; clear hC a; intro a hC
  refine L.nil ?_
  refine hk2 _ _ ?_; clear hk2; try clear k2
  refine W.seqk fun k3 hk3 => ?_
  refine W.seqk fun k4 hk4 => ?_
  refine W.region ?_
  refine L.pu hC rfl rfl (fun _ => All.nil) rfl rfl ?_; clear hC a; intro a hC
  refine L.pu hC rfl rfl (fun _ => All.nil) rfl rfl ?_; clear hC a; intro a hC
  refine L.nil ?_
  refine hk4 _ _ ?_; clear hk4; try clear k4
  refine W.cond hC rfl (fun h1 => ?_) (fun h1 => ?_)
  ·
    refine W.seqk fun k5 hk5 => ?_
    refine W.region ?_
    refine L.pu hC rfl rfl (fun _ => All.nil) rfl rfl ?_; clear hC a; intro a hC
    refine L.pu hC rfl rfl (fun _ => All.nil) rfl rfl ?_; clear hC a; intro a hC
    refine L.pu hC rfl rfl (fun _ => All.nil) rfl rfl ?_; clear hC a; intro a hC
    refine L.nil ?_
    refine hk5 _ _ ?_; clear hk5; try clear k5
    refine W.ret ?_
    refine retl hC rfl (.tmp rfl (.tmp rfl .nil)) rfl ?_
    exact ⟨(by unfold delR; rw [if_pos h1]; try rfl), hC.frm⟩
  ·
    refine W.skip ?_
    refine hk3 _ _ ?_; clear hk3; try clear k3
    refine W.seqk fun k6 hk6 => ?_
    refine W.region ?_
    refine L.lda hC rfl rfl rfl (fun _ => All.nil) m0 Try.isAgg58 Try.sizeOf58 rfl rfl rfl rfl ?_; clear hC a; intro a hC
    refine L.buildS (ps := [(0, 3)]) hC rfl rfl rfl (fun _ => All.nil) Try.zeroValue193 Try.underlying193 ⟨⟨rfl, Try.sizeOf58⟩, trivial⟩ rfl rfl rfl ?_; clear hC a; intro a hC
    refine L.pu hC rfl rfl (fun _ => All.nil) rfl rfl ?_; clear hC a; intro a hC
    refine L.pu hC rfl rfl (fun _ => All.nil) rfl rfl ?_; clear hC a; intro a hC
    refine L.call hC rfl rfl Try.call126 rfl (fun _ => All.nil) (fun hg => less_ok s (mostR s n).1 d _) rfl rfl ?_; clear hC a; intro a w hF hC
    refine L.pu hC rfl rfl (fun _ => All.nil) rfl rfl ?_; clear hC a; intro a hC
    refine L.pu hC rfl rfl (fun _ => All.nil) rfl rfl ?_; clear hC a; intro a hC
    refine L.nil ?_
    refine hk6 _ _ ?_; clear hk6; try clear k6
    refine W.ret ?_
    refine retl hC rfl (.tmp rfl (.tmp rfl .nil)) rfl ?_
    exact ⟨(by unfold delR; rw [if_neg (nt h1)]; try rfl), hC.frm⟩

theorem hedges_ok (mb : Nat) (c : CallH) (v : Value) (s : CSet) (l : List Att) (tick wait : Int) (hl : 0 < l.length) (w0 : World) (hm : (robR mb (askE c v s) 143).ok w0) (hr : (rdR v attE l).ok w0) : Calls Try.prog 130 #[.pointer (some ⟨mb, 0, none⟩), .int .i64 tick, .int .i64 wait] w0 fun e w' => e = .returned (.bool (hedgesR c s l tick wait)) ∧ Frm Nob w0 w' := by
  have hlen := rd_lt hr
  refine enter (μ := [robR mb (askE c v s) 143, rdR v attE l]) (S := Nob) (vs := [.pointer (some ⟨mb, 0, none⟩), .int .i64 tick, .int .i64 wait]) Try.func130 rfl Try.ntmps130 rfl (Mem.ro1 hm hr) (by simp [robR, rdR]) (fun a hC => ?_)
  refine W.seqk fun k1 hk1 => ?_
  refine W.region ?_
  refine L.pu hC rfl rfl (fun _ => All.nil) rfl rfl ?_; clear hC a; intro a hC
  refine L.nil ?_
  refine hk1 _ _ ?_; clear hk1; try clear k1
  refine W.seqk fun k2 hk2 => ?_
  refine W.region ?_
  refine L.pu hC rfl rfl (fun _ => All.nil) rfl rfl ?_; clear hC a; intro a hC
  refine L.call hC rfl rfl Try.call80 rfl (fun _ => All.nil) (fun hg => counts_ok mb c v s l _ (hC.at m0) (hC.at m1)) rfl rfl ?_; clear hC a; intro a w hF hC
  refine L.pu hC rfl rfl (fun _ => All.nil) rfl rfl ?_; clear hC a; intro a hC
  refine L.pu hC rfl rfl (fun _ => All.nil) rfl rfl ?_; clear hC a; intro a hC
  refine L.pu hC rfl rfl (fun _ => All.nil) rfl rfl ?_; clear hC a; intro a hC
  refine L.pu hC rfl rfl (fun _ => All.nil) rfl rfl ?_; clear hC a; intro a hC
  refine L.pu hC rfl rfl (fun _ => All.nil) rfl rfl ?_; clear hC a; intro a hC
  refine L.nil ?_
  refine hk2 _ _ ?_; clear hk2; try clear k2
  refine W.seqk fun k3 hk3 => ?_
  refine W.drawD hC Try.mixed rfl rfl ?_
  apply DRN.cons (.det _ _) rfl
  · intro a w hC
    refine L.pu hC rfl rfl (fun _ => All.nil) rfl rfl ?_; clear hC a; intro a hC
    exact L.nil ⟨⟨_, [], hC⟩, Frm.refl _ _⟩
  apply DRN.cons (.det _ _) rfl
  · intro a w hC
    refine L.pu hC rfl rfl (fun _ => All.nil) rfl rfl ?_; clear hC a; intro a hC
    exact L.nil ⟨⟨_, [], hC⟩, Frm.refl _ _⟩
  apply DRN.cons (.det _ _) rfl
  · intro a w hC
    refine L.fa hC rfl rfl rfl (fun _ => All.nil) Try.underlying143 rfl Try.sizeOf56 rfl rfl rfl ?_; clear hC a; intro a hC
    exact L.nil ⟨⟨_, [], hC⟩, Frm.refl _ _⟩
  apply DRN.cons (.det _ _) rfl
  · intro a w hC
    refine L.fa hC rfl rfl rfl (fun _ => All.nil) Try.underlying56 rfl Try.sizeOf54 rfl rfl rfl ?_; clear hC a; intro a hC
    exact L.nil ⟨⟨_, [], hC⟩, Frm.refl _ _⟩
  apply DRN.cons (.det _ _) rfl
  · intro a w hC
    refine L.ldr hC rfl rfl rfl (fun _ => All.nil) m0 Try.isAgg54 rfl rfl rfl ?_; clear hC a; intro a hC
    exact L.nil ⟨⟨_, [], hC⟩, Frm.refl _ _⟩
  apply DRN.cons (.det _ _) rfl
  · intro a w hC
    refine L.pu hC rfl rfl (fun _ => All.nil) rfl rfl ?_; clear hC a; intro a hC
    exact L.nil ⟨⟨_, [], hC⟩, Frm.refl _ _⟩
  apply DRN.cons (.det _ _) rfl
  · intro a w hC
    refine L.pu hC rfl rfl (fun _ => All.nil) rfl rfl ?_; clear hC a; intro a hC
    exact L.nil ⟨⟨_, [], hC⟩, Frm.refl _ _⟩
  apply DRN.cons (.det _ _) rfl
  · intro a w hC
    refine L.fa hC rfl rfl rfl (fun _ => All.nil) Try.underlying143 rfl Try.sizeOf56 rfl rfl rfl ?_; clear hC a; intro a hC
    exact L.nil ⟨⟨_, [], hC⟩, Frm.refl _ _⟩
  apply DRN.cons (.det _ _) rfl
  · intro a w hC
    refine L.fa hC rfl rfl rfl (fun _ => All.nil) Try.underlying56 rfl Try.sizeOf54 rfl rfl rfl ?_; clear hC a; intro a hC
    exact L.nil ⟨⟨_, [], hC⟩, Frm.refl _ _⟩
  apply DRN.cons (.det _ _) rfl
  · intro a w hC
    refine L.ldr hC rfl rfl rfl (fun _ => All.nil) m0 Try.isAgg54 rfl rfl rfl ?_; clear hC a; intro a hC
    exact L.nil ⟨⟨_, [], hC⟩, Frm.refl _ _⟩
  apply DRN.cons (.det _ _) rfl
  · intro a w hC
    refine L.len hC rfl rfl rfl (fun _ => All.nil) (rd_form (hC.at m1)) Try.underlying54 rfl rfl ?_; clear hC a; intro a hC
    exact L.nil ⟨⟨_, [], hC⟩, Frm.refl _ _⟩
  apply DRN.cons (.det _ _) rfl
  · intro a w hC
    refine L.pu hC rfl rfl (fun _ => All.nil) rfl rfl ?_; clear hC a; intro a hC
    exact L.nil ⟨⟨_, [], hC⟩, Frm.refl _ _⟩
  apply DRN.cons (.det _ _) rfl
  · intro a w hC
    refine L.ixr hC rfl rfl rfl rfl m1 (fun _ => All.nil) (fun _ => All.nil) Try.underlying54 Try.sizeOf65 (fun _ => by rw [w64 (show -9223372036854775808 ≤ (l.length : Int) - 1 ∧ (l.length : Int) - 1 ≤ 9223372036854775807 by omega)]; omega) rfl rfl ?_; clear hC a; intro a hC
    exact L.nil ⟨⟨_, [], hC⟩, Frm.refl _ _⟩
  apply DRN.cons (.det _ _) rfl
  · intro a w hC
    refine L.fae hC rfl rfl rfl (fun _ => All.nil) Try.underlying65 rfl Try.sizeOf3 rfl (fun hg => rd_some (hC.at m1) (by first | exact hl | (rw [w64 (by omega)]; omega))) rfl rfl ?_; clear hC a; intro a hC
    exact L.nil ⟨⟨_, [], hC⟩, Frm.refl _ _⟩
  apply DRN.cons (.det _ _) rfl
  · intro a w hC
    refine L.ldx hC rfl rfl rfl rfl (fun _ => All.nil) (fun hg => rd_bang hC m1 (by first | exact hl | (rw [w64 (by omega)]; omega)) _) Try.isAgg3 rfl rfl rfl ?_; clear hC a; intro a hC
    exact L.nil ⟨⟨_, [], hC⟩, Frm.refl _ _⟩
  apply DRN.cons (.det _ _) rfl
  · intro a w hC
    refine L.pu hC rfl rfl (fun _ => All.nil) rfl rfl ?_; clear hC a; intro a hC
    exact L.nil ⟨⟨_, [], hC⟩, Frm.refl _ _⟩
  refine DRN.nil (fun w' hF => ?_)
  intro a w hC hw
  subst hw
  refine hk3 _ _ ?_; clear hk3; try clear k3
  refine W.seqk fun k4 hk4 => ?_
  refine W.region ?_
  refine L.pu hC rfl rfl (fun _ => All.nil) rfl rfl ?_; clear hC a; intro a hC
  refine L.pu hC rfl rfl (fun _ => All.nil) rfl rfl ?_; clear hC a; intro a hC
  refine L.pu hC rfl rfl (fun _ => All.nil) rfl rfl ?_; clear hC a; intro a hC
  refine L.pu hC rfl rfl (fun _ => All.nil) rfl rfl ?_; clear hC a; intro a hC
  refine L.pu hC rfl rfl (fun hg => by first | (simp only [Gt, Bool.and_eq_true] at hg; simp only [All, List.cons_append, List.nil_append, List.append_nil, List.mem_cons, List.not_mem_nil, or_false, forall_eq_or_imp, forall_eq, Bool.and_eq_true, hg, Bool.not_false, Bool.not_true, and_self]; done) | (simp only [Gt] at hg; simp only [All, List.cons_append, List.nil_append, List.append_nil, List.mem_cons, List.not_mem_nil, or_false, forall_eq_or_imp, forall_eq, hg, and_self])) rfl rfl ?_; clear hC a; intro a hC
  refine L.fa hC rfl rfl rfl (fun hg => by first | (simp only [Gt, Bool.and_eq_true] at hg; simp only [All, List.cons_append, List.nil_append, List.append_nil, List.mem_cons, List.not_mem_nil, or_false, forall_eq_or_imp, forall_eq, Bool.and_eq_true, hg, Bool.not_false, Bool.not_true, and_self]; done) | (simp only [Gt] at hg; simp only [All, List.cons_append, List.nil_append, List.append_nil, List.mem_cons, List.not_mem_nil, or_false, forall_eq_or_imp, forall_eq, hg, and_self])) Try.underlying143 rfl Try.sizeOf56 rfl rfl rfl ?_; clear hC a; intro a hC
  refine L.fa hC rfl rfl rfl (fun hg => by first | (simp only [Gt, Bool.and_eq_true] at hg; simp only [All, List.cons_append, List.nil_append, List.append_nil, List.mem_cons, List.not_mem_nil, or_false, forall_eq_or_imp, forall_eq, Bool.and_eq_true, hg, Bool.not_false, Bool.not_true, and_self]; done) | (simp only [Gt] at hg; simp only [All, List.cons_append, List.nil_append, List.append_nil, List.mem_cons, List.not_mem_nil, or_false, forall_eq_or_imp, forall_eq, hg, and_self])) Try.underlying56 rfl Try.sizeOf4 rfl rfl rfl ?_; clear hC a; intro a hC
  refine L.ldr hC rfl rfl rfl (fun hg => by first | (simp only [Gt, Bool.and_eq_true] at hg; simp only [All, List.cons_append, List.nil_append, List.append_nil, List.mem_cons, List.not_mem_nil, or_false, forall_eq_or_imp, forall_eq, Bool.and_eq_true, hg, Bool.not_false, Bool.not_true, and_self]; done) | (simp only [Gt] at hg; simp only [All, List.cons_append, List.nil_append, List.append_nil, List.mem_cons, List.not_mem_nil, or_false, forall_eq_or_imp, forall_eq, hg, and_self])) m0 Try.isAgg4 rfl rfl rfl ?_; clear hC a; intro a hC
  refine L.pu hC rfl rfl (fun hg => by first | (simp only [Gt, Bool.and_eq_true] at hg; simp only [All, List.cons_append, List.nil_append, List.append_nil, List.mem_cons, List.not_mem_nil, or_false, forall_eq_or_imp, forall_eq, Bool.and_eq_true, hg, Bool.not_false, Bool.not_true, and_self]; done) | (simp only [Gt] at hg; simp only [All, List.cons_append, List.nil_append, List.append_nil, List.mem_cons, List.not_mem_nil, or_false, forall_eq_or_imp, forall_eq, hg, and_self])) rfl rfl ?_; clear hC a; intro a hC
  refine L.and hC rfl rfl rfl rfl (fun _ => All.nil) (fun _ hp => by first | (simp only [All, List.cons_append, List.nil_append, List.append_nil, List.mem_cons, List.not_mem_nil, or_false, forall_eq_or_imp, forall_eq, Bool.and_eq_true, hp, Bool.not_false, Bool.not_true, and_self]; done) | simp [All, hp]) rfl rfl ?_; clear hC a; intro a hC
  refine L.pu hC rfl rfl (fun _ => All.nil) rfl rfl ?_; clear hC a; intro a hC
  refine L.pu hC rfl rfl (fun _ => All.nil) rfl rfl ?_; clear hC a; intro a hC
  refine L.pu hC rfl rfl (fun _ => All.nil) rfl rfl ?_; clear hC a; intro a hC
  refine L.pu hC rfl rfl (fun hg => by first | (simp only [Gt, Bool.and_eq_true] at hg; simp only [All, List.cons_append, List.nil_append, List.append_nil, List.mem_cons, List.not_mem_nil, or_false, forall_eq_or_imp, forall_eq, Bool.and_eq_true, hg, Bool.not_false, Bool.not_true, and_self]; done) | (simp only [Gt] at hg; simp only [All, List.cons_append, List.nil_append, List.append_nil, List.mem_cons, List.not_mem_nil, or_false, forall_eq_or_imp, forall_eq, hg, and_self])) rfl rfl ?_; clear hC a; intro a hC
  refine L.fa hC rfl rfl rfl (fun hg => by first | (simp only [Gt, Bool.and_eq_true] at hg; simp only [All, List.cons_append, List.nil_append, List.append_nil, List.mem_cons, List.not_mem_nil, or_false, forall_eq_or_imp, forall_eq, Bool.and_eq_true, hg, Bool.not_false, Bool.not_true, and_self]; done) | (simp only [Gt] at hg; simp only [All, List.cons_append, List.nil_append, List.append_nil, List.mem_cons, List.not_mem_nil, or_false, forall_eq_or_imp, forall_eq, hg, and_self])) Try.underlying143 rfl Try.sizeOf60 rfl rfl rfl ?_; clear hC a; intro a hC
  refine L.fa hC rfl rfl rfl (fun hg => by first | (simp only [Gt, Bool.and_eq_true] at hg; simp only [All, List.cons_append, List.nil_append, List.append_nil, List.mem_cons, List.not_mem_nil, or_false, forall_eq_or_imp, forall_eq, Bool.and_eq_true, hg, Bool.not_false, Bool.not_true, and_self]; done) | (simp only [Gt] at hg; simp only [All, List.cons_append, List.nil_append, List.append_nil, List.mem_cons, List.not_mem_nil, or_false, forall_eq_or_imp, forall_eq, hg, and_self])) Try.underlying60 rfl Try.sizeOf3 rfl rfl rfl ?_; clear hC a; intro a hC
  refine L.ldr hC rfl rfl rfl (fun hg => by first | (simp only [Gt, Bool.and_eq_true] at hg; simp only [All, List.cons_append, List.nil_append, List.append_nil, List.mem_cons, List.not_mem_nil, or_false, forall_eq_or_imp, forall_eq, Bool.and_eq_true, hg, Bool.not_false, Bool.not_true, and_self]; done) | (simp only [Gt] at hg; simp only [All, List.cons_append, List.nil_append, List.append_nil, List.mem_cons, List.not_mem_nil, or_false, forall_eq_or_imp, forall_eq, hg, and_self])) m0 Try.isAgg3 rfl rfl rfl ?_; clear hC a; intro a hC
  refine L.pu hC rfl rfl (fun hg => by first | (simp only [Gt, Bool.and_eq_true] at hg; simp only [All, List.cons_append, List.nil_append, List.append_nil, List.mem_cons, List.not_mem_nil, or_false, forall_eq_or_imp, forall_eq, Bool.and_eq_true, hg, Bool.not_false, Bool.not_true, and_self]; done) | (simp only [Gt] at hg; simp only [All, List.cons_append, List.nil_append, List.append_nil, List.mem_cons, List.not_mem_nil, or_false, forall_eq_or_imp, forall_eq, hg, and_self])) rfl rfl ?_; clear hC a; intro a hC
  refine L.and hC rfl rfl rfl rfl (fun _ => All.nil) (fun _ hp => by first | (simp only [All, List.cons_append, List.nil_append, List.append_nil, List.mem_cons, List.not_mem_nil, or_false, forall_eq_or_imp, forall_eq, Bool.and_eq_true, hp, Bool.not_false, Bool.not_true, and_self]; done) | simp [All, hp]) rfl rfl ?_; clear hC a; intro a hC
  refine L.pu hC rfl rfl (fun _ => All.nil) rfl rfl ?_; clear hC a; intro a hC
  refine L.pu hC rfl rfl (fun _ => All.nil) rfl rfl ?_; clear hC a; intro a hC
  refine L.pu hC rfl rfl (fun _ => All.nil) rfl rfl ?_; clear hC a; intro a hC
  refine L.pu hC rfl rfl (fun hg => by first | (simp only [Gt, Bool.and_eq_true] at hg; simp only [All, List.cons_append, List.nil_append, List.append_nil, List.mem_cons, List.not_mem_nil, or_false, forall_eq_or_imp, forall_eq, Bool.and_eq_true, hg, Bool.not_false, Bool.not_true, and_self]; done) | (simp only [Gt] at hg; simp only [All, List.cons_append, List.nil_append, List.append_nil, List.mem_cons, List.not_mem_nil, or_false, forall_eq_or_imp, forall_eq, hg, and_self])) rfl rfl ?_; clear hC a; intro a hC
  refine L.and hC rfl rfl rfl rfl (fun _ => All.nil) (fun _ hp => by first | (simp only [All, List.cons_append, List.nil_append, List.append_nil, List.mem_cons, List.not_mem_nil, or_false, forall_eq_or_imp, forall_eq, Bool.and_eq_true, hp, Bool.not_false, Bool.not_true, and_self]; done) | simp [All, hp]) rfl rfl ?_; clear hC a; intro a hC
  refine L.pu hC rfl rfl (fun _ => All.nil) rfl rfl ?_; clear hC a; intro a hC
  refine L.pu hC rfl rfl (fun _ => All.nil) rfl rfl ?_; clear hC a; intro a hC
  refine L.pu hC rfl rfl (fun _ => All.nil) rfl rfl ?_; clear hC a; intro a hC
  refine L.pu hC rfl rfl (fun hg => by first | (simp only [Gt, Bool.and_eq_true] at hg; simp only [All, List.cons_append, List.nil_append, List.append_nil, List.mem_cons, List.not_mem_nil, or_false, forall_eq_or_imp, forall_eq, Bool.and_eq_true, hg, Bool.not_false, Bool.not_true, and_self]; done) | (simp only [Gt] at hg; simp only [All, List.cons_append, List.nil_append, List.append_nil, List.mem_cons, List.not_mem_nil, or_false, forall_eq_or_imp, forall_eq, hg, and_self])) rfl rfl ?_; clear hC a; intro a hC
  refine L.pu hC rfl rfl (fun _ => All.nil) rfl rfl ?_; clear hC a; intro a hC
  refine L.pu hC rfl rfl (fun hg => by first | (simp only [Gt, Bool.and_eq_true] at hg; simp only [All, List.cons_append, List.nil_append, List.append_nil, List.mem_cons, List.not_mem_nil, or_false, forall_eq_or_imp, forall_eq, Bool.and_eq_true, hg, Bool.not_false, Bool.not_true, and_self]; done) | (simp only [Gt] at hg; simp only [All, List.cons_append, List.nil_append, List.append_nil, List.mem_cons, List.not_mem_nil, or_false, forall_eq_or_imp, forall_eq, hg, and_self])) rfl rfl ?_; clear hC a; intro a hC
  refine L.and hC rfl rfl rfl rfl (fun _ => All.nil) (fun _ hp => by first | (simp only [All, List.cons_append, List.nil_append, List.append_nil, List.mem_cons, List.not_mem_nil, or_false, forall_eq_or_imp, forall_eq, Bool.and_eq_true, hp, Bool.not_false, Bool.not_true, and_self]; done) | simp [All, hp]) rfl rfl ?_; clear hC a; intro a hC
  refine L.pu hC rfl rfl (fun _ => All.nil) rfl rfl ?_; clear hC a; intro a hC
  refine L.nil ?_
  refine hk4 _ _ ?_; clear hk4; try clear k4
  refine W.ret ?_
  refine rets hC rfl (.tmp rfl .nil) ?_
  refine ⟨?_, hC.frm⟩
  rfl

theorem plan_ok (mb : Nat) (c : CallH) (v : Value) (s : CSet) (l : List Att) (tick wait : Int) (w0 : World) (hm : (robR mb (askE c v s) 143).ok w0) (hr : (rdR v attE l).ok w0) : Calls Try.prog 85 #[.pointer (some ⟨mb, 0, none⟩), .int .i64 tick, .int .i64 wait] w0 fun e w' => e = .returned (.int .i64 (planR c s l tick wait)) ∧ Frm Nob w0 w' := by
  have hlen := rd_lt hr
  refine enter (μ := [robR mb (askE c v s) 143, rdR v attE l]) (S := Nob) (vs := [.pointer (some ⟨mb, 0, none⟩), .int .i64 tick, .int .i64 wait]) Try.func85 rfl Try.ntmps85 rfl (Mem.ro1 hm hr) (by simp [robR, rdR]) (fun a hC => ?_)
  refine W.seqk fun k1 hk1 => ?_
  refine W.region ?_
  refine L.pu hC rfl rfl (fun _ => All.nil) rfl rfl ?_; clear hC a; intro a hC
  refine L.nil ?_
  refine hk1 _ _ ?_; clear hk1; try clear k1
  refine W.seqk fun k2 hk2 => ?_
  refine W.region ?_
  refine L.pu hC rfl rfl (fun _ => All.nil) rfl rfl ?_; clear hC a; intro a hC
  refine L.call hC rfl rfl Try.call80 rfl (fun _ => All.nil) (fun hg => counts_ok mb c v s l _ (hC.at m0) (hC.at m1)) rfl rfl ?_; clear hC a; intro a w hF hC
  refine L.pu hC rfl rfl (fun _ => All.nil) rfl rfl ?_; clear hC a; intro a hC
  refine L.pu hC rfl rfl (fun _ => All.nil) rfl rfl ?_; clear hC a; intro a hC
  refine L.pu hC rfl rfl (fun _ => All.nil) rfl rfl ?_; clear hC a; intro a hC
  refine L.pu hC rfl rfl (fun _ => All.nil) rfl rfl ?_; clear hC a; intro a hC
  refine L.pu hC rfl rfl (fun _ => All.nil) rfl rfl ?_; clear hC a; intro a hC
  refine L.nil ?_
  refine hk2 _ _ ?_; clear hk2; try clear k2
  refine W.seqk fun k3 hk3 => ?_
  refine W.block ?_
  refine W.seqk fun k4 hk4 => ?_
  refine W.region ?_
  refine L.pu hC rfl rfl (fun _ => All.nil) rfl rfl ?_; clear hC a; intro a hC
  refine L.pu hC rfl rfl (fun _ => All.nil) rfl rfl ?_; clear hC a; intro a hC
  refine L.pu hC rfl rfl (fun _ => All.nil) rfl rfl ?_; clear hC a; intro a hC
  refine L.fa hC rfl rfl rfl (fun _ => All.nil) Try.underlying143 rfl Try.sizeOf56 rfl rfl rfl ?_; clear hC a; intro a hC
  refine L.fa hC rfl rfl rfl (fun _ => All.nil) Try.underlying56 rfl Try.sizeOf3 rfl rfl rfl ?_; clear hC a; intro a hC
  refine L.ldr hC rfl rfl rfl (fun _ => All.nil) m0 Try.isAgg3 rfl rfl rfl ?_; clear hC a; intro a hC
  refine L.pu hC rfl rfl (fun _ => All.nil) rfl rfl ?_; clear hC a; intro a hC
  refine L.pu hC rfl rfl (fun _ => All.nil) rfl rfl ?_; clear hC a; intro a hC
  refine L.nil ?_
  refine hk4 _ _ ?_; clear hk4; try clear k4
  refine W.cond hC rfl (fun h1 => ?_) (fun h1 => ?_)
  ·
    refine W.seqk fun k5 hk5 => ?_
    refine W.region ?_
    refine L.pu hC rfl rfl (fun _ => All.nil) rfl rfl ?_; clear hC a; intro a hC
    refine L.nil ?_
    refine hk5 _ _ ?_; clear hk5; try clear k5
    refine W.ret ?_
    refine rets hC rfl (.tmp rfl .nil) ?_
    exact ⟨(by unfold planR; rw [if_pos h1]; try rfl), hC.frm⟩
  ·
    refine W.seqk fun k6 hk6 => ?_
    refine W.region ?_
    refine L.pu hC rfl rfl (fun _ => All.nil) rfl rfl ?_; clear hC a; intro a hC
    refine L.pu hC rfl rfl (fun _ => All.nil) rfl rfl ?_; clear hC a; intro a hC
    refine L.fa hC rfl rfl rfl (fun _ => All.nil) Try.underlying143 rfl Try.sizeOf56 rfl rfl rfl ?_; clear hC a; intro a hC
    refine L.fa hC rfl rfl rfl (fun _ => All.nil) Try.underlying56 rfl Try.sizeOf54 rfl rfl rfl ?_; clear hC a; intro a hC
    refine L.ldr hC rfl rfl rfl (fun _ => All.nil) m0 Try.isAgg54 rfl rfl rfl ?_; clear hC a; intro a hC
    refine L.len hC rfl rfl rfl (fun _ => All.nil) (rd_form (hC.at m1)) Try.underlying54 rfl rfl ?_; clear hC a; intro a hC
    refine L.pu hC rfl rfl (fun _ => All.nil) rfl rfl ?_; clear hC a; intro a hC
    refine L.pu hC rfl rfl (fun _ => All.nil) rfl rfl ?_; clear hC a; intro a hC
    refine L.nil ?_
    refine hk6 _ _ ?_; clear hk6; try clear k6
    refine W.cond hC rfl (fun h2 => ?_) (fun h2 => ?_)
    ·
      refine W.seqk fun k7 hk7 => ?_
      refine W.region ?_
      refine L.pu hC rfl rfl (fun _ => All.nil) rfl rfl ?_; clear hC a; intro a hC
      refine L.nil ?_
      refine hk7 _ _ ?_; clear hk7; try clear k7
      refine W.ret ?_
      refine rets hC rfl (.tmp rfl .nil) ?_
      exact ⟨(by unfold planR; rw [if_neg (nt h1), if_pos h2]; try rfl), hC.frm⟩
    ·
      refine W.seqk fun k8 hk8 => ?_
      refine W.drawD hC Try.mixed rfl rfl ?_
      apply DRN.cons (.det _ _) rfl
      · intro a w hC
        refine L.pu hC rfl rfl (fun _ => All.nil) rfl rfl ?_; clear hC a; intro a hC
        exact L.nil ⟨⟨_, [], hC⟩, Frm.refl _ _⟩
      apply DRN.cons (.det _ _) rfl
      · intro a w hC
        refine L.pu hC rfl rfl (fun _ => All.nil) rfl rfl ?_; clear hC a; intro a hC
        exact L.nil ⟨⟨_, [], hC⟩, Frm.refl _ _⟩
      apply DRN.cons (.det _ _) rfl
      · intro a w hC
        refine L.fa hC rfl rfl rfl (fun _ => All.nil) Try.underlying143 rfl Try.sizeOf56 rfl rfl rfl ?_; clear hC a; intro a hC
        exact L.nil ⟨⟨_, [], hC⟩, Frm.refl _ _⟩
      apply DRN.cons (.det _ _) rfl
      · intro a w hC
        refine L.fa hC rfl rfl rfl (fun _ => All.nil) Try.underlying56 rfl Try.sizeOf54 rfl rfl rfl ?_; clear hC a; intro a hC
        exact L.nil ⟨⟨_, [], hC⟩, Frm.refl _ _⟩
      apply DRN.cons (.det _ _) rfl
      · intro a w hC
        refine L.ldr hC rfl rfl rfl (fun _ => All.nil) m0 Try.isAgg54 rfl rfl rfl ?_; clear hC a; intro a hC
        exact L.nil ⟨⟨_, [], hC⟩, Frm.refl _ _⟩
      apply DRN.cons (.det _ _) rfl
      · intro a w hC
        refine L.len hC rfl rfl rfl (fun _ => All.nil) (rd_form (hC.at m1)) Try.underlying54 rfl rfl ?_; clear hC a; intro a hC
        exact L.nil ⟨⟨_, [], hC⟩, Frm.refl _ _⟩
      apply DRN.cons (.det _ _) rfl
      · intro a w hC
        refine L.pu hC rfl rfl (fun _ => All.nil) rfl rfl ?_; clear hC a; intro a hC
        exact L.nil ⟨⟨_, [], hC⟩, Frm.refl _ _⟩
      apply DRN.cons (.det _ _) rfl
      · intro a w hC
        refine L.pu hC rfl rfl (fun _ => All.nil) rfl rfl ?_; clear hC a; intro a hC
        exact L.nil ⟨⟨_, [], hC⟩, Frm.refl _ _⟩
      apply DRN.cons (.det _ _) rfl
      · intro a w hC
        refine L.fa hC rfl rfl rfl (fun _ => All.nil) Try.underlying143 rfl Try.sizeOf60 rfl rfl rfl ?_; clear hC a; intro a hC
        exact L.nil ⟨⟨_, [], hC⟩, Frm.refl _ _⟩
      apply DRN.cons (.det _ _) rfl
      · intro a w hC
        refine L.fa hC rfl rfl rfl (fun _ => All.nil) Try.underlying60 rfl Try.sizeOf3 rfl rfl rfl ?_; clear hC a; intro a hC
        exact L.nil ⟨⟨_, [], hC⟩, Frm.refl _ _⟩
      apply DRN.cons (.det _ _) rfl
      · intro a w hC
        refine L.ldr hC rfl rfl rfl (fun _ => All.nil) m0 Try.isAgg3 rfl rfl rfl ?_; clear hC a; intro a hC
        exact L.nil ⟨⟨_, [], hC⟩, Frm.refl _ _⟩
      apply DRN.cons (.det _ _) rfl
      · intro a w hC
        refine L.pu hC rfl rfl (fun _ => All.nil) rfl rfl ?_; clear hC a; intro a hC
        exact L.nil ⟨⟨_, [], hC⟩, Frm.refl _ _⟩
      apply DRN.cons (.det _ _) rfl
      · intro a w hC
        refine L.pu hC rfl rfl (fun _ => All.nil) rfl rfl ?_; clear hC a; intro a hC
        exact L.nil ⟨⟨_, [], hC⟩, Frm.refl _ _⟩
      refine DRN.nil (fun w' hF => ?_)
      intro a w hC hw
      subst hw
      refine hk8 _ _ ?_; clear hk8; try clear k8
      refine W.cond hC rfl (fun h3 => ?_) (fun h3 => ?_)
      ·
        refine W.seqk fun k9 hk9 => ?_
        refine W.region ?_
        refine L.pu hC rfl rfl (fun _ => All.nil) rfl rfl ?_; clear hC a; intro a hC
        refine L.nil ?_
        refine hk9 _ _ ?_; clear hk9; try clear k9
        refine W.ret ?_
        refine rets hC rfl (.tmp rfl .nil) ?_
        exact ⟨(by unfold planR; rw [if_neg (nt h1), if_neg (nt h2), if_pos h3]; try rfl), hC.frm⟩
      ·
        refine W.seqk fun k10 hk10 => ?_
        refine W.region ?_
        refine L.pu hC rfl rfl (fun _ => All.nil) rfl rfl ?_; clear hC a; intro a hC
        refine L.pu hC rfl rfl (fun _ => All.nil) rfl rfl ?_; clear hC a; intro a hC
        refine L.pu hC rfl rfl (fun _ => All.nil) rfl rfl ?_; clear hC a; intro a hC
        refine L.pu hC rfl rfl (fun _ => All.nil) rfl rfl ?_; clear hC a; intro a hC
        refine L.pu hC rfl rfl (fun _ => All.nil) rfl rfl ?_; clear hC a; intro a hC
        refine L.pu hC rfl rfl (fun hg => by first | (simp only [Gt, Bool.and_eq_true] at hg; simp only [All, List.cons_append, List.nil_append, List.append_nil, List.mem_cons, List.not_mem_nil, or_false, forall_eq_or_imp, forall_eq, Bool.and_eq_true, hg, Bool.not_false, Bool.not_true, and_self]; done) | (simp only [Gt] at hg; simp only [All, List.cons_append, List.nil_append, List.append_nil, List.mem_cons, List.not_mem_nil, or_false, forall_eq_or_imp, forall_eq, hg, and_self])) rfl rfl ?_; clear hC a; intro a hC
        refine L.fa hC rfl rfl rfl (fun hg => by first | (simp only [Gt, Bool.and_eq_true] at hg; simp only [All, List.cons_append, List.nil_append, List.append_nil, List.mem_cons, List.not_mem_nil, or_false, forall_eq_or_imp, forall_eq, Bool.and_eq_true, hg, Bool.not_false, Bool.not_true, and_self]; done) | (simp only [Gt] at hg; simp only [All, List.cons_append, List.nil_append, List.append_nil, List.mem_cons, List.not_mem_nil, or_false, forall_eq_or_imp, forall_eq, hg, and_self])) Try.underlying143 rfl Try.sizeOf56 rfl rfl rfl ?_; clear hC a; intro a hC
        refine L.fa hC rfl rfl rfl (fun hg => by first | (simp only [Gt, Bool.and_eq_true] at hg; simp only [All, List.cons_append, List.nil_append, List.append_nil, List.mem_cons, List.not_mem_nil, or_false, forall_eq_or_imp, forall_eq, Bool.and_eq_true, hg, Bool.not_false, Bool.not_true, and_self]; done) | (simp only [Gt] at hg; simp only [All, List.cons_append, List.nil_append, List.append_nil, List.mem_cons, List.not_mem_nil, or_false, forall_eq_or_imp, forall_eq, hg, and_self])) Try.underlying56 rfl Try.sizeOf3 rfl rfl rfl ?_; clear hC a; intro a hC
        refine L.ldr hC rfl rfl rfl (fun hg => by first | (simp only [Gt, Bool.and_eq_true] at hg; simp only [All, List.cons_append, List.nil_append, List.append_nil, List.mem_cons, List.not_mem_nil, or_false, forall_eq_or_imp, forall_eq, Bool.and_eq_true, hg, Bool.not_false, Bool.not_true, and_self]; done) | (simp only [Gt] at hg; simp only [All, List.cons_append, List.nil_append, List.append_nil, List.mem_cons, List.not_mem_nil, or_false, forall_eq_or_imp, forall_eq, hg, and_self])) m0 Try.isAgg3 rfl rfl rfl ?_; clear hC a; intro a hC
        refine L.pu hC rfl rfl (fun hg => by first | (simp only [Gt, Bool.and_eq_true] at hg; simp only [All, List.cons_append, List.nil_append, List.append_nil, List.mem_cons, List.not_mem_nil, or_false, forall_eq_or_imp, forall_eq, Bool.and_eq_true, hg, Bool.not_false, Bool.not_true, and_self]; done) | (simp only [Gt] at hg; simp only [All, List.cons_append, List.nil_append, List.append_nil, List.mem_cons, List.not_mem_nil, or_false, forall_eq_or_imp, forall_eq, hg, and_self])) rfl rfl ?_; clear hC a; intro a hC
        refine L.and hC rfl rfl rfl rfl (fun _ => All.nil) (fun _ hp => by first | (simp only [All, List.cons_append, List.nil_append, List.append_nil, List.mem_cons, List.not_mem_nil, or_false, forall_eq_or_imp, forall_eq, Bool.and_eq_true, hp, Bool.not_false, Bool.not_true, and_self]; done) | simp [All, hp]) rfl rfl ?_; clear hC a; intro a hC
        refine L.pu hC rfl rfl (fun _ => All.nil) rfl rfl ?_; clear hC a; intro a hC
        refine L.nil ?_
        refine hk10 _ _ ?_; clear hk10; try clear k10
        refine W.cond hC rfl (fun h4 => ?_) (fun h4 => ?_)
        ·
          refine W.seqk fun k11 hk11 => ?_
          refine W.region ?_
          refine L.pu hC rfl rfl (fun _ => All.nil) rfl rfl ?_; clear hC a; intro a hC
          refine L.nil ?_
          refine hk11 _ _ ?_; clear hk11; try clear k11
          refine W.ret ?_
          refine rets hC rfl (.tmp rfl .nil) ?_
          exact ⟨(by unfold planR; rw [if_neg (nt h1), if_neg (nt h2), if_neg (nt h3), if_pos h4]; try rfl), hC.frm⟩
        ·
          refine W.seqk fun k12 hk12 => ?_
          refine W.region ?_
          refine L.pu hC rfl rfl (fun _ => All.nil) rfl rfl ?_; clear hC a; intro a hC
          refine L.pu hC rfl rfl (fun _ => All.nil) rfl rfl ?_; clear hC a; intro a hC
          refine L.pu hC rfl rfl (fun _ => All.nil) rfl rfl ?_; clear hC a; intro a hC
          refine L.call hC rfl rfl Try.call130 rfl (fun _ => All.nil) (fun hg => hedges_ok mb c v s l tick wait (len_pos2 h2) _ (hC.at m0) (hC.at m1)) rfl rfl ?_; clear hC a; intro a w hF hC
          refine L.pu hC rfl rfl (fun _ => All.nil) rfl rfl ?_; clear hC a; intro a hC
          refine L.nil ?_
          refine hk12 _ _ ?_; clear hk12; try clear k12
          refine W.cond hC rfl (fun h5 => ?_) (fun h5 => ?_)
          ·
            refine W.seqk fun k13 hk13 => ?_
            refine W.region ?_
            refine L.pu hC rfl rfl (fun _ => All.nil) rfl rfl ?_; clear hC a; intro a hC
            refine L.nil ?_
            refine hk13 _ _ ?_; clear hk13; try clear k13
            refine W.ret ?_
            refine rets hC rfl (.tmp rfl .nil) ?_
            exact ⟨(by unfold planR; rw [if_neg (nt h1), if_neg (nt h2), if_neg (nt h3), if_neg (nt h4), if_pos h5]; try rfl), hC.frm⟩
          ·
            refine W.skip ?_
            refine hk3 _ _ ?_; clear hk3; try clear k3
            refine W.seqk fun k14 hk14 => ?_
            refine W.region ?_
            refine L.pu hC rfl rfl (fun _ => All.nil) rfl rfl ?_; clear hC a; intro a hC
            refine L.nil ?_
            refine hk14 _ _ ?_; clear hk14; try clear k14
            refine W.ret ?_
            refine rets hC rfl (.tmp rfl .nil) ?_
            exact ⟨(by unfold planR; rw [if_neg (nt h1), if_neg (nt h2), if_neg (nt h3), if_neg (nt h4), if_neg (nt h5)]; try rfl), hC.frm⟩

theorem Plan_ok (c : CallH) (v : Value) (s : CSet) (l : List Att) (tick wait : Int) (w0 : World) (hr : (rdR v attE l).ok w0) : Calls Try.prog 35 #[.agg (callE c v).toArray, .agg (csE s).toArray, .int .i64 tick, .int .i64 wait] w0 fun e w' => e = .returned (.tuple #[.int .i64 (planT c s l tick wait).1, .int .i64 (planT c s l tick wait).2]) ∧ Frm Nob w0 w' := by
  obtain ⟨vA, vc, hv, _, _⟩ := id hr
  subst hv
  have hlen := rd_lt hr
  refine enter (μ := [rdR (.slice vA l.length vc) attE l]) (S := Nob) (vs := [.agg (callE c (.slice vA l.length vc)).toArray, .agg (csE s).toArray, .int .i64 tick, .int .i64 wait]) Try.func35 rfl Try.ntmps35 rfl ⟨by simpa using hr, by simp⟩ (by simp [rdR]) (fun a hC => ?_)
  refine W.seqk fun k1 hk1 => ?_
  refine W.region ?_
  refine L.box hC rfl rfl rfl rfl rfl rfl ?_; clear hC a; intro cb a w hF hC
  refine L.box hC rfl rfl rfl rfl rfl rfl ?_; clear hC a; intro sb a w hF hC
  refine L.pu hC rfl rfl (fun _ => All.nil) rfl rfl ?_; clear hC a; intro a hC
  refine L.pu hC rfl rfl (fun _ => All.nil) rfl rfl ?_; clear hC a; intro a hC
  refine L.nil ?_
  refine hk1 _ _ ?_; clear hk1; try clear k1
  refine W.seqk fun k2 hk2 => ?_
  refine W.region ?_
  refine L.lda hC rfl rfl rfl (fun _ => All.nil) m1 Try.isAgg56 Try.sizeOf56 rfl rfl rfl rfl ?_; clear hC a; intro a hC
  refine L.lda hC rfl rfl rfl (fun _ => All.nil) m0 Try.isAgg60 Try.sizeOf60 rfl rfl rfl rfl ?_; clear hC a; intro a hC
  refine L.callg [] hC rfl rfl Try.call77 rfl (ask27_ok c _ s l _ (hC.at m2)) (fun b h => h.elim) rfl rfl ?_; clear hC a; intro ⟨xb, ov⟩ a w hQ hC
  dsimp only at hC
  refine L.pu hC rfl rfl (fun _ => All.nil) rfl rfl ?_; clear hC a; intro a hC
  refine L.pu hC rfl rfl (fun _ => All.nil) rfl rfl ?_; clear hC a; intro a hC
  refine L.pu hC rfl rfl (fun _ => All.nil) rfl rfl ?_; clear hC a; intro a hC
  refine L.pu hC rfl rfl (fun _ => All.nil) rfl rfl ?_; clear hC a; intro a hC
  refine L.pu hC rfl rfl (fun _ => All.nil) rfl rfl ?_; clear hC a; intro a hC
  refine L.nil ?_
  refine hk2 _ _ ?_; clear hk2; try clear k2
  refine W.seqk fun k3 hk3 => ?_
  refine W.seqk fun k4 hk4 => ?_
  refine W.region ?_
  refine L.pu hC rfl rfl (fun _ => All.nil) rfl rfl ?_; clear hC a; intro a hC
  refine L.pu hC rfl rfl (fun _ => All.nil) rfl rfl ?_; clear hC a; intro a hC
  refine L.nil ?_
  refine hk4 _ _ ?_; clear hk4; try clear k4
  refine W.cond hC rfl (fun h1 => ?_) (fun h1 => ?_)
  ·
    refine W.seqk fun k5 hk5 => ?_
    refine W.region ?_
    refine L.pu hC rfl rfl (fun _ => All.nil) rfl rfl ?_; clear hC a; intro a hC
    refine L.pu hC rfl rfl (fun _ => All.nil) rfl rfl ?_; clear hC a; intro a hC
    refine L.pu hC rfl rfl (fun _ => All.nil) rfl rfl ?_; clear hC a; intro a hC
    refine L.nil ?_
    refine hk5 _ _ ?_; clear hk5; try clear k5
    refine W.ret ?_
    refine retl hC rfl (.tmp rfl (.tmp rfl .nil)) rfl ?_
    exact ⟨(by unfold planT; rw [if_pos h1]; try rfl), hC.frm⟩
  ·
    rw [okD_yes h1, okD_yes h1, okD_yes h1] at hC
    refine W.skip ?_
    refine hk3 _ _ ?_; clear hk3; try clear k3
    refine W.seqk fun k6 hk6 => ?_
    refine W.region ?_
    refine L.pu hC rfl rfl (fun _ => All.nil) rfl rfl ?_; clear hC a; intro a hC
    refine L.pu hC rfl rfl (fun _ => All.nil) rfl rfl ?_; clear hC a; intro a hC
    refine L.pu hC rfl rfl (fun _ => All.nil) rfl rfl ?_; clear hC a; intro a hC
    refine L.call hC rfl rfl Try.call85 rfl (fun _ => All.nil) (fun hg => plan_ok xb c ov s l tick wait _ (ro_of (hC.at m0)) (own_rd (hC.at m1))) rfl rfl ?_; clear hC a; intro a w hF hC
    refine L.pu hC rfl rfl (fun _ => All.nil) rfl rfl ?_; clear hC a; intro a hC
    refine L.pu hC rfl rfl (fun _ => All.nil) rfl rfl ?_; clear hC a; intro a hC
    refine L.nil ?_
    refine hk6 _ _ ?_; clear hk6; try clear k6
    refine W.ret ?_
    refine retl hC rfl (.tmp rfl (.tmp rfl .nil)) rfl ?_
    exact ⟨(by unfold planT; rw [if_neg (nt h1)]; try rfl), hC.frm⟩

theorem New_ok (n : Int) (o : OpV) (t lf : Int) (w0 : World) : Calls Try.prog 76 #[.int .i64 n, .agg (opE o).toArray, .int .i64 t, .int .i64 lf] w0 fun e w' => e = .returned (.tuple #[.agg (callE (newR n o t lf).1 (.slice none 0 0)).toArray, .int .i64 (newR n o t lf).2]) ∧ Frm Nob w0 w' := by
  refine enter (μ := []) (S := Nob) (vs := [.int .i64 n, .agg (opE o).toArray, .int .i64 t, .int .i64 lf]) Try.func76 rfl Try.ntmps76 rfl (Mem.nil _) (by simp) (fun a hC => ?_)
  refine W.seqk fun k1 hk1 => ?_
  refine W.region ?_
  refine L.box hC rfl rfl rfl rfl rfl rfl ?_; clear hC a; intro ob a w hF hC
  refine L.alloc hC rfl rfl Try.zeroValue56 rfl rfl rfl ?_; clear hC a; intro rb a w hF hC
  refine L.pu hC rfl rfl (fun _ => All.nil) rfl rfl ?_; clear hC a; intro a hC
  refine L.nil ?_
  refine hk1 _ _ ?_; clear hk1; try clear k1
  refine W.seqk fun k2 hk2 => ?_
  refine W.seqk fun k3 hk3 => ?_
  refine W.region ?_
  refine L.pu hC rfl rfl (fun _ => All.nil) rfl rfl ?_; clear hC a; intro a hC
  refine L.litsP hC rfl rfl rfl (fun _ => All.nil) Try.underlying37 Try.infoI3 rfl rfl rfl rfl rfl rfl rfl rfl ?_; clear hC a; intro a w v1 hF hC
  refine L.call hC rfl rfl Try.call79 rfl (fun _ => All.nil) (fun hg => in27_ok _ _ _ _ _ (hC.at m0 hg)) rfl rfl ?_; clear hC a; intro a w hF hC
  refine L.pu hC rfl rfl (fun _ => All.nil) rfl rfl ?_; clear hC a; intro a hC
  refine L.pu hC rfl rfl (fun _ => All.nil) rfl rfl ?_; clear hC a; intro a hC
  refine L.pu hC rfl rfl (fun _ => All.nil) rfl rfl ?_; clear hC a; intro a hC
  refine L.litsP hC rfl rfl rfl (fun hg => by first | (simp only [Gt, Bool.and_eq_true] at hg; simp only [All, List.cons_append, List.nil_append, List.append_nil, List.mem_cons, List.not_mem_nil, or_false, forall_eq_or_imp, forall_eq, Bool.and_eq_true, hg, Bool.not_false, Bool.not_true, and_self]; done) | (simp only [Gt] at hg; simp only [All, List.cons_append, List.nil_append, List.append_nil, List.mem_cons, List.not_mem_nil, or_false, forall_eq_or_imp, forall_eq, hg, and_self])) Try.underlying37 Try.infoI3 rfl rfl rfl rfl rfl rfl rfl rfl ?_; clear hC a; intro a w v6 hF hC
  refine L.call hC rfl rfl Try.call79 rfl (fun hg => by first | (simp only [Gt, Bool.and_eq_true] at hg; simp only [All, List.cons_append, List.nil_append, List.append_nil, List.mem_cons, List.not_mem_nil, or_false, forall_eq_or_imp, forall_eq, Bool.and_eq_true, hg, Bool.not_false, Bool.not_true, and_self]; done) | (simp only [Gt] at hg; simp only [All, List.cons_append, List.nil_append, List.append_nil, List.mem_cons, List.not_mem_nil, or_false, forall_eq_or_imp, forall_eq, hg, and_self])) (fun hg => in27_ok _ _ _ _ _ (hC.at m0 hg)) rfl rfl ?_; clear hC a; intro a w hF hC
  refine L.pu hC rfl rfl (fun hg => by first | (simp only [Gt, Bool.and_eq_true] at hg; simp only [All, List.cons_append, List.nil_append, List.append_nil, List.mem_cons, List.not_mem_nil, or_false, forall_eq_or_imp, forall_eq, Bool.and_eq_true, hg, Bool.not_false, Bool.not_true, and_self]; done) | (simp only [Gt] at hg; simp only [All, List.cons_append, List.nil_append, List.append_nil, List.mem_cons, List.not_mem_nil, or_false, forall_eq_or_imp, forall_eq, hg, and_self])) rfl rfl ?_; clear hC a; intro a hC
  refine L.or hC rfl rfl rfl rfl (fun _ => All.nil) (fun _ hp => by first | (simp only [All, List.cons_append, List.nil_append, List.append_nil, List.mem_cons, List.not_mem_nil, or_false, forall_eq_or_imp, forall_eq, Bool.and_eq_true, hp, Bool.not_false, Bool.not_true, and_self]; done) | simp [All, hp]) rfl rfl ?_; clear hC a; intro a hC
  refine L.pu hC rfl rfl (fun _ => All.nil) rfl rfl ?_; clear hC a; intro a hC
  refine L.pu hC rfl rfl (fun _ => All.nil) rfl rfl ?_; clear hC a; intro a hC
  refine L.litsP hC rfl rfl rfl (fun hg => by first | (simp only [Gt, Bool.and_eq_true] at hg; simp only [All, List.cons_append, List.nil_append, List.append_nil, List.mem_cons, List.not_mem_nil, or_false, forall_eq_or_imp, forall_eq, Bool.and_eq_true, hg, Bool.not_false, Bool.not_true, and_self]; done) | (simp only [Gt] at hg; simp only [All, List.cons_append, List.nil_append, List.append_nil, List.mem_cons, List.not_mem_nil, or_false, forall_eq_or_imp, forall_eq, hg, and_self])) Try.underlying37 Try.infoI3 rfl rfl rfl rfl rfl rfl rfl rfl ?_; clear hC a; intro a w v12 hF hC
  refine L.call hC rfl rfl Try.call79 rfl (fun hg => by first | (simp only [Gt, Bool.and_eq_true] at hg; simp only [All, List.cons_append, List.nil_append, List.append_nil, List.mem_cons, List.not_mem_nil, or_false, forall_eq_or_imp, forall_eq, Bool.and_eq_true, hg, Bool.not_false, Bool.not_true, and_self]; done) | (simp only [Gt] at hg; simp only [All, List.cons_append, List.nil_append, List.append_nil, List.mem_cons, List.not_mem_nil, or_false, forall_eq_or_imp, forall_eq, hg, and_self])) (fun hg => in27_ok _ _ _ _ _ (hC.at m0 hg)) rfl rfl ?_; clear hC a; intro a w hF hC
  refine L.pu hC rfl rfl (fun hg => by first | (simp only [Gt, Bool.and_eq_true] at hg; simp only [All, List.cons_append, List.nil_append, List.append_nil, List.mem_cons, List.not_mem_nil, or_false, forall_eq_or_imp, forall_eq, Bool.and_eq_true, hg, Bool.not_false, Bool.not_true, and_self]; done) | (simp only [Gt] at hg; simp only [All, List.cons_append, List.nil_append, List.append_nil, List.mem_cons, List.not_mem_nil, or_false, forall_eq_or_imp, forall_eq, hg, and_self])) rfl rfl ?_; clear hC a; intro a hC
  refine L.or hC rfl rfl rfl rfl (fun _ => All.nil) (fun _ hp => by first | (simp only [All, List.cons_append, List.nil_append, List.append_nil, List.mem_cons, List.not_mem_nil, or_false, forall_eq_or_imp, forall_eq, Bool.and_eq_true, hp, Bool.not_false, Bool.not_true, and_self]; done) | simp [All, hp]) rfl rfl ?_; clear hC a; intro a hC
  refine L.nil ?_
  refine hk3 _ _ ?_; clear hk3; try clear k3
  refine W.cond hC rfl (fun h1 => ?_) (fun h1 => ?_)
  ·
    refine W.seqk fun k4 hk4 => ?_
    refine W.region ?_
    refine L.buildS (ps := [(0, 1), (1, 4), (5, 1), (6, 1), (7, 1), (8, 1), (9, 1)]) hC rfl rfl rfl (fun _ => All.nil) Try.zeroValue56 Try.underlying56 ⟨⟨rfl, Try.sizeOf3⟩, ⟨rfl, Try.sizeOf53⟩, ⟨rfl, Try.sizeOf4⟩, ⟨rfl, Try.sizeOf3⟩, ⟨rfl, Try.sizeOf3⟩, ⟨rfl, Try.sizeOf3⟩, ⟨rfl, Try.sizeOf54⟩, trivial⟩ rfl rfl rfl ?_; clear hC a; intro a hC
    replace hC := hC.fr3
    refine L.st hC rfl rfl rfl rfl Try.sizeOf56 rfl rfl rfl rfl rfl ?_; clear hC a; intro a w hF hC
    refine L.pu hC rfl rfl (fun _ => All.nil) rfl rfl ?_; clear hC a; intro a hC
    refine L.nil ?_
    refine hk4 _ _ ?_; clear hk4; try clear k4
    refine W.ret ?_
    refine retl hC rfl (.agg rfl m0 Try.isAgg56 Try.sizeOf56 rfl (.tmp rfl .nil)) rfl ?_
    exact ⟨(by unfold newR; rw [if_pos h1]; try rfl), hC.frm⟩
  ·
    refine W.skip ?_
    refine hk2 _ _ ?_; clear hk2; try clear k2
    refine W.seqk fun k5 hk5 => ?_
    refine W.seqk fun k6 hk6 => ?_
    refine W.region ?_
    refine L.lda hC rfl rfl rfl (fun _ => All.nil) m4 Try.isAgg53 Try.sizeOf53 rfl rfl rfl rfl ?_; clear hC a; intro a hC
    refine L.call hC rfl rfl Try.call119 rfl (fun _ => All.nil) (fun hg => ledc_ok o _) rfl rfl ?_; clear hC a; intro a w hF hC
    refine L.pu hC rfl rfl (fun _ => All.nil) rfl rfl ?_; clear hC a; intro a hC
    refine L.nil ?_
    refine hk6 _ _ ?_; clear hk6; try clear k6
    refine W.seqk fun k7 hk7 => ?_
    refine W.region ?_
    refine L.pu hC rfl rfl (fun _ => All.nil) rfl rfl ?_; clear hC a; intro a hC
    refine L.pu hC rfl rfl (fun _ => All.nil) rfl rfl ?_; clear hC a; intro a hC
    refine L.nil ?_
    refine hk7 _ _ ?_; clear hk7; try clear k7
    refine W.cond hC rfl (fun h2 => ?_) (fun h2 => ?_)
    ·
      refine W.seqk fun k8 hk8 => ?_
      refine W.region ?_
      refine L.buildS (ps := [(0, 1), (1, 4), (5, 1), (6, 1), (7, 1), (8, 1), (9, 1)]) hC rfl rfl rfl (fun _ => All.nil) Try.zeroValue56 Try.underlying56 ⟨⟨rfl, Try.sizeOf3⟩, ⟨rfl, Try.sizeOf53⟩, ⟨rfl, Try.sizeOf4⟩, ⟨rfl, Try.sizeOf3⟩, ⟨rfl, Try.sizeOf3⟩, ⟨rfl, Try.sizeOf3⟩, ⟨rfl, Try.sizeOf54⟩, trivial⟩ rfl rfl rfl ?_; clear hC a; intro a hC
      refine L.pu hC rfl rfl (fun _ => All.nil) rfl rfl ?_; clear hC a; intro a hC
      replace hC := hC.fr3
      refine L.st hC rfl rfl rfl rfl Try.sizeOf56 rfl rfl rfl rfl rfl ?_; clear hC a; intro a w hF hC
      refine L.pu hC rfl rfl (fun _ => All.nil) rfl rfl ?_; clear hC a; intro a hC
      refine L.nil ?_
      refine hk8 _ _ ?_; clear hk8; try clear k8
      refine W.ret ?_
      refine retl hC rfl (.agg rfl m0 Try.isAgg56 Try.sizeOf56 rfl (.tmp rfl .nil)) rfl ?_
      exact ⟨(by unfold newR; rw [if_neg (nt h1), if_pos h2]; try rfl), hC.frm⟩
    ·
      refine W.skip ?_
      refine hk5 _ _ ?_; clear hk5; try clear k5
      refine W.seqk fun k9 hk9 => ?_
      refine W.region ?_
      refine L.fa hC rfl rfl rfl (fun _ => All.nil) Try.underlying53 rfl Try.sizeOf3 rfl rfl rfl ?_; clear hC a; intro a hC
      refine L.ld hC rfl rfl rfl (fun _ => All.nil) m4 Try.isAgg3 rfl rfl rfl ?_; clear hC a; intro a hC
      refine L.call hC rfl rfl Try.call120 rfl (fun _ => All.nil) (fun hg => once_ok o.what _) rfl rfl ?_; clear hC a; intro a w hF hC
      refine L.pu hC rfl rfl (fun _ => All.nil) rfl rfl ?_; clear hC a; intro a hC
      refine L.pu hC rfl rfl (fun _ => All.nil) rfl rfl ?_; clear hC a; intro a hC
      refine L.pu hC rfl rfl (fun _ => All.nil) rfl rfl ?_; clear hC a; intro a hC
      refine L.pu hC rfl rfl (fun _ => All.nil) rfl rfl ?_; clear hC a; intro a hC
      refine L.pu hC rfl rfl (fun _ => All.nil) rfl rfl ?_; clear hC a; intro a hC
      refine L.nil ?_
      refine hk9 _ _ ?_; clear hk9; try clear k9
      refine W.seqk fun k10 hk10 => ?_
      refine W.region ?_
      refine L.pu hC rfl rfl (fun _ => All.nil) rfl rfl ?_; clear hC a; intro a hC
      refine L.lda hC rfl rfl rfl (fun _ => All.nil) m4 Try.isAgg53 Try.sizeOf53 rfl rfl rfl rfl ?_; clear hC a; intro a hC
      replace hC := hC.slot (d := 43) (s := (none, .agg (opE o).toArray)) rfl
      refine L.pu hC rfl rfl (fun _ => All.nil) rfl rfl ?_; clear hC a; intro a hC
      refine L.pu hC rfl rfl (fun _ => All.nil) rfl rfl ?_; clear hC a; intro a hC
      refine L.pu hC rfl rfl (fun _ => All.nil) rfl rfl ?_; clear hC a; intro a hC
      refine L.pu hC rfl rfl (fun _ => All.nil) rfl rfl ?_; clear hC a; intro a hC
      refine L.pu hC rfl rfl (fun _ => All.nil) rfl rfl ?_; clear hC a; intro a hC
      refine L.pu hC rfl rfl (fun _ => All.nil) rfl rfl ?_; clear hC a; intro a hC
      refine L.buildS (ps := [(0, 1), (1, 4), (5, 1), (6, 1), (7, 1), (8, 1), (9, 1)]) hC rfl rfl rfl (fun _ => All.nil) Try.zeroValue56 Try.underlying56 ⟨⟨rfl, Try.sizeOf3⟩, ⟨rfl, Try.sizeOf53⟩, ⟨rfl, Try.sizeOf4⟩, ⟨rfl, Try.sizeOf3⟩, ⟨rfl, Try.sizeOf3⟩, ⟨rfl, Try.sizeOf3⟩, ⟨rfl, Try.sizeOf54⟩, trivial⟩ rfl rfl rfl ?_; clear hC a; intro a hC
      replace hC := hC.slot (d := 50) (s := (none, .agg (callE ⟨n, o, (onceR o.what).1, t, IntKind.i64.wrap (t + lf), t⟩ (.slice none 0 0)).toArray)) (by kernel_rfl)
      replace hC := hC.fr3
      refine L.st hC rfl rfl rfl rfl Try.sizeOf56 rfl rfl rfl rfl rfl ?_; clear hC a; intro a w hF hC
      refine L.pu hC rfl rfl (fun _ => All.nil) rfl rfl ?_; clear hC a; intro a hC
      refine L.nil ?_
      refine hk10 _ _ ?_; clear hk10; try clear k10
      refine W.ret ?_
      refine retl hC rfl (.agg rfl m0 Try.isAgg56 Try.sizeOf56 rfl (.tmp rfl .nil)) rfl ?_
      exact ⟨(by unfold newR; rw [if_neg (nt h1), if_neg (nt h2)]; try rfl), hC.frm⟩

theorem alive27_ok (w0 : World) : Calls Try.prog 26 #[] w0 fun e w' => e = .returned (.bool true) ∧ Frm Nob w0 w' := by
  refine enter (μ := []) (S := Nob) (vs := []) Try.func26 rfl Try.ntmps26 rfl (Mem.nil _) (by simp) (fun a hC => ?_)
  refine W.seqk fun k1 hk1 => ?_
  refine W.region ?_
  refine L.pu hC rfl rfl (fun _ => All.nil) rfl rfl ?_; clear hC a; intro a hC
  refine L.nil ?_
  refine hk1 _ _ ?_; clear hk1; try clear k1
  refine W.seqk fun k2 hk2 => ?_
  refine W.region ?_
  refine L.buildS (ps := [(0, 1), (1, 1), (2, 1)]) hC rfl rfl rfl (fun _ => All.nil) Try.zeroValue58 Try.underlying58 ⟨⟨rfl, Try.sizeOf3⟩, ⟨rfl, Try.sizeOf3⟩, ⟨rfl, Try.sizeOf3⟩, trivial⟩ rfl rfl rfl ?_; clear hC a; intro a hC
  refine L.buildS (ps := [(0, 1), (1, 1), (2, 1), (3, 1), (4, 1), (5, 3)]) hC rfl rfl rfl (fun _ => All.nil) Try.zeroValue60 Try.underlying60 ⟨⟨rfl, Try.sizeOf3⟩, ⟨rfl, Try.sizeOf3⟩, ⟨rfl, Try.sizeOf3⟩, ⟨rfl, Try.sizeOf3⟩, ⟨rfl, Try.sizeOf3⟩, ⟨rfl, Try.sizeOf58⟩, trivial⟩ rfl rfl rfl ?_; clear hC a; intro a hC
  refine L.alloc hC rfl rfl Try.zeroValue60 rfl rfl rfl ?_; clear hC a; intro sb a w hF hC
  refine L.st hC rfl rfl rfl rfl Try.sizeOf60 rfl rfl rfl rfl rfl ?_; clear hC a; intro a w hF hC
  refine L.nil ?_
  refine hk2 _ _ ?_; clear hk2; try clear k2
  refine W.seqk fun k3 hk3 => ?_
  refine W.region ?_
  refine L.buildS (ps := [(0, 1), (1, 1), (2, 1), (3, 1)]) hC rfl rfl rfl (fun _ => All.nil) Try.zeroValue53 Try.underlying53 ⟨⟨rfl, Try.sizeOf3⟩, ⟨rfl, Try.sizeOf3⟩, ⟨rfl, Try.sizeOf3⟩, ⟨rfl, Try.sizeOf3⟩, trivial⟩ rfl rfl rfl ?_; clear hC a; intro a hC
  refine L.call hC rfl rfl Try.call76 rfl (fun _ => All.nil) (fun hg => New_ok 1 ⟨4, 0, 0, 0⟩ 5 9 _) rfl rfl ?_; clear hC a; intro a w hF hC
  refine L.pu hC rfl rfl (fun _ => All.nil) rfl rfl ?_; clear hC a; intro a hC
  refine L.pu hC rfl rfl (fun _ => All.nil) rfl rfl ?_; clear hC a; intro a hC
  refine L.pu hC rfl rfl (fun _ => All.nil) rfl rfl ?_; clear hC a; intro a hC
  refine L.alloc hC rfl rfl Try.zeroValue56 rfl rfl rfl ?_; clear hC a; intro cb a w hF hC
  refine L.st hC rfl rfl rfl rfl Try.sizeOf56 rfl rfl rfl rfl rfl ?_; clear hC a; intro a w hF hC
  refine L.pu hC rfl rfl (fun _ => All.nil) rfl rfl ?_; clear hC a; intro a hC
  refine L.nil ?_
  refine hk3 _ _ ?_; clear hk3; try clear k3
  refine W.seqk fun k4 hk4 => ?_
  refine W.region ?_
  refine L.lda hC rfl rfl rfl (fun _ => All.nil) m0 Try.isAgg56 Try.sizeOf56 rfl rfl rfl rfl ?_; clear hC a; intro a hC
  refine L.lda hC rfl rfl rfl (fun _ => All.nil) m1 Try.isAgg60 Try.sizeOf60 rfl rfl rfl rfl ?_; clear hC a; intro a hC
  refine L.call hC rfl rfl Try.call35 rfl (fun _ => All.nil) (fun hg => Plan_ok (newR 1 ⟨4, 0, 0, 0⟩ 5 9).1 (.slice none 0 0) ⟨2, 0, 3, 500, 1, ⟨1, 2, 0⟩⟩ [] 5 1 _ rd_nil) rfl rfl ?_; clear hC a; intro a w hF hC
  refine L.pu hC rfl rfl (fun _ => All.nil) rfl rfl ?_; clear hC a; intro a hC
  refine L.pu hC rfl rfl (fun _ => All.nil) rfl rfl ?_; clear hC a; intro a hC
  refine L.pu hC rfl rfl (fun _ => All.nil) rfl rfl ?_; clear hC a; intro a hC
  refine L.pu hC rfl rfl (fun _ => All.nil) rfl rfl ?_; clear hC a; intro a hC
  refine L.pu hC rfl rfl (fun _ => All.nil) rfl rfl ?_; clear hC a; intro a hC
  refine L.nil ?_
  refine hk4 _ _ ?_; clear hk4; try clear k4
  refine W.seqk fun k5 hk5 => ?_
  refine W.region ?_
  refine L.pu hC rfl rfl (fun _ => All.nil) rfl rfl ?_; clear hC a; intro a hC
  refine L.call hC rfl rfl Try.call28 rfl (fun _ => All.nil) (fun hg => num27_ok _ _) rfl rfl ?_; clear hC a; intro a w hF hC
  refine L.pu hC rfl rfl (fun _ => All.nil) rfl rfl ?_; clear hC a; intro a hC
  refine L.call hC rfl rfl Try.call28 rfl (fun _ => All.nil) (fun hg => num27_ok _ _) rfl rfl ?_; clear hC a; intro a w hF hC
  refine L.pu hC rfl rfl (fun _ => All.nil) rfl rfl ?_; clear hC a; intro a hC
  refine L.pu hC rfl rfl (fun _ => All.nil) rfl rfl ?_; clear hC a; intro a hC
  refine L.pu hC rfl rfl (fun _ => All.nil) rfl rfl ?_; clear hC a; intro a hC
  refine L.pu hC rfl rfl (fun _ => All.nil) rfl rfl ?_; clear hC a; intro a hC
  refine L.pu hC rfl rfl (fun hg => by first | (simp only [Gt, Bool.and_eq_true] at hg; simp only [All, List.cons_append, List.nil_append, List.append_nil, List.mem_cons, List.not_mem_nil, or_false, forall_eq_or_imp, forall_eq, Bool.and_eq_true, hg, Bool.not_false, Bool.not_true, and_self]; done) | (simp only [Gt] at hg; simp only [All, List.cons_append, List.nil_append, List.append_nil, List.mem_cons, List.not_mem_nil, or_false, forall_eq_or_imp, forall_eq, hg, and_self])) rfl rfl ?_; clear hC a; intro a hC
  refine L.and hC rfl rfl rfl rfl (fun _ => All.nil) (fun _ hp => by first | (simp only [All, List.cons_append, List.nil_append, List.append_nil, List.mem_cons, List.not_mem_nil, or_false, forall_eq_or_imp, forall_eq, Bool.and_eq_true, hp, Bool.not_false, Bool.not_true, and_self]; done) | simp [All, hp]) rfl rfl ?_; clear hC a; intro a hC
  refine L.pu hC rfl rfl (fun _ => All.nil) rfl rfl ?_; clear hC a; intro a hC
  refine L.fa hC rfl rfl rfl (fun _ => All.nil) Try.underlying56 rfl Try.sizeOf3 rfl rfl rfl ?_; clear hC a; intro a hC
  refine L.ld hC rfl rfl rfl (fun hg => by first | (simp only [Gt, Bool.and_eq_true] at hg; simp only [All, List.cons_append, List.nil_append, List.append_nil, List.mem_cons, List.not_mem_nil, or_false, forall_eq_or_imp, forall_eq, Bool.and_eq_true, hg, Bool.not_false, Bool.not_true, and_self]; done) | (simp only [Gt] at hg; simp only [All, List.cons_append, List.nil_append, List.append_nil, List.mem_cons, List.not_mem_nil, or_false, forall_eq_or_imp, forall_eq, hg, and_self])) m0 Try.isAgg3 rfl rfl rfl ?_; clear hC a; intro a hC
  refine L.pu hC rfl rfl (fun hg => by first | (simp only [Gt, Bool.and_eq_true] at hg; simp only [All, List.cons_append, List.nil_append, List.append_nil, List.mem_cons, List.not_mem_nil, or_false, forall_eq_or_imp, forall_eq, Bool.and_eq_true, hg, Bool.not_false, Bool.not_true, and_self]; done) | (simp only [Gt] at hg; simp only [All, List.cons_append, List.nil_append, List.append_nil, List.mem_cons, List.not_mem_nil, or_false, forall_eq_or_imp, forall_eq, hg, and_self])) rfl rfl ?_; clear hC a; intro a hC
  refine L.and hC rfl rfl rfl rfl (fun _ => All.nil) (fun _ hp => by first | (simp only [All, List.cons_append, List.nil_append, List.append_nil, List.mem_cons, List.not_mem_nil, or_false, forall_eq_or_imp, forall_eq, Bool.and_eq_true, hp, Bool.not_false, Bool.not_true, and_self]; done) | simp [All, hp]) rfl rfl ?_; clear hC a; intro a hC
  refine L.pu hC rfl rfl (fun _ => All.nil) rfl rfl ?_; clear hC a; intro a hC
  refine L.fa hC rfl rfl rfl (fun _ => All.nil) Try.underlying56 rfl Try.sizeOf4 rfl rfl rfl ?_; clear hC a; intro a hC
  refine L.ld hC rfl rfl rfl (fun hg => by first | (simp only [Gt, Bool.and_eq_true] at hg; simp only [All, List.cons_append, List.nil_append, List.append_nil, List.mem_cons, List.not_mem_nil, or_false, forall_eq_or_imp, forall_eq, Bool.and_eq_true, hg, Bool.not_false, Bool.not_true, and_self]; done) | (simp only [Gt] at hg; simp only [All, List.cons_append, List.nil_append, List.append_nil, List.mem_cons, List.not_mem_nil, or_false, forall_eq_or_imp, forall_eq, hg, and_self])) m0 Try.isAgg4 rfl rfl rfl ?_; clear hC a; intro a hC
  refine L.pu hC rfl rfl (fun hg => by first | (simp only [Gt, Bool.and_eq_true] at hg; simp only [All, List.cons_append, List.nil_append, List.append_nil, List.mem_cons, List.not_mem_nil, or_false, forall_eq_or_imp, forall_eq, Bool.and_eq_true, hg, Bool.not_false, Bool.not_true, and_self]; done) | (simp only [Gt] at hg; simp only [All, List.cons_append, List.nil_append, List.append_nil, List.mem_cons, List.not_mem_nil, or_false, forall_eq_or_imp, forall_eq, hg, and_self])) rfl rfl ?_; clear hC a; intro a hC
  refine L.and hC rfl rfl rfl rfl (fun _ => All.nil) (fun _ hp => by first | (simp only [All, List.cons_append, List.nil_append, List.append_nil, List.mem_cons, List.not_mem_nil, or_false, forall_eq_or_imp, forall_eq, Bool.and_eq_true, hp, Bool.not_false, Bool.not_true, and_self]; done) | simp [All, hp]) rfl rfl ?_; clear hC a; intro a hC
  refine L.pu hC rfl rfl (fun _ => All.nil) rfl rfl ?_; clear hC a; intro a hC
  refine L.nil ?_
  refine hk5 _ _ ?_; clear hk5; try clear k5
  refine W.ret ?_
  refine rets hC rfl (.tmp rfl .nil) ?_
  refine ⟨?_, hC.frm⟩
  refine rb ?_
  decide

end Go.Proofs.E
