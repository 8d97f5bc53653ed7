/- The breaker: what its functions compute. -/
import Derived.Test.YtgekiiildobfkaaE15
import Derived.Test.YtgekiiildobfkaaT4
set_option linter.unusedVariables false
set_option linter.unusedSimpArgs false
namespace Go.Proofs.E
open Go.RowKit
structure Brk where
  mode : Int
  fails : Int
  til : Int
  probes : Int
  wins : Int
structure BSet where
  fails : Int
  opn : Int
  probes : Int
structure Act where
  what : Int
  tick : Int
  probe : Bool
  good : Bool
instance : Inhabited Act := ⟨⟨0, 0, false, false⟩⟩
def bE (k : Brk) : List Value := [.int .i64 k.mode, .int .i64 k.fails, .int .i64 k.til, .int .i64 k.probes, .int .i64 k.wins]
def sE (s : BSet) : List Value := [.int .i64 s.fails, .int .i64 s.opn, .int .i64 s.probes]
def mC (k : Brk) (s : BSet) (t : Int) : List Value := [.int .i64 k.mode, .int .i64 k.fails, .int .i64 k.til, .int .i64 k.probes, .int .i64 k.wins, .int .i64 s.fails, .int .i64 s.opn, .int .i64 s.probes, .int .i64 t]
def actE : Enc Act where
  sz := 4
  enc x := [.int .i64 x.what, .int .i64 x.tick, .bool x.probe, .bool x.good]
  len _ := rfl
  one := by intro x u hu; simp at hu; rcases hu with rfl | rfl | rfl | rfl <;> rfl
  pos := by decide
def setsB (s : BSet) : Bool := ((decide (s.fails ≥ 1) && decide (s.fails ≤ 1000)) && (decide (s.opn ≥ 1) && decide (s.opn ≤ 1048576))) && (decide (s.probes ≥ 1) && decide (s.probes ≤ 64))
def tripB (k : Brk) (s : BSet) (t : Int) : Brk := { k with mode := 1, til := IntKind.i64.wrap (t + s.opn), fails := 0, wins := 0 }
def onB (k : Brk) (t : Int) : Brk := if (k.mode == 1 && decide (k.til ≤ t)) = true then { k with mode := 2, wins := 0 } else k
def allowsB (k : Brk) (s : BSet) : Bool := k.mode == 0 || (k.mode == 2 && decide (k.probes < s.probes))
def failsB (k : Brk) (s : BSet) (t : Int) : Brk := if decide (IntKind.i64.wrap (k.fails + 1) ≥ s.fails) = true then { k with mode := 1, til := IntKind.i64.wrap (t + s.opn), fails := 0 } else { k with fails := IntKind.i64.wrap (k.fails + 1) }
def winsB (k : Brk) (s : BSet) : Brk := if decide (IntKind.i64.wrap (k.wins + 1) ≥ s.probes) = true then { k with mode := 0, fails := 0, wins := 0 } else { k with wins := IntKind.i64.wrap (k.wins + 1) }
def endsA (k : Brk) (s : BSet) (t : Int) (probe good : Bool) : Brk :=
  if (k.mode == 0 && good) = true then { k with fails := 0 } else if (k.mode == 0) = true then failsB k s t else if ((k.mode == 2 && probe) && good) = true then winsB k s else if (k.mode == 2 && probe) = true then { k with mode := 1, til := IntKind.i64.wrap (t + s.opn), wins := 0 } else k
def endsB (k : Brk) (s : BSet) (t : Int) (probe good : Bool) : Brk := if probe = true then endsA { k with probes := imax (IntKind.i64.wrap (k.probes - 1)) 0 } s t probe good else endsA k s t probe good
def actB (k : Brk) (s : BSet) (x : Act) : Brk × Int :=
  if (x.what == 1) = true then (onB k x.tick, 0) else if (x.what == 3) = true then (endsB k s x.tick x.probe x.good, 0) else if (!allowsB k s) = true then (k, 2) else if (k.mode == 2) = true then ({ k with probes := IntKind.i64.wrap (k.probes + 1) }, 1) else (k, 0)
theorem in15_ok (x a b : Int) (w0 : World) : Calls Try.prog 56 #[.int .i64 x, .int .i64 a, .int .i64 b] w0 fun e w' => e = .returned (.bool (decide (x ≥ a) && decide (x ≤ b))) ∧ Frm Nob w0 w' := by
  refine enter (μ := []) (S := Nob) (vs := [.int .i64 x, .int .i64 a, .int .i64 b]) Try.func56 rfl Try.ntmps56 rfl (Mem.nil _) (by simp) (fun a hC => ?_)
  refine W.seqk fun k1 hk1 => ?_
  refine W.region ?_
  refine L.pu hC rfl rfl (fun _ => All.nil) rfl rfl ?_; clear hC a; intro a hC
  refine L.nil ?_
  refine hk1 _ _ ?_; clear hk1; try clear k1
  refine W.seqk fun k2 hk2 => ?_
  refine W.region ?_
  refine L.pu hC rfl rfl (fun _ => All.nil) rfl rfl ?_; clear hC a; intro a hC
  refine L.pu hC rfl rfl (fun _ => All.nil) rfl rfl ?_; clear hC a; intro a hC
  refine L.pu hC rfl rfl (fun _ => All.nil) rfl rfl ?_; clear hC a; intro a hC
  refine L.pu hC rfl rfl (fun _ => All.nil) rfl rfl ?_; clear hC a; intro a hC
  refine L.pu hC rfl rfl (fun _ => All.nil) rfl rfl ?_; clear hC a; intro a hC
  refine L.pu hC rfl rfl (fun _ => All.nil) rfl rfl ?_; clear hC a; intro a hC
  refine L.pu hC rfl rfl (fun hg => by simp only [Gt, Bool.and_eq_true] at hg; simp only [All, List.cons_append, List.nil_append, List.append_nil, List.mem_cons, List.not_mem_nil, or_false, forall_eq_or_imp, forall_eq, Bool.and_eq_true, hg, Bool.not_false, Bool.not_true, and_self]) rfl rfl ?_; clear hC a; intro a hC
  refine L.and hC rfl rfl rfl rfl (fun _ => All.nil) (fun _ hp => by simp only [All, List.cons_append, List.nil_append, List.append_nil, List.mem_cons, List.not_mem_nil, or_false, forall_eq_or_imp, forall_eq, Bool.and_eq_true, hp, Bool.not_false, Bool.not_true, and_self]) rfl rfl ?_; clear hC a; intro a hC
  refine L.pu hC rfl rfl (fun _ => All.nil) rfl rfl ?_; clear hC a; intro a hC
  refine L.nil ?_
  refine hk2 _ _ ?_; clear hk2; try clear k2
  refine W.ret ?_
  refine rets hC rfl (.tmp rfl .nil) ?_
  refine ⟨?_, hC.frm⟩
  rfl

theorem sets15_ok (s : BSet) (w0 : World) : Calls Try.prog 57 #[.agg (sE s).toArray] w0 fun e w' => e = .returned (.bool (setsB s)) ∧ Frm Nob w0 w' := by
  refine enter (μ := []) (S := Nob) (vs := [.agg (sE s).toArray]) Try.func57 rfl Try.ntmps57 rfl (Mem.nil _) (by simp) (fun a hC => ?_)
  refine W.seqk fun k1 hk1 => ?_
  refine W.region ?_
  refine L.box hC rfl rfl rfl rfl rfl rfl ?_; clear hC a; intro b1 a w hF hC
  refine L.pu hC rfl rfl (fun _ => All.nil) rfl rfl ?_; clear hC a; intro a hC
  refine L.nil ?_
  refine hk1 _ _ ?_; clear hk1; try clear k1
  refine W.seqk fun k2 hk2 => ?_
  refine W.region ?_
  refine L.fa hC rfl rfl rfl (fun _ => All.nil) Try.underlying33 rfl Try.sizeOf3 rfl rfl rfl ?_; clear hC a; intro a hC
  refine L.ld hC rfl rfl rfl (fun _ => All.nil) m0 Try.isAgg3 rfl rfl rfl ?_; clear hC a; intro a hC
  refine L.call hC rfl rfl Try.call56 rfl (fun _ => All.nil) (fun hg => in15_ok _ _ _ _) rfl rfl ?_; clear hC a; intro a w hF hC
  refine L.pu hC rfl rfl (fun _ => All.nil) rfl rfl ?_; clear hC a; intro a hC
  refine L.fa hC rfl rfl rfl (fun _ => All.nil) Try.underlying33 rfl Try.sizeOf3 rfl rfl rfl ?_; clear hC a; intro a hC
  refine L.ld hC rfl rfl rfl (fun hg => by simp only [Gt, Bool.and_eq_true] at hg; simp only [All, List.cons_append, List.nil_append, List.append_nil, List.mem_cons, List.not_mem_nil, or_false, forall_eq_or_imp, forall_eq, Bool.and_eq_true, hg, Bool.not_false, Bool.not_true, and_self]) m0 Try.isAgg3 rfl rfl rfl ?_; clear hC a; intro a hC
  refine L.call hC rfl rfl Try.call56 rfl (fun hg => by simp only [Gt, Bool.and_eq_true] at hg; simp only [All, List.cons_append, List.nil_append, List.append_nil, List.mem_cons, List.not_mem_nil, or_false, forall_eq_or_imp, forall_eq, Bool.and_eq_true, hg, Bool.not_false, Bool.not_true, and_self]) (fun hg => in15_ok _ _ _ _) rfl rfl ?_; clear hC a; intro a w hF hC
  refine L.and hC rfl rfl rfl rfl (fun _ => All.nil) (fun _ hp => by simp only [All, List.cons_append, List.nil_append, List.append_nil, List.mem_cons, List.not_mem_nil, or_false, forall_eq_or_imp, forall_eq, Bool.and_eq_true, hp, Bool.not_false, Bool.not_true, and_self]) rfl rfl ?_; clear hC a; intro a hC
  refine L.pu hC rfl rfl (fun _ => All.nil) rfl rfl ?_; clear hC a; intro a hC
  refine L.fa hC rfl rfl rfl (fun _ => All.nil) Try.underlying33 rfl Try.sizeOf3 rfl rfl rfl ?_; clear hC a; intro a hC
  refine L.ld hC rfl rfl rfl (fun hg => by simp only [Gt, Bool.and_eq_true] at hg; simp only [All, List.cons_append, List.nil_append, List.append_nil, List.mem_cons, List.not_mem_nil, or_false, forall_eq_or_imp, forall_eq, Bool.and_eq_true, hg, Bool.not_false, Bool.not_true, and_self]) m0 Try.isAgg3 rfl rfl rfl ?_; clear hC a; intro a hC
  refine L.call hC rfl rfl Try.call56 rfl (fun hg => by simp only [Gt, Bool.and_eq_true] at hg; simp only [All, List.cons_append, List.nil_append, List.append_nil, List.mem_cons, List.not_mem_nil, or_false, forall_eq_or_imp, forall_eq, Bool.and_eq_true, hg, Bool.not_false, Bool.not_true, and_self]) (fun hg => in15_ok _ _ _ _) rfl rfl ?_; clear hC a; intro a w hF hC
  refine L.and hC rfl rfl rfl rfl (fun _ => All.nil) (fun _ hp => by simp only [All, List.cons_append, List.nil_append, List.append_nil, List.mem_cons, List.not_mem_nil, or_false, forall_eq_or_imp, forall_eq, Bool.and_eq_true, hp, Bool.not_false, Bool.not_true, and_self]) rfl rfl ?_; clear hC a; intro a hC
  refine L.pu hC rfl rfl (fun _ => All.nil) rfl rfl ?_; clear hC a; intro a hC
  refine L.nil ?_
  refine hk2 _ _ ?_; clear hk2; try clear k2
  refine W.ret ?_
  refine rets hC rfl (.tmp rfl .nil) ?_
  refine ⟨?_, hC.frm⟩
  rfl

theorem trip_ok (mb : Nat) (k : Brk) (s : BSet) (t : Int) (w0 : World) (hm : (blkR mb (mC k s t) 115).ok w0) : Calls Try.prog 149 #[.pointer (some ⟨mb, 0, none⟩)] w0 fun e w' => ∃ x : Unit, e = .returned (.tuple #[]) ∧ True ∧ Post (fun c => c = mb) [blkR mb (mC (tripB k s t) s t) 115] w0 w' := by
  refine enter (μ := [blkR mb (mC k s t) 115]) (S := (fun c => c = mb)) (vs := [.pointer (some ⟨mb, 0, none⟩)]) Try.func149 rfl Try.ntmps149 rfl ⟨by simpa using hm, by simp⟩ (by simp [blkR]) (fun a hC => ?_)
  refine W.drawN (fun c _ => match c with | 0 => [blkR mb (mC k s t) 115] | 1 => [blkR mb (mC { k with mode := 1 } s t) 115] | 2 => [blkR mb (mC { k with mode := 1, til := IntKind.i64.wrap (t + s.opn) } s t) 115] | 3 => [blkR mb (mC { k with mode := 1, til := IntKind.i64.wrap (t + s.opn), fails := 0 } s t) 115] | _ => [blkR mb (mC (tripB k s t) s t) 115]) undef hC Try.mixed rfl rfl ?_
  apply ERN.q (.det _ _) 0 rfl rfl
  · intro c' γ hle
    obtain rfl := (by omega : c' = 0)
    · intro a w hC
      refine L.pu hC rfl rfl (fun _ => All.nil) rfl rfl ?_; clear hC a; intro a hC
      exact L.nil ⟨⟨_, [], hC⟩, Frm.refl _ _⟩
  apply ERN.q (.det _ _) 1 rfl rfl
  · intro c' γ hle
    obtain rfl | rfl := (by omega : c' = 0 ∨ c' = 1)
    · intro a w hC
      refine L.pu hC rfl rfl (fun _ => All.nil) rfl rfl ?_; clear hC a; intro a hC
      exact L.nil ⟨⟨_, [], hC⟩, Frm.refl _ _⟩
    · intro a w hC
      refine L.pu hC rfl rfl (fun _ => All.nil) rfl rfl ?_; clear hC a; intro a hC
      exact L.nil ⟨⟨_, [], hC⟩, Frm.refl _ _⟩
  apply ERN.q (.det _ _) 2 rfl rfl
  · intro c' γ hle
    obtain rfl | rfl | rfl := (by omega : c' = 0 ∨ c' = 1 ∨ c' = 2)
    · intro a w hC
      refine L.pu hC rfl rfl (fun _ => All.nil) rfl rfl ?_; clear hC a; intro a hC
      exact L.nil ⟨⟨_, [], hC⟩, Frm.refl _ _⟩
    · intro a w hC
      refine L.pu hC rfl rfl (fun _ => All.nil) rfl rfl ?_; clear hC a; intro a hC
      exact L.nil ⟨⟨_, [], hC⟩, Frm.refl _ _⟩
    · intro a w hC
      refine L.pu hC rfl rfl (fun _ => All.nil) rfl rfl ?_; clear hC a; intro a hC
      exact L.nil ⟨⟨_, [], hC⟩, Frm.refl _ _⟩
  apply ERN.q (.det _ _) 3 rfl rfl
  · intro c' γ hle
    obtain rfl | rfl | rfl | rfl := (by omega : c' = 0 ∨ c' = 1 ∨ c' = 2 ∨ c' = 3)
    · intro a w hC
      refine L.pu hC rfl rfl (fun _ => All.nil) rfl rfl ?_; clear hC a; intro a hC
      exact L.nil ⟨⟨_, [], hC⟩, Frm.refl _ _⟩
    · intro a w hC
      refine L.pu hC rfl rfl (fun _ => All.nil) rfl rfl ?_; clear hC a; intro a hC
      exact L.nil ⟨⟨_, [], hC⟩, Frm.refl _ _⟩
    · intro a w hC
      refine L.pu hC rfl rfl (fun _ => All.nil) rfl rfl ?_; clear hC a; intro a hC
      exact L.nil ⟨⟨_, [], hC⟩, Frm.refl _ _⟩
    · intro a w hC
      refine L.pu hC rfl rfl (fun _ => All.nil) rfl rfl ?_; clear hC a; intro a hC
      exact L.nil ⟨⟨_, [], hC⟩, Frm.refl _ _⟩
  apply ERN.q (.det _ _) 1 rfl rfl
  · intro c' γ hle
    obtain rfl | rfl := (by omega : c' = 0 ∨ c' = 1)
    · intro a w hC
      refine L.pu hC rfl rfl (fun _ => All.nil) rfl rfl ?_; clear hC a; intro a hC
      exact L.nil ⟨⟨_, [], hC⟩, Frm.refl _ _⟩
    · intro a w hC
      refine L.pu hC rfl rfl (fun _ => All.nil) rfl rfl ?_; clear hC a; intro a hC
      exact L.nil ⟨⟨_, [], hC⟩, Frm.refl _ _⟩
  apply ERN.q (.det _ _) 1 rfl rfl
  · intro c' γ hle
    obtain rfl | rfl := (by omega : c' = 0 ∨ c' = 1)
    · intro a w hC
      refine L.pu hC rfl rfl (fun _ => All.nil) rfl rfl ?_; clear hC a; intro a hC
      exact L.nil ⟨⟨_, [], hC⟩, Frm.refl _ _⟩
    · intro a w hC
      refine L.pu hC rfl rfl (fun _ => All.nil) rfl rfl ?_; clear hC a; intro a hC
      exact L.nil ⟨⟨_, [], hC⟩, Frm.refl _ _⟩
  apply ERN.q (.det _ _) 1 rfl rfl
  · intro c' γ hle
    obtain rfl | rfl := (by omega : c' = 0 ∨ c' = 1)
    · intro a w hC
      refine L.fa hC rfl rfl rfl (fun _ => All.nil) Try.underlying115 rfl Try.sizeOf3 rfl rfl rfl ?_; clear hC a; intro a hC
      exact L.nil ⟨⟨_, [], hC⟩, Frm.refl _ _⟩
    · intro a w hC
      refine L.fa hC rfl rfl rfl (fun _ => All.nil) Try.underlying115 rfl Try.sizeOf3 rfl rfl rfl ?_; clear hC a; intro a hC
      exact L.nil ⟨⟨_, [], hC⟩, Frm.refl _ _⟩
  apply ERN.q (.det _ _) 0 rfl rfl
  · intro c' γ hle
    obtain rfl := (by omega : c' = 0)
    · intro a w hC
      refine L.ld hC rfl rfl rfl (fun _ => All.nil) m0 Try.isAgg3 rfl rfl rfl ?_; clear hC a; intro a hC
      exact L.nil ⟨⟨_, [], hC⟩, Frm.refl _ _⟩
  apply ERN.q (.det _ _) 1 rfl rfl
  · intro c' γ hle
    obtain rfl | rfl := (by omega : c' = 0 ∨ c' = 1)
    · intro a w hC
      refine L.pu hC rfl rfl (fun _ => All.nil) rfl rfl ?_; clear hC a; intro a hC
      exact L.nil ⟨⟨_, [], hC⟩, Frm.refl _ _⟩
    · intro a w hC
      refine L.pu hC rfl rfl (fun _ => All.nil) rfl rfl ?_; clear hC a; intro a hC
      exact L.nil ⟨⟨_, [], hC⟩, Frm.refl _ _⟩
  apply ERN.q (.det _ _) 1 rfl rfl
  · intro c' γ hle
    obtain rfl | rfl := (by omega : c' = 0 ∨ c' = 1)
    · intro a w hC
      refine L.pu hC rfl rfl (fun _ => All.nil) rfl rfl ?_; clear hC a; intro a hC
      exact L.nil ⟨⟨_, [], hC⟩, Frm.refl _ _⟩
    · intro a w hC
      refine L.pu hC rfl rfl (fun _ => All.nil) rfl rfl ?_; clear hC a; intro a hC
      exact L.nil ⟨⟨_, [], hC⟩, Frm.refl _ _⟩
  apply ERN.q (.det _ _) 1 rfl rfl
  · intro c' γ hle
    obtain rfl | rfl := (by omega : c' = 0 ∨ c' = 1)
    · intro a w hC
      refine L.fa hC rfl rfl rfl (fun _ => All.nil) Try.underlying115 rfl Try.sizeOf33 rfl rfl rfl ?_; clear hC a; intro a hC
      exact L.nil ⟨⟨_, [], hC⟩, Frm.refl _ _⟩
    · intro a w hC
      refine L.fa hC rfl rfl rfl (fun _ => All.nil) Try.underlying115 rfl Try.sizeOf33 rfl rfl rfl ?_; clear hC a; intro a hC
      exact L.nil ⟨⟨_, [], hC⟩, Frm.refl _ _⟩
  apply ERN.q (.det _ _) 1 rfl rfl
  · intro c' γ hle
    obtain rfl | rfl := (by omega : c' = 0 ∨ c' = 1)
    · intro a w hC
      refine L.fa hC rfl rfl rfl (fun _ => All.nil) Try.underlying33 rfl Try.sizeOf3 rfl rfl rfl ?_; clear hC a; intro a hC
      exact L.nil ⟨⟨_, [], hC⟩, Frm.refl _ _⟩
    · intro a w hC
      refine L.fa hC rfl rfl rfl (fun _ => All.nil) Try.underlying33 rfl Try.sizeOf3 rfl rfl rfl ?_; clear hC a; intro a hC
      exact L.nil ⟨⟨_, [], hC⟩, Frm.refl _ _⟩
  apply ERN.q (.det _ _) 0 rfl rfl
  · intro c' γ hle
    obtain rfl := (by omega : c' = 0)
    · intro a w hC
      refine L.ld hC rfl rfl rfl (fun _ => All.nil) m0 Try.isAgg3 rfl rfl rfl ?_; clear hC a; intro a hC
      exact L.nil ⟨⟨_, [], hC⟩, Frm.refl _ _⟩
  apply ERN.q (.det _ _) 1 rfl rfl
  · intro c' γ hle
    obtain rfl | rfl := (by omega : c' = 0 ∨ c' = 1)
    · intro a w hC
      refine L.pu hC rfl rfl (fun _ => All.nil) rfl rfl ?_; clear hC a; intro a hC
      exact L.nil ⟨⟨_, [], hC⟩, Frm.refl _ _⟩
    · intro a w hC
      refine L.pu hC rfl rfl (fun _ => All.nil) rfl rfl ?_; clear hC a; intro a hC
      exact L.nil ⟨⟨_, [], hC⟩, Frm.refl _ _⟩
  apply ERN.q (.det _ _) 1 rfl rfl
  · intro c' γ hle
    obtain rfl | rfl := (by omega : c' = 0 ∨ c' = 1)
    · intro a w hC
      refine L.pu hC rfl rfl (fun _ => All.nil) rfl rfl ?_; clear hC a; intro a hC
      exact L.nil ⟨⟨_, [], hC⟩, Frm.refl _ _⟩
    · intro a w hC
      refine L.pu hC rfl rfl (fun _ => All.nil) rfl rfl ?_; clear hC a; intro a hC
      exact L.nil ⟨⟨_, [], hC⟩, Frm.refl _ _⟩
  apply ERN.q (.det _ _) 1 rfl rfl
  · intro c' γ hle
    obtain rfl | rfl := (by omega : c' = 0 ∨ c' = 1)
    · intro a w hC
      refine L.fa hC rfl rfl rfl (fun _ => All.nil) Try.underlying115 rfl Try.sizeOf36 rfl rfl rfl ?_; clear hC a; intro a hC
      exact L.nil ⟨⟨_, [], hC⟩, Frm.refl _ _⟩
    · intro a w hC
      refine L.fa hC rfl rfl rfl (fun _ => All.nil) Try.underlying115 rfl Try.sizeOf36 rfl rfl rfl ?_; clear hC a; intro a hC
      exact L.nil ⟨⟨_, [], hC⟩, Frm.refl _ _⟩
  apply ERN.q (.det _ _) 0 rfl rfl
  · intro c' γ hle
    obtain rfl := (by omega : c' = 0)
    · intro a w hC
      refine L.fa hC rfl rfl rfl (fun _ => All.nil) Try.underlying36 rfl Try.sizeOf3 rfl rfl rfl ?_; clear hC a; intro a hC
      exact L.nil ⟨⟨_, [], hC⟩, Frm.refl _ _⟩
  apply ERN.f false (fun h => by cases h) rfl rfl
  · intro γ a w hC
    refine L.st hC rfl rfl rfl rfl Try.sizeOf3 rfl rfl rfl rfl rfl ?_; clear hC a; intro a w hF hC
    exact L.nil ⟨γ, _, fun _ => rfl, trivial, hC, hF⟩
  apply ERN.q (.det _ _) 2 rfl rfl
  · intro c' γ hle
    obtain rfl | rfl | rfl := (by omega : c' = 0 ∨ c' = 1 ∨ c' = 2)
    · intro a w hC
      refine L.pu hC rfl rfl (fun _ => All.nil) rfl rfl ?_; clear hC a; intro a hC
      exact L.nil ⟨⟨_, [], hC⟩, Frm.refl _ _⟩
    · intro a w hC
      refine L.pu hC rfl rfl (fun _ => All.nil) rfl rfl ?_; clear hC a; intro a hC
      exact L.nil ⟨⟨_, [], hC⟩, Frm.refl _ _⟩
    · intro a w hC
      refine L.pu hC rfl rfl (fun _ => All.nil) rfl rfl ?_; clear hC a; intro a hC
      exact L.nil ⟨⟨_, [], hC⟩, Frm.refl _ _⟩
  apply ERN.q (.det _ _) 2 rfl rfl
  · intro c' γ hle
    obtain rfl | rfl | rfl := (by omega : c' = 0 ∨ c' = 1 ∨ c' = 2)
    · intro a w hC
      refine L.fa hC rfl rfl rfl (fun _ => All.nil) Try.underlying115 rfl Try.sizeOf36 rfl rfl rfl ?_; clear hC a; intro a hC
      exact L.nil ⟨⟨_, [], hC⟩, Frm.refl _ _⟩
    · intro a w hC
      refine L.fa hC rfl rfl rfl (fun _ => All.nil) Try.underlying115 rfl Try.sizeOf36 rfl rfl rfl ?_; clear hC a; intro a hC
      exact L.nil ⟨⟨_, [], hC⟩, Frm.refl _ _⟩
    · intro a w hC
      refine L.fa hC rfl rfl rfl (fun _ => All.nil) Try.underlying115 rfl Try.sizeOf36 rfl rfl rfl ?_; clear hC a; intro a hC
      exact L.nil ⟨⟨_, [], hC⟩, Frm.refl _ _⟩
  apply ERN.q (.det _ _) 1 rfl rfl
  · intro c' γ hle
    obtain rfl | rfl := (by omega : c' = 0 ∨ c' = 1)
    · intro a w hC
      refine L.fa hC rfl rfl rfl (fun _ => All.nil) Try.underlying36 rfl Try.sizeOf3 rfl rfl rfl ?_; clear hC a; intro a hC
      exact L.nil ⟨⟨_, [], hC⟩, Frm.refl _ _⟩
    · intro a w hC
      refine L.fa hC rfl rfl rfl (fun _ => All.nil) Try.underlying36 rfl Try.sizeOf3 rfl rfl rfl ?_; clear hC a; intro a hC
      exact L.nil ⟨⟨_, [], hC⟩, Frm.refl _ _⟩
  apply ERN.f false (fun h => by cases h) rfl rfl
  · intro γ a w hC
    refine L.st hC rfl rfl rfl rfl Try.sizeOf3 rfl rfl rfl rfl rfl ?_; clear hC a; intro a w hF hC
    exact L.nil ⟨γ, _, fun _ => rfl, trivial, hC, hF⟩
  apply ERN.q (.det _ _) 3 rfl rfl
  · intro c' γ hle
    obtain rfl | rfl | rfl | rfl := (by omega : c' = 0 ∨ c' = 1 ∨ c' = 2 ∨ c' = 3)
    · intro a w hC
      refine L.pu hC rfl rfl (fun _ => All.nil) rfl rfl ?_; clear hC a; intro a hC
      exact L.nil ⟨⟨_, [], hC⟩, Frm.refl _ _⟩
    · intro a w hC
      refine L.pu hC rfl rfl (fun _ => All.nil) rfl rfl ?_; clear hC a; intro a hC
      exact L.nil ⟨⟨_, [], hC⟩, Frm.refl _ _⟩
    · intro a w hC
      refine L.pu hC rfl rfl (fun _ => All.nil) rfl rfl ?_; clear hC a; intro a hC
      exact L.nil ⟨⟨_, [], hC⟩, Frm.refl _ _⟩
    · intro a w hC
      refine L.pu hC rfl rfl (fun _ => All.nil) rfl rfl ?_; clear hC a; intro a hC
      exact L.nil ⟨⟨_, [], hC⟩, Frm.refl _ _⟩
  apply ERN.q (.det _ _) 3 rfl rfl
  · intro c' γ hle
    obtain rfl | rfl | rfl | rfl := (by omega : c' = 0 ∨ c' = 1 ∨ c' = 2 ∨ c' = 3)
    · intro a w hC
      refine L.fa hC rfl rfl rfl (fun _ => All.nil) Try.underlying115 rfl Try.sizeOf36 rfl rfl rfl ?_; clear hC a; intro a hC
      exact L.nil ⟨⟨_, [], hC⟩, Frm.refl _ _⟩
    · intro a w hC
      refine L.fa hC rfl rfl rfl (fun _ => All.nil) Try.underlying115 rfl Try.sizeOf36 rfl rfl rfl ?_; clear hC a; intro a hC
      exact L.nil ⟨⟨_, [], hC⟩, Frm.refl _ _⟩
    · intro a w hC
      refine L.fa hC rfl rfl rfl (fun _ => All.nil) Try.underlying115 rfl Try.sizeOf36 rfl rfl rfl ?_; clear hC a; intro a hC
      exact L.nil ⟨⟨_, [], hC⟩, Frm.refl _ _⟩
    · intro a w hC
      refine L.fa hC rfl rfl rfl (fun _ => All.nil) Try.underlying115 rfl Try.sizeOf36 rfl rfl rfl ?_; clear hC a; intro a hC
      exact L.nil ⟨⟨_, [], hC⟩, Frm.refl _ _⟩
  apply ERN.q (.det _ _) 2 rfl rfl
  · intro c' γ hle
    obtain rfl | rfl | rfl := (by omega : c' = 0 ∨ c' = 1 ∨ c' = 2)
    · intro a w hC
      refine L.fa hC rfl rfl rfl (fun _ => All.nil) Try.underlying36 rfl Try.sizeOf3 rfl rfl rfl ?_; clear hC a; intro a hC
      exact L.nil ⟨⟨_, [], hC⟩, Frm.refl _ _⟩
    · intro a w hC
      refine L.fa hC rfl rfl rfl (fun _ => All.nil) Try.underlying36 rfl Try.sizeOf3 rfl rfl rfl ?_; clear hC a; intro a hC
      exact L.nil ⟨⟨_, [], hC⟩, Frm.refl _ _⟩
    · intro a w hC
      refine L.fa hC rfl rfl rfl (fun _ => All.nil) Try.underlying36 rfl Try.sizeOf3 rfl rfl rfl ?_; clear hC a; intro a hC
      exact L.nil ⟨⟨_, [], hC⟩, Frm.refl _ _⟩
  apply ERN.f false (fun h => by cases h) rfl rfl
  · intro γ a w hC
    refine L.st hC rfl rfl rfl rfl Try.sizeOf3 rfl rfl rfl rfl rfl ?_; clear hC a; intro a w hF hC
    exact L.nil ⟨γ, _, fun _ => rfl, trivial, hC, hF⟩
  apply ERN.q (.det _ _) 4 rfl rfl
  · intro c' γ hle
    obtain rfl | rfl | rfl | rfl | rfl := (by omega : c' = 0 ∨ c' = 1 ∨ c' = 2 ∨ c' = 3 ∨ c' = 4)
    · intro a w hC
      refine L.pu hC rfl rfl (fun _ => All.nil) rfl rfl ?_; clear hC a; intro a hC
      exact L.nil ⟨⟨_, [], hC⟩, Frm.refl _ _⟩
    · intro a w hC
      refine L.pu hC rfl rfl (fun _ => All.nil) rfl rfl ?_; clear hC a; intro a hC
      exact L.nil ⟨⟨_, [], hC⟩, Frm.refl _ _⟩
    · intro a w hC
      refine L.pu hC rfl rfl (fun _ => All.nil) rfl rfl ?_; clear hC a; intro a hC
      exact L.nil ⟨⟨_, [], hC⟩, Frm.refl _ _⟩
    · intro a w hC
      refine L.pu hC rfl rfl (fun _ => All.nil) rfl rfl ?_; clear hC a; intro a hC
      exact L.nil ⟨⟨_, [], hC⟩, Frm.refl _ _⟩
    · intro a w hC
      refine L.pu hC rfl rfl (fun _ => All.nil) rfl rfl ?_; clear hC a; intro a hC
      exact L.nil ⟨⟨_, [], hC⟩, Frm.refl _ _⟩
  apply ERN.q (.det _ _) 4 rfl rfl
  · intro c' γ hle
    obtain rfl | rfl | rfl | rfl | rfl := (by omega : c' = 0 ∨ c' = 1 ∨ c' = 2 ∨ c' = 3 ∨ c' = 4)
    · intro a w hC
      refine L.fa hC rfl rfl rfl (fun _ => All.nil) Try.underlying115 rfl Try.sizeOf36 rfl rfl rfl ?_; clear hC a; intro a hC
      exact L.nil ⟨⟨_, [], hC⟩, Frm.refl _ _⟩
    · intro a w hC
      refine L.fa hC rfl rfl rfl (fun _ => All.nil) Try.underlying115 rfl Try.sizeOf36 rfl rfl rfl ?_; clear hC a; intro a hC
      exact L.nil ⟨⟨_, [], hC⟩, Frm.refl _ _⟩
    · intro a w hC
      refine L.fa hC rfl rfl rfl (fun _ => All.nil) Try.underlying115 rfl Try.sizeOf36 rfl rfl rfl ?_; clear hC a; intro a hC
      exact L.nil ⟨⟨_, [], hC⟩, Frm.refl _ _⟩
    · intro a w hC
      refine L.fa hC rfl rfl rfl (fun _ => All.nil) Try.underlying115 rfl Try.sizeOf36 rfl rfl rfl ?_; clear hC a; intro a hC
      exact L.nil ⟨⟨_, [], hC⟩, Frm.refl _ _⟩
    · intro a w hC
      refine L.fa hC rfl rfl rfl (fun _ => All.nil) Try.underlying115 rfl Try.sizeOf36 rfl rfl rfl ?_; clear hC a; intro a hC
      exact L.nil ⟨⟨_, [], hC⟩, Frm.refl _ _⟩
  apply ERN.q (.det _ _) 3 rfl rfl
  · intro c' γ hle
    obtain rfl | rfl | rfl | rfl := (by omega : c' = 0 ∨ c' = 1 ∨ c' = 2 ∨ c' = 3)
    · intro a w hC
      refine L.fa hC rfl rfl rfl (fun _ => All.nil) Try.underlying36 rfl Try.sizeOf3 rfl rfl rfl ?_; clear hC a; intro a hC
      exact L.nil ⟨⟨_, [], hC⟩, Frm.refl _ _⟩
    · intro a w hC
      refine L.fa hC rfl rfl rfl (fun _ => All.nil) Try.underlying36 rfl Try.sizeOf3 rfl rfl rfl ?_; clear hC a; intro a hC
      exact L.nil ⟨⟨_, [], hC⟩, Frm.refl _ _⟩
    · intro a w hC
      refine L.fa hC rfl rfl rfl (fun _ => All.nil) Try.underlying36 rfl Try.sizeOf3 rfl rfl rfl ?_; clear hC a; intro a hC
      exact L.nil ⟨⟨_, [], hC⟩, Frm.refl _ _⟩
    · intro a w hC
      refine L.fa hC rfl rfl rfl (fun _ => All.nil) Try.underlying36 rfl Try.sizeOf3 rfl rfl rfl ?_; clear hC a; intro a hC
      exact L.nil ⟨⟨_, [], hC⟩, Frm.refl _ _⟩
  apply ERN.f false (fun h => by cases h) rfl rfl
  · intro γ a w hC
    refine L.st hC rfl rfl rfl rfl Try.sizeOf3 rfl rfl rfl rfl rfl ?_; clear hC a; intro a w hF hC
    exact L.nil ⟨γ, _, fun _ => rfl, trivial, hC, hF⟩
  refine ERN.nil ?_
  intro γ w' a w hC hw
  subst hw
  replace hC := hC.one (r := _) m0
  refine ret0 hC rfl ?_
  exact ⟨(), rfl, trivial, hC.toPost (by simp [blkR])⟩

theorem on_ok (mb : Nat) (k : Brk) (s : BSet) (t : Int) (w0 : World) (hm : (blkR mb (mC k s t) 115).ok w0) : Calls Try.prog 107 #[.pointer (some ⟨mb, 0, none⟩)] w0 fun e w' => ∃ x : Unit, e = .returned (.tuple #[]) ∧ True ∧ Post (fun c => c = mb) [blkR mb (mC (onB k t) s t) 115] w0 w' := by
  refine enter (μ := [blkR mb (mC k s t) 115]) (S := (fun c => c = mb)) (vs := [.pointer (some ⟨mb, 0, none⟩)]) Try.func107 rfl Try.ntmps107 rfl ⟨by simpa using hm, by simp⟩ (by simp [blkR]) (fun a hC => ?_)
  refine W.seqk fun k1 hk1 => ?_
  refine W.drawD hC Try.mixed rfl rfl ?_
  apply DRN.cons (.det _ _) rfl
  · intro a w hC
    refine L.pu hC rfl rfl (fun _ => All.nil) rfl rfl ?_; clear hC a; intro a hC
    exact L.nil ⟨⟨_, [], hC⟩, Frm.refl _ _⟩
  apply DRN.cons (.det _ _) rfl
  · intro a w hC
    refine L.pu hC rfl rfl (fun _ => All.nil) rfl rfl ?_; clear hC a; intro a hC
    exact L.nil ⟨⟨_, [], hC⟩, Frm.refl _ _⟩
  apply DRN.cons (.det _ _) rfl
  · intro a w hC
    refine L.fa hC rfl rfl rfl (fun _ => All.nil) Try.underlying115 rfl Try.sizeOf36 rfl rfl rfl ?_; clear hC a; intro a hC
    exact L.nil ⟨⟨_, [], hC⟩, Frm.refl _ _⟩
  apply DRN.cons (.det _ _) rfl
  · intro a w hC
    refine L.fa hC rfl rfl rfl (fun _ => All.nil) Try.underlying36 rfl Try.sizeOf3 rfl rfl rfl ?_; clear hC a; intro a hC
    exact L.nil ⟨⟨_, [], hC⟩, Frm.refl _ _⟩
  apply DRN.cons (.det _ _) rfl
  · intro a w hC
    refine L.ld hC rfl rfl rfl (fun _ => All.nil) m0 Try.isAgg3 rfl rfl rfl ?_; clear hC a; intro a hC
    exact L.nil ⟨⟨_, [], hC⟩, Frm.refl _ _⟩
  apply DRN.cons (.det _ _) rfl
  · intro a w hC
    refine L.pu hC rfl rfl (fun _ => All.nil) rfl rfl ?_; clear hC a; intro a hC
    exact L.nil ⟨⟨_, [], hC⟩, Frm.refl _ _⟩
  apply DRN.cons (.det _ _) rfl
  · intro a w hC
    refine L.pu hC rfl rfl (fun _ => All.nil) rfl rfl ?_; clear hC a; intro a hC
    exact L.nil ⟨⟨_, [], hC⟩, Frm.refl _ _⟩
  apply DRN.cons (.det _ _) rfl
  · intro a w hC
    refine L.pu hC rfl rfl (fun _ => All.nil) rfl rfl ?_; clear hC a; intro a hC
    exact L.nil ⟨⟨_, [], hC⟩, Frm.refl _ _⟩
  apply DRN.cons (.det _ _) rfl
  · intro a w hC
    refine L.pu hC rfl rfl (fun hg => by simp only [Gt, Bool.and_eq_true] at hg; simp only [All, List.cons_append, List.nil_append, List.append_nil, List.mem_cons, List.not_mem_nil, or_false, forall_eq_or_imp, forall_eq, Bool.and_eq_true, hg, Bool.not_false, Bool.not_true, and_self]) rfl rfl ?_; clear hC a; intro a hC
    exact L.nil ⟨⟨_, [], hC⟩, Frm.refl _ _⟩
  apply DRN.cons (.det _ _) rfl
  · intro a w hC
    refine L.fa hC rfl rfl rfl (fun hg => by simp only [Gt, Bool.and_eq_true] at hg; simp only [All, List.cons_append, List.nil_append, List.append_nil, List.mem_cons, List.not_mem_nil, or_false, forall_eq_or_imp, forall_eq, Bool.and_eq_true, hg, Bool.not_false, Bool.not_true, and_self]) Try.underlying115 rfl Try.sizeOf36 rfl rfl rfl ?_; clear hC a; intro a hC
    exact L.nil ⟨⟨_, [], hC⟩, Frm.refl _ _⟩
  apply DRN.cons (.det _ _) rfl
  · intro a w hC
    refine L.fa hC rfl rfl rfl (fun hg => by simp only [Gt, Bool.and_eq_true] at hg; simp only [All, List.cons_append, List.nil_append, List.append_nil, List.mem_cons, List.not_mem_nil, or_false, forall_eq_or_imp, forall_eq, Bool.and_eq_true, hg, Bool.not_false, Bool.not_true, and_self]) Try.underlying36 rfl Try.sizeOf3 rfl rfl rfl ?_; clear hC a; intro a hC
    exact L.nil ⟨⟨_, [], hC⟩, Frm.refl _ _⟩
  apply DRN.cons (.det _ _) rfl
  · intro a w hC
    refine L.ld hC rfl rfl rfl (fun hg => by simp only [Gt, Bool.and_eq_true] at hg; simp only [All, List.cons_append, List.nil_append, List.append_nil, List.mem_cons, List.not_mem_nil, or_false, forall_eq_or_imp, forall_eq, Bool.and_eq_true, hg, Bool.not_false, Bool.not_true, and_self]) m0 Try.isAgg3 rfl rfl rfl ?_; clear hC a; intro a hC
    exact L.nil ⟨⟨_, [], hC⟩, Frm.refl _ _⟩
  apply DRN.cons (.det _ _) rfl
  · intro a w hC
    refine L.pu hC rfl rfl (fun _ => All.nil) rfl rfl ?_; clear hC a; intro a hC
    exact L.nil ⟨⟨_, [], hC⟩, Frm.refl _ _⟩
  apply DRN.cons (.det _ _) rfl
  · intro a w hC
    refine L.pu hC rfl rfl (fun hg => by simp only [Gt, Bool.and_eq_true] at hg; simp only [All, List.cons_append, List.nil_append, List.append_nil, List.mem_cons, List.not_mem_nil, or_false, forall_eq_or_imp, forall_eq, Bool.and_eq_true, hg, Bool.not_false, Bool.not_true, and_self]) rfl rfl ?_; clear hC a; intro a hC
    exact L.nil ⟨⟨_, [], hC⟩, Frm.refl _ _⟩
  apply DRN.cons (.det _ _) rfl
  · intro a w hC
    refine L.fa hC rfl rfl rfl (fun hg => by simp only [Gt, Bool.and_eq_true] at hg; simp only [All, List.cons_append, List.nil_append, List.append_nil, List.mem_cons, List.not_mem_nil, or_false, forall_eq_or_imp, forall_eq, Bool.and_eq_true, hg, Bool.not_false, Bool.not_true, and_self]) Try.underlying115 rfl Try.sizeOf3 rfl rfl rfl ?_; clear hC a; intro a hC
    exact L.nil ⟨⟨_, [], hC⟩, Frm.refl _ _⟩
  apply DRN.cons (.det _ _) rfl
  · intro a w hC
    refine L.ld hC rfl rfl rfl (fun hg => by simp only [Gt, Bool.and_eq_true] at hg; simp only [All, List.cons_append, List.nil_append, List.append_nil, List.mem_cons, List.not_mem_nil, or_false, forall_eq_or_imp, forall_eq, Bool.and_eq_true, hg, Bool.not_false, Bool.not_true, and_self]) m0 Try.isAgg3 rfl rfl rfl ?_; clear hC a; intro a hC
    exact L.nil ⟨⟨_, [], hC⟩, Frm.refl _ _⟩
  apply DRN.cons (.det _ _) rfl
  · intro a w hC
    refine L.pu hC rfl rfl (fun hg => by simp only [Gt, Bool.and_eq_true] at hg; simp only [All, List.cons_append, List.nil_append, List.append_nil, List.mem_cons, List.not_mem_nil, or_false, forall_eq_or_imp, forall_eq, Bool.and_eq_true, hg, Bool.not_false, Bool.not_true, and_self]) rfl rfl ?_; clear hC a; intro a hC
    exact L.nil ⟨⟨_, [], hC⟩, Frm.refl _ _⟩
  apply DRN.cons (.det _ _) rfl
  · intro a w hC
    refine L.and hC rfl rfl rfl rfl (fun _ => All.nil) (fun _ hp => by simp only [All, List.cons_append, List.nil_append, List.append_nil, List.mem_cons, List.not_mem_nil, or_false, forall_eq_or_imp, forall_eq, Bool.and_eq_true, hp, Bool.not_false, Bool.not_true, and_self]) rfl rfl ?_; clear hC a; intro a hC
    exact L.nil ⟨⟨_, [], hC⟩, Frm.refl _ _⟩
  refine DRN.nil (fun w' hF => ?_)
  intro a w hC hw
  subst hw
  refine hk1 _ _ ?_; clear hk1; try clear k1
  refine W.cond hC rfl (fun h1 => ?_) (fun h1 => ?_)
  ·
    refine W.region ?_
    refine L.pu hC rfl rfl (fun _ => All.nil) rfl rfl ?_; clear hC a; intro a hC
    refine L.pu hC rfl rfl (fun _ => All.nil) rfl rfl ?_; clear hC a; intro a hC
    refine L.pu hC rfl rfl (fun _ => All.nil) rfl rfl ?_; clear hC a; intro a hC
    refine L.fa hC rfl rfl rfl (fun _ => All.nil) Try.underlying115 rfl Try.sizeOf36 rfl rfl rfl ?_; clear hC a; intro a hC
    refine L.fa hC rfl rfl rfl (fun _ => All.nil) Try.underlying36 rfl Try.sizeOf3 rfl rfl rfl ?_; clear hC a; intro a hC
    refine L.st hC rfl rfl rfl rfl Try.sizeOf3 rfl rfl rfl rfl rfl ?_; clear hC a; intro a w hF hC
    refine L.pu hC rfl rfl (fun _ => All.nil) rfl rfl ?_; clear hC a; intro a hC
    refine L.fa hC rfl rfl rfl (fun _ => All.nil) Try.underlying115 rfl Try.sizeOf36 rfl rfl rfl ?_; clear hC a; intro a hC
    refine L.fa hC rfl rfl rfl (fun _ => All.nil) Try.underlying36 rfl Try.sizeOf3 rfl rfl rfl ?_; clear hC a; intro a hC
    refine L.st hC rfl rfl rfl rfl Try.sizeOf3 rfl rfl rfl rfl rfl ?_; clear hC a; intro a w hF hC
    refine L.nil ?_
    replace hC := hC.one (r := _) m0
    refine ret0 hC rfl ?_
    exact ⟨(), rfl, trivial, by unfold onB; rw [if_pos h1]; exact hC.toPost (by simp [blkR])⟩
  ·
    refine W.skip ?_
    replace hC := hC.one (r := _) m0
    refine ret0 hC rfl ?_
    exact ⟨(), rfl, trivial, by unfold onB; rw [if_neg (nt h1)]; exact hC.toPost (by simp [blkR])⟩

theorem allows_ok (mb : Nat) (k : Brk) (s : BSet) (t : Int) (w0 : World) (hm : (blkR mb (mC k s t) 115).ok w0) : Calls Try.prog 109 #[.pointer (some ⟨mb, 0, none⟩)] w0 fun e w' => e = .returned (.bool (allowsB k s)) ∧ Frm Nob w0 w' := by
  refine enter (μ := [blkR mb (mC k s t) 115]) (S := (fun c => c = mb)) (vs := [.pointer (some ⟨mb, 0, none⟩)]) Try.func109 rfl Try.ntmps109 rfl ⟨by simpa using hm, by simp⟩ (by simp [blkR]) (fun a hC => ?_)
  refine W.seqk fun k1 hk1 => ?_
  refine W.region ?_
  refine L.pu hC rfl rfl (fun _ => All.nil) rfl rfl ?_; clear hC a; intro a hC
  refine L.nil ?_
  refine hk1 _ _ ?_; clear hk1; try clear k1
  refine W.seqk fun k2 hk2 => ?_
  replace hC := hC.del 2
  refine W.drawD hC Try.mixed rfl rfl ?_
  apply DRN.cons (.det _ _) rfl
  · intro a w hC
    refine L.pu hC rfl rfl (fun _ => All.nil) rfl rfl ?_; clear hC a; intro a hC
    exact L.nil ⟨⟨_, [], hC⟩, Frm.refl _ _⟩
  apply DRN.cons (.det _ _) rfl
  · intro a w hC
    refine L.pu hC rfl rfl (fun _ => All.nil) rfl rfl ?_; clear hC a; intro a hC
    exact L.nil ⟨⟨_, [], hC⟩, Frm.refl _ _⟩
  apply DRN.cons (.det _ _) rfl
  · intro a w hC
    refine L.fa hC rfl rfl rfl (fun _ => All.nil) Try.underlying115 rfl Try.sizeOf36 rfl rfl rfl ?_; clear hC a; intro a hC
    exact L.nil ⟨⟨_, [], hC⟩, Frm.refl _ _⟩
  apply DRN.cons (.det _ _) rfl
  · intro a w hC
    refine L.fa hC rfl rfl rfl (fun _ => All.nil) Try.underlying36 rfl Try.sizeOf3 rfl rfl rfl ?_; clear hC a; intro a hC
    exact L.nil ⟨⟨_, [], hC⟩, Frm.refl _ _⟩
  apply DRN.cons (.det _ _) rfl
  · intro a w hC
    refine L.ld hC rfl rfl rfl (fun _ => All.nil) m0 Try.isAgg3 rfl rfl rfl ?_; clear hC a; intro a hC
    exact L.nil ⟨⟨_, [], hC⟩, Frm.refl _ _⟩
  apply DRN.cons (.det _ _) rfl
  · intro a w hC
    refine L.pu hC rfl rfl (fun _ => All.nil) rfl rfl ?_; clear hC a; intro a hC
    exact L.nil ⟨⟨_, [], hC⟩, Frm.refl _ _⟩
  apply DRN.cons (.det _ _) rfl
  · intro a w hC
    refine L.pu hC rfl rfl (fun _ => All.nil) rfl rfl ?_; clear hC a; intro a hC
    exact L.nil ⟨⟨_, [], hC⟩, Frm.refl _ _⟩
  apply DRN.cons (.det _ _) rfl
  · intro a w hC
    refine L.pu hC rfl rfl (fun _ => All.nil) rfl rfl ?_; clear hC a; intro a hC
    exact L.nil ⟨⟨_, [], hC⟩, Frm.refl _ _⟩
  apply DRN.cons (.det _ _) rfl
  · intro a w hC
    refine L.pu hC rfl rfl (fun hg => by simp only [Gt, Bool.and_eq_true] at hg; simp only [All, List.cons_append, List.nil_append, List.append_nil, List.mem_cons, List.not_mem_nil, or_false, forall_eq_or_imp, forall_eq, Bool.and_eq_true, hg, Bool.not_false, Bool.not_true, and_self]) rfl rfl ?_; clear hC a; intro a hC
    exact L.nil ⟨⟨_, [], hC⟩, Frm.refl _ _⟩
  apply DRN.cons (.det _ _) rfl
  · intro a w hC
    refine L.fa hC rfl rfl rfl (fun hg => by simp only [Gt, Bool.and_eq_true] at hg; simp only [All, List.cons_append, List.nil_append, List.append_nil, List.mem_cons, List.not_mem_nil, or_false, forall_eq_or_imp, forall_eq, Bool.and_eq_true, hg, Bool.not_false, Bool.not_true, and_self]) Try.underlying115 rfl Try.sizeOf36 rfl rfl rfl ?_; clear hC a; intro a hC
    exact L.nil ⟨⟨_, [], hC⟩, Frm.refl _ _⟩
  apply DRN.cons (.det _ _) rfl
  · intro a w hC
    refine L.fa hC rfl rfl rfl (fun hg => by simp only [Gt, Bool.and_eq_true] at hg; simp only [All, List.cons_append, List.nil_append, List.append_nil, List.mem_cons, List.not_mem_nil, or_false, forall_eq_or_imp, forall_eq, Bool.and_eq_true, hg, Bool.not_false, Bool.not_true, and_self]) Try.underlying36 rfl Try.sizeOf3 rfl rfl rfl ?_; clear hC a; intro a hC
    exact L.nil ⟨⟨_, [], hC⟩, Frm.refl _ _⟩
  apply DRN.cons (.det _ _) rfl
  · intro a w hC
    refine L.ld hC rfl rfl rfl (fun hg => by simp only [Gt, Bool.and_eq_true] at hg; simp only [All, List.cons_append, List.nil_append, List.append_nil, List.mem_cons, List.not_mem_nil, or_false, forall_eq_or_imp, forall_eq, Bool.and_eq_true, hg, Bool.not_false, Bool.not_true, and_self]) m0 Try.isAgg3 rfl rfl rfl ?_; clear hC a; intro a hC
    exact L.nil ⟨⟨_, [], hC⟩, Frm.refl _ _⟩
  apply DRN.cons (.det _ _) rfl
  · intro a w hC
    refine L.pu hC rfl rfl (fun hg => by simp only [Gt, Bool.and_eq_true] at hg; simp only [All, List.cons_append, List.nil_append, List.append_nil, List.mem_cons, List.not_mem_nil, or_false, forall_eq_or_imp, forall_eq, Bool.and_eq_true, hg, Bool.not_false, Bool.not_true, and_self]) rfl rfl ?_; clear hC a; intro a hC
    exact L.nil ⟨⟨_, [], hC⟩, Frm.refl _ _⟩
  apply DRN.cons (.det _ _) rfl
  · intro a w hC
    refine L.pu hC rfl rfl (fun hg => by simp only [Gt, Bool.and_eq_true] at hg; simp only [All, List.cons_append, List.nil_append, List.append_nil, List.mem_cons, List.not_mem_nil, or_false, forall_eq_or_imp, forall_eq, Bool.and_eq_true, hg, Bool.not_false, Bool.not_true, and_self]) rfl rfl ?_; clear hC a; intro a hC
    exact L.nil ⟨⟨_, [], hC⟩, Frm.refl _ _⟩
  apply DRN.cons (.det _ _) rfl
  · intro a w hC
    refine L.pu hC rfl rfl (fun _ => All.nil) rfl rfl ?_; clear hC a; intro a hC
    exact L.nil ⟨⟨_, [], hC⟩, Frm.refl _ _⟩
  apply DRN.cons (.det _ _) rfl
  · intro a w hC
    refine L.pu hC rfl rfl (fun hg => by simp only [Gt, Bool.and_eq_true] at hg; simp only [All, List.cons_append, List.nil_append, List.append_nil, List.mem_cons, List.not_mem_nil, or_false, forall_eq_or_imp, forall_eq, Bool.and_eq_true, hg, Bool.not_false, Bool.not_true, and_self]) rfl rfl ?_; clear hC a; intro a hC
    exact L.nil ⟨⟨_, [], hC⟩, Frm.refl _ _⟩
  apply DRN.cons (.det _ _) rfl
  · intro a w hC
    refine L.fa hC rfl rfl rfl (fun hg => by simp only [Gt, Bool.and_eq_true] at hg; simp only [All, List.cons_append, List.nil_append, List.append_nil, List.mem_cons, List.not_mem_nil, or_false, forall_eq_or_imp, forall_eq, Bool.and_eq_true, hg, Bool.not_false, Bool.not_true, and_self]) Try.underlying115 rfl Try.sizeOf36 rfl rfl rfl ?_; clear hC a; intro a hC
    exact L.nil ⟨⟨_, [], hC⟩, Frm.refl _ _⟩
  apply DRN.cons (.det _ _) rfl
  · intro a w hC
    refine L.fa hC rfl rfl rfl (fun hg => by simp only [Gt, Bool.and_eq_true] at hg; simp only [All, List.cons_append, List.nil_append, List.append_nil, List.mem_cons, List.not_mem_nil, or_false, forall_eq_or_imp, forall_eq, Bool.and_eq_true, hg, Bool.not_false, Bool.not_true, and_self]) Try.underlying36 rfl Try.sizeOf3 rfl rfl rfl ?_; clear hC a; intro a hC
    exact L.nil ⟨⟨_, [], hC⟩, Frm.refl _ _⟩
  apply DRN.cons (.det _ _) rfl
  · intro a w hC
    refine L.ld hC rfl rfl rfl (fun hg => by simp only [Gt, Bool.and_eq_true] at hg; simp only [All, List.cons_append, List.nil_append, List.append_nil, List.mem_cons, List.not_mem_nil, or_false, forall_eq_or_imp, forall_eq, Bool.and_eq_true, hg, Bool.not_false, Bool.not_true, and_self]) m0 Try.isAgg3 rfl rfl rfl ?_; clear hC a; intro a hC
    exact L.nil ⟨⟨_, [], hC⟩, Frm.refl _ _⟩
  apply DRN.cons (.det _ _) rfl
  · intro a w hC
    refine L.pu hC rfl rfl (fun _ => All.nil) rfl rfl ?_; clear hC a; intro a hC
    exact L.nil ⟨⟨_, [], hC⟩, Frm.refl _ _⟩
  apply DRN.cons (.det _ _) rfl
  · intro a w hC
    refine L.pu hC rfl rfl (fun hg => by simp only [Gt, Bool.and_eq_true] at hg; simp only [All, List.cons_append, List.nil_append, List.append_nil, List.mem_cons, List.not_mem_nil, or_false, forall_eq_or_imp, forall_eq, Bool.and_eq_true, hg, Bool.not_false, Bool.not_true, and_self]) rfl rfl ?_; clear hC a; intro a hC
    exact L.nil ⟨⟨_, [], hC⟩, Frm.refl _ _⟩
  apply DRN.cons (.det _ _) rfl
  · intro a w hC
    refine L.fa hC rfl rfl rfl (fun hg => by simp only [Gt, Bool.and_eq_true] at hg; simp only [All, List.cons_append, List.nil_append, List.append_nil, List.mem_cons, List.not_mem_nil, or_false, forall_eq_or_imp, forall_eq, Bool.and_eq_true, hg, Bool.not_false, Bool.not_true, and_self]) Try.underlying115 rfl Try.sizeOf33 rfl rfl rfl ?_; clear hC a; intro a hC
    exact L.nil ⟨⟨_, [], hC⟩, Frm.refl _ _⟩
  apply DRN.cons (.det _ _) rfl
  · intro a w hC
    refine L.fa hC rfl rfl rfl (fun hg => by simp only [Gt, Bool.and_eq_true] at hg; simp only [All, List.cons_append, List.nil_append, List.append_nil, List.mem_cons, List.not_mem_nil, or_false, forall_eq_or_imp, forall_eq, Bool.and_eq_true, hg, Bool.not_false, Bool.not_true, and_self]) Try.underlying33 rfl Try.sizeOf3 rfl rfl rfl ?_; clear hC a; intro a hC
    exact L.nil ⟨⟨_, [], hC⟩, Frm.refl _ _⟩
  apply DRN.cons (.det _ _) rfl
  · intro a w hC
    refine L.ld hC rfl rfl rfl (fun hg => by simp only [Gt, Bool.and_eq_true] at hg; simp only [All, List.cons_append, List.nil_append, List.append_nil, List.mem_cons, List.not_mem_nil, or_false, forall_eq_or_imp, forall_eq, Bool.and_eq_true, hg, Bool.not_false, Bool.not_true, and_self]) m0 Try.isAgg3 rfl rfl rfl ?_; clear hC a; intro a hC
    exact L.nil ⟨⟨_, [], hC⟩, Frm.refl _ _⟩
  apply DRN.cons (.det _ _) rfl
  · intro a w hC
    refine L.pu hC rfl rfl (fun hg => by simp only [Gt, Bool.and_eq_true] at hg; simp only [All, List.cons_append, List.nil_append, List.append_nil, List.mem_cons, List.not_mem_nil, or_false, forall_eq_or_imp, forall_eq, Bool.and_eq_true, hg, Bool.not_false, Bool.not_true, and_self]) rfl rfl ?_; clear hC a; intro a hC
    exact L.nil ⟨⟨_, [], hC⟩, Frm.refl _ _⟩
  apply DRN.cons (.det _ _) rfl
  · intro a w hC
    refine L.and hC rfl rfl rfl rfl (fun hg => by simp only [Gt, Bool.and_eq_true] at hg; simp only [All, List.cons_append, List.nil_append, List.append_nil, List.mem_cons, List.not_mem_nil, or_false, forall_eq_or_imp, forall_eq, Bool.and_eq_true, hg, Bool.not_false, Bool.not_true, and_self]) (fun hg hp => by simp only [Gt, Bool.and_eq_true] at hg; simp only [All, List.cons_append, List.nil_append, List.append_nil, List.mem_cons, List.not_mem_nil, or_false, forall_eq_or_imp, forall_eq, Bool.and_eq_true, hg, hp, Bool.not_false, Bool.not_true, and_self]) rfl rfl ?_; clear hC a; intro a hC
    exact L.nil ⟨⟨_, [], hC⟩, Frm.refl _ _⟩
  apply DRN.cons (.det _ _) rfl
  · intro a w hC
    refine L.or hC rfl rfl rfl rfl (fun _ => All.nil) (fun _ hp => by simp only [All, List.cons_append, List.nil_append, List.append_nil, List.mem_cons, List.not_mem_nil, or_false, forall_eq_or_imp, forall_eq, Bool.and_eq_true, hp, Bool.not_false, Bool.not_true, and_self]) rfl rfl ?_; clear hC a; intro a hC
    exact L.nil ⟨⟨_, [], hC⟩, Frm.refl _ _⟩
  apply DRN.cons (.det _ _) rfl
  · intro a w hC
    refine L.pu hC rfl rfl (fun _ => All.nil) rfl rfl ?_; clear hC a; intro a hC
    exact L.nil ⟨⟨_, [], hC⟩, Frm.refl _ _⟩
  refine DRN.nil (fun w' hF => ?_)
  intro a w hC hw
  subst hw
  refine hk2 _ _ ?_; clear hk2; try clear k2
  refine W.ret ?_
  refine rets hC rfl (.tmp rfl .nil) ?_
  exact ⟨rfl, hC.frm.unblk (fun c h => .inl h) hm (hC.at m0)⟩

theorem fails_ok (mb : Nat) (k : Brk) (s : BSet) (t : Int) (w0 : World) (hm : (blkR mb (mC k s t) 115).ok w0) : Calls Try.prog 147 #[.pointer (some ⟨mb, 0, none⟩)] w0 fun e w' => ∃ x : Unit, e = .returned (.tuple #[]) ∧ True ∧ Post (fun c => c = mb) [blkR mb (mC (failsB k s t) s t) 115] w0 w' := by
  refine enter (μ := [blkR mb (mC k s t) 115]) (S := (fun c => c = mb)) (vs := [.pointer (some ⟨mb, 0, none⟩)]) Try.func147 rfl Try.ntmps147 rfl ⟨by simpa using hm, by simp⟩ (by simp [blkR]) (fun a hC => ?_)
  refine W.seqk fun k1 hk1 => ?_
  refine W.region ?_
  refine L.pu hC rfl rfl (fun _ => All.nil) rfl rfl ?_; clear hC a; intro a hC
  refine L.pu hC rfl rfl (fun _ => All.nil) rfl rfl ?_; clear hC a; intro a hC
  refine L.fa hC rfl rfl rfl (fun _ => All.nil) Try.underlying115 rfl Try.sizeOf36 rfl rfl rfl ?_; clear hC a; intro a hC
  refine L.fa hC rfl rfl rfl (fun _ => All.nil) Try.underlying36 rfl Try.sizeOf3 rfl rfl rfl ?_; clear hC a; intro a hC
  refine L.ld hC rfl rfl rfl (fun _ => All.nil) m0 Try.isAgg3 rfl rfl rfl ?_; clear hC a; intro a hC
  refine L.pu hC rfl rfl (fun _ => All.nil) rfl rfl ?_; clear hC a; intro a hC
  refine L.pu hC rfl rfl (fun _ => All.nil) rfl rfl ?_; clear hC a; intro a hC
  refine L.fa hC rfl rfl rfl (fun _ => All.nil) Try.underlying115 rfl Try.sizeOf36 rfl rfl rfl ?_; clear hC a; intro a hC
  refine L.fa hC rfl rfl rfl (fun _ => All.nil) Try.underlying36 rfl Try.sizeOf3 rfl rfl rfl ?_; clear hC a; intro a hC
  refine L.st hC rfl rfl rfl rfl Try.sizeOf3 rfl rfl rfl rfl rfl ?_; clear hC a; intro a w hF hC
  refine L.nil ?_
  refine hk1 _ _ ?_; clear hk1; try clear k1
  refine W.seqk fun k2 hk2 => ?_
  refine W.drawD hC Try.mixed rfl rfl ?_
  apply DRN.cons (.det _ _) rfl
  · intro a w hC
    refine L.pu hC rfl rfl (fun _ => All.nil) rfl rfl ?_; clear hC a; intro a hC
    exact L.nil ⟨⟨_, [], hC⟩, Frm.refl _ _⟩
  apply DRN.cons (.det _ _) rfl
  · intro a w hC
    refine L.pu hC rfl rfl (fun _ => All.nil) rfl rfl ?_; clear hC a; intro a hC
    exact L.nil ⟨⟨_, [], hC⟩, Frm.refl _ _⟩
  apply DRN.cons (.det _ _) rfl
  · intro a w hC
    refine L.fa hC rfl rfl rfl (fun _ => All.nil) Try.underlying115 rfl Try.sizeOf36 rfl rfl rfl ?_; clear hC a; intro a hC
    exact L.nil ⟨⟨_, [], hC⟩, Frm.refl _ _⟩
  apply DRN.cons (.det _ _) rfl
  · intro a w hC
    refine L.fa hC rfl rfl rfl (fun _ => All.nil) Try.underlying36 rfl Try.sizeOf3 rfl rfl rfl ?_; clear hC a; intro a hC
    exact L.nil ⟨⟨_, [], hC⟩, Frm.refl _ _⟩
  apply DRN.cons (.det _ _) rfl
  · intro a w hC
    refine L.ld hC rfl rfl rfl (fun _ => All.nil) m0 Try.isAgg3 rfl rfl rfl ?_; clear hC a; intro a hC
    exact L.nil ⟨⟨_, [], hC⟩, Frm.refl _ _⟩
  apply DRN.cons (.det _ _) rfl
  · intro a w hC
    refine L.pu hC rfl rfl (fun _ => All.nil) rfl rfl ?_; clear hC a; intro a hC
    exact L.nil ⟨⟨_, [], hC⟩, Frm.refl _ _⟩
  apply DRN.cons (.det _ _) rfl
  · intro a w hC
    refine L.pu hC rfl rfl (fun _ => All.nil) rfl rfl ?_; clear hC a; intro a hC
    exact L.nil ⟨⟨_, [], hC⟩, Frm.refl _ _⟩
  apply DRN.cons (.det _ _) rfl
  · intro a w hC
    refine L.fa hC rfl rfl rfl (fun _ => All.nil) Try.underlying115 rfl Try.sizeOf33 rfl rfl rfl ?_; clear hC a; intro a hC
    exact L.nil ⟨⟨_, [], hC⟩, Frm.refl _ _⟩
  apply DRN.cons (.det _ _) rfl
  · intro a w hC
    refine L.fa hC rfl rfl rfl (fun _ => All.nil) Try.underlying33 rfl Try.sizeOf3 rfl rfl rfl ?_; clear hC a; intro a hC
    exact L.nil ⟨⟨_, [], hC⟩, Frm.refl _ _⟩
  apply DRN.cons (.det _ _) rfl
  · intro a w hC
    refine L.ld hC rfl rfl rfl (fun _ => All.nil) m0 Try.isAgg3 rfl rfl rfl ?_; clear hC a; intro a hC
    exact L.nil ⟨⟨_, [], hC⟩, Frm.refl _ _⟩
  apply DRN.cons (.det _ _) rfl
  · intro a w hC
    refine L.pu hC rfl rfl (fun _ => All.nil) rfl rfl ?_; clear hC a; intro a hC
    exact L.nil ⟨⟨_, [], hC⟩, Frm.refl _ _⟩
  refine DRN.nil (fun w' hF => ?_)
  intro a w hC hw
  subst hw
  refine hk2 _ _ ?_; clear hk2; try clear k2
  refine W.cond hC rfl (fun h1 => ?_) (fun h1 => ?_)
  ·
    refine W.seqk fun k3 hk3 => ?_
    refine W.region ?_
    refine L.pu hC rfl rfl (fun _ => All.nil) rfl rfl ?_; clear hC a; intro a hC
    refine L.pu hC rfl rfl (fun _ => All.nil) rfl rfl ?_; clear hC a; intro a hC
    refine L.fa hC rfl rfl rfl (fun _ => All.nil) Try.underlying115 rfl Try.sizeOf36 rfl rfl rfl ?_; clear hC a; intro a hC
    refine L.fa hC rfl rfl rfl (fun _ => All.nil) Try.underlying36 rfl Try.sizeOf3 rfl rfl rfl ?_; clear hC a; intro a hC
    refine L.ld hC rfl rfl rfl (fun _ => All.nil) m0 Try.isAgg3 rfl rfl rfl ?_; clear hC a; intro a hC
    refine L.pu hC rfl rfl (fun _ => All.nil) rfl rfl ?_; clear hC a; intro a hC
    refine L.nil ?_
    refine hk3 _ _ ?_; clear hk3; try clear k3
    refine W.seqk fun k4 hk4 => ?_
    refine W.region ?_
    refine L.pu hC rfl rfl (fun _ => All.nil) rfl rfl ?_; clear hC a; intro a hC
    refine L.callg [_] hC rfl rfl Try.call149 rfl (trip_ok mb { k with fails := IntKind.i64.wrap (k.fails + 1) } s t _ (hC.at m0)) (fun b h => ⟨_, m0, h⟩) rfl rfl ?_; clear hC a; intro _ a w hQ hC
    refine L.nil ?_
    refine hk4 _ _ ?_; clear hk4; try clear k4
    refine W.region ?_
    refine L.pu hC rfl rfl (fun _ => All.nil) rfl rfl ?_; clear hC a; intro a hC
    refine L.pu hC rfl rfl (fun _ => All.nil) rfl rfl ?_; clear hC a; intro a hC
    refine L.pu hC rfl rfl (fun _ => All.nil) rfl rfl ?_; clear hC a; intro a hC
    refine L.fa hC rfl rfl rfl (fun _ => All.nil) Try.underlying115 rfl Try.sizeOf36 rfl rfl rfl ?_; clear hC a; intro a hC
    refine L.fa hC rfl rfl rfl (fun _ => All.nil) Try.underlying36 rfl Try.sizeOf3 rfl rfl rfl ?_; clear hC a; intro a hC
    refine L.st hC rfl rfl rfl rfl Try.sizeOf3 rfl rfl rfl rfl rfl ?_; clear hC a; intro a w hF hC
    refine L.nil ?_
    replace hC := hC.one (r := _) m0
    refine ret0 hC rfl ?_
    exact ⟨(), rfl, trivial, by unfold failsB; rw [if_pos h1]; exact hC.toPost (by simp [blkR])⟩
  ·
    refine W.skip ?_
    replace hC := hC.one (r := _) m0
    refine ret0 hC rfl ?_
    exact ⟨(), rfl, trivial, by unfold failsB; rw [if_neg (nt h1)]; exact hC.toPost (by simp [blkR])⟩

theorem wins_ok (mb : Nat) (k : Brk) (s : BSet) (t : Int) (w0 : World) (hm : (blkR mb (mC k s t) 115).ok w0) : Calls Try.prog 148 #[.pointer (some ⟨mb, 0, none⟩)] w0 fun e w' => ∃ x : Unit, e = .returned (.tuple #[]) ∧ True ∧ Post (fun c => c = mb) [blkR mb (mC (winsB k s) s t) 115] w0 w' := by
  refine enter (μ := [blkR mb (mC k s t) 115]) (S := (fun c => c = mb)) (vs := [.pointer (some ⟨mb, 0, none⟩)]) Try.func148 rfl Try.ntmps148 rfl ⟨by simpa using hm, by simp⟩ (by simp [blkR]) (fun a hC => ?_)
  refine W.seqk fun k1 hk1 => ?_
  refine W.region ?_
  refine L.pu hC rfl rfl (fun _ => All.nil) rfl rfl ?_; clear hC a; intro a hC
  refine L.pu hC rfl rfl (fun _ => All.nil) rfl rfl ?_; clear hC a; intro a hC
  refine L.fa hC rfl rfl rfl (fun _ => All.nil) Try.underlying115 rfl Try.sizeOf36 rfl rfl rfl ?_; clear hC a; intro a hC
  refine L.fa hC rfl rfl rfl (fun _ => All.nil) Try.underlying36 rfl Try.sizeOf3 rfl rfl rfl ?_; clear hC a; intro a hC
  refine L.ld hC rfl rfl rfl (fun _ => All.nil) m0 Try.isAgg3 rfl rfl rfl ?_; clear hC a; intro a hC
  refine L.pu hC rfl rfl (fun _ => All.nil) rfl rfl ?_; clear hC a; intro a hC
  refine L.pu hC rfl rfl (fun _ => All.nil) rfl rfl ?_; clear hC a; intro a hC
  refine L.fa hC rfl rfl rfl (fun _ => All.nil) Try.underlying115 rfl Try.sizeOf36 rfl rfl rfl ?_; clear hC a; intro a hC
  refine L.fa hC rfl rfl rfl (fun _ => All.nil) Try.underlying36 rfl Try.sizeOf3 rfl rfl rfl ?_; clear hC a; intro a hC
  refine L.st hC rfl rfl rfl rfl Try.sizeOf3 rfl rfl rfl rfl rfl ?_; clear hC a; intro a w hF hC
  refine L.nil ?_
  refine hk1 _ _ ?_; clear hk1; try clear k1
  refine W.seqk fun k2 hk2 => ?_
  refine W.drawD hC Try.mixed rfl rfl ?_
  apply DRN.cons (.det _ _) rfl
  · intro a w hC
    refine L.pu hC rfl rfl (fun _ => All.nil) rfl rfl ?_; clear hC a; intro a hC
    exact L.nil ⟨⟨_, [], hC⟩, Frm.refl _ _⟩
  apply DRN.cons (.det _ _) rfl
  · intro a w hC
    refine L.pu hC rfl rfl (fun _ => All.nil) rfl rfl ?_; clear hC a; intro a hC
    exact L.nil ⟨⟨_, [], hC⟩, Frm.refl _ _⟩
  apply DRN.cons (.det _ _) rfl
  · intro a w hC
    refine L.fa hC rfl rfl rfl (fun _ => All.nil) Try.underlying115 rfl Try.sizeOf36 rfl rfl rfl ?_; clear hC a; intro a hC
    exact L.nil ⟨⟨_, [], hC⟩, Frm.refl _ _⟩
  apply DRN.cons (.det _ _) rfl
  · intro a w hC
    refine L.fa hC rfl rfl rfl (fun _ => All.nil) Try.underlying36 rfl Try.sizeOf3 rfl rfl rfl ?_; clear hC a; intro a hC
    exact L.nil ⟨⟨_, [], hC⟩, Frm.refl _ _⟩
  apply DRN.cons (.det _ _) rfl
  · intro a w hC
    refine L.ld hC rfl rfl rfl (fun _ => All.nil) m0 Try.isAgg3 rfl rfl rfl ?_; clear hC a; intro a hC
    exact L.nil ⟨⟨_, [], hC⟩, Frm.refl _ _⟩
  apply DRN.cons (.det _ _) rfl
  · intro a w hC
    refine L.pu hC rfl rfl (fun _ => All.nil) rfl rfl ?_; clear hC a; intro a hC
    exact L.nil ⟨⟨_, [], hC⟩, Frm.refl _ _⟩
  apply DRN.cons (.det _ _) rfl
  · intro a w hC
    refine L.pu hC rfl rfl (fun _ => All.nil) rfl rfl ?_; clear hC a; intro a hC
    exact L.nil ⟨⟨_, [], hC⟩, Frm.refl _ _⟩
  apply DRN.cons (.det _ _) rfl
  · intro a w hC
    refine L.fa hC rfl rfl rfl (fun _ => All.nil) Try.underlying115 rfl Try.sizeOf33 rfl rfl rfl ?_; clear hC a; intro a hC
    exact L.nil ⟨⟨_, [], hC⟩, Frm.refl _ _⟩
  apply DRN.cons (.det _ _) rfl
  · intro a w hC
    refine L.fa hC rfl rfl rfl (fun _ => All.nil) Try.underlying33 rfl Try.sizeOf3 rfl rfl rfl ?_; clear hC a; intro a hC
    exact L.nil ⟨⟨_, [], hC⟩, Frm.refl _ _⟩
  apply DRN.cons (.det _ _) rfl
  · intro a w hC
    refine L.ld hC rfl rfl rfl (fun _ => All.nil) m0 Try.isAgg3 rfl rfl rfl ?_; clear hC a; intro a hC
    exact L.nil ⟨⟨_, [], hC⟩, Frm.refl _ _⟩
  apply DRN.cons (.det _ _) rfl
  · intro a w hC
    refine L.pu hC rfl rfl (fun _ => All.nil) rfl rfl ?_; clear hC a; intro a hC
    exact L.nil ⟨⟨_, [], hC⟩, Frm.refl _ _⟩
  refine DRN.nil (fun w' hF => ?_)
  intro a w hC hw
  subst hw
  refine hk2 _ _ ?_; clear hk2; try clear k2
  refine W.cond hC rfl (fun h1 => ?_) (fun h1 => ?_)
  ·
    refine W.region ?_
    refine L.pu hC rfl rfl (fun _ => All.nil) rfl rfl ?_; clear hC a; intro a hC
    refine L.pu hC rfl rfl (fun _ => All.nil) rfl rfl ?_; clear hC a; intro a hC
    refine L.pu hC rfl rfl (fun _ => All.nil) rfl rfl ?_; clear hC a; intro a hC
    refine L.pu hC rfl rfl (fun _ => All.nil) rfl rfl ?_; clear hC a; intro a hC
    refine L.fa hC rfl rfl rfl (fun _ => All.nil) Try.underlying115 rfl Try.sizeOf36 rfl rfl rfl ?_; clear hC a; intro a hC
    refine L.fa hC rfl rfl rfl (fun _ => All.nil) Try.underlying36 rfl Try.sizeOf3 rfl rfl rfl ?_; clear hC a; intro a hC
    refine L.st hC rfl rfl rfl rfl Try.sizeOf3 rfl rfl rfl rfl rfl ?_; clear hC a; intro a w hF hC
    refine L.pu hC rfl rfl (fun _ => All.nil) rfl rfl ?_; clear hC a; intro a hC
    refine L.fa hC rfl rfl rfl (fun _ => All.nil) Try.underlying115 rfl Try.sizeOf36 rfl rfl rfl ?_; clear hC a; intro a hC
    refine L.fa hC rfl rfl rfl (fun _ => All.nil) Try.underlying36 rfl Try.sizeOf3 rfl rfl rfl ?_; clear hC a; intro a hC
    refine L.st hC rfl rfl rfl rfl Try.sizeOf3 rfl rfl rfl rfl rfl ?_; clear hC a; intro a w hF hC
    refine L.pu hC rfl rfl (fun _ => All.nil) rfl rfl ?_; clear hC a; intro a hC
    refine L.fa hC rfl rfl rfl (fun _ => All.nil) Try.underlying115 rfl Try.sizeOf36 rfl rfl rfl ?_; clear hC a; intro a hC
    refine L.fa hC rfl rfl rfl (fun _ => All.nil) Try.underlying36 rfl Try.sizeOf3 rfl rfl rfl ?_; clear hC a; intro a hC
    refine L.st hC rfl rfl rfl rfl Try.sizeOf3 rfl rfl rfl rfl rfl ?_; clear hC a; intro a w hF hC
    refine L.nil ?_
    replace hC := hC.one (r := _) m0
    refine ret0 hC rfl ?_
    exact ⟨(), rfl, trivial, by unfold winsB; rw [if_pos h1]; exact hC.toPost (by simp [blkR])⟩
  ·
    refine W.skip ?_
    replace hC := hC.one (r := _) m0
    refine ret0 hC rfl ?_
    exact ⟨(), rfl, trivial, by unfold winsB; rw [if_neg (nt h1)]; exact hC.toPost (by simp [blkR])⟩

theorem ends_ok (mb : Nat) (k : Brk) (s : BSet) (t : Int) (probe good : Bool) (w0 : World) (hm : (blkR mb (mC k s t) 115).ok w0) : Calls Try.prog 108 #[.pointer (some ⟨mb, 0, none⟩), .bool probe, .bool good] w0 fun e w' => ∃ x : Unit, e = .returned (.tuple #[]) ∧ True ∧ Post (fun c => c = mb) [blkR mb (mC (endsB k s t probe good) s t) 115] w0 w' := by
  refine enter (μ := [blkR mb (mC k s t) 115]) (S := (fun c => c = mb)) (vs := [.pointer (some ⟨mb, 0, none⟩), .bool probe, .bool good]) Try.func108 rfl Try.ntmps108 rfl ⟨by simpa using hm, by simp⟩ (by simp [blkR]) (fun a hC => ?_)
  refine W.seqk fun k1 hk1 => ?_
  refine W.seqk fun k2 hk2 => ?_
  refine W.region ?_
  refine L.pu hC rfl rfl (fun _ => All.nil) rfl rfl ?_; clear hC a; intro a hC
  refine L.nil ?_
  refine hk2 _ _ ?_; clear hk2; try clear k2
  refine W.cond hC rfl (fun h1 => ?_) (fun h1 => ?_)
  ·
    refine W.region ?_
    refine L.pu hC rfl rfl (fun _ => All.nil) rfl rfl ?_; clear hC a; intro a hC
    refine L.pu hC rfl rfl (fun _ => All.nil) rfl rfl ?_; clear hC a; intro a hC
    refine L.pu hC rfl rfl (fun _ => All.nil) rfl rfl ?_; clear hC a; intro a hC
    refine L.fa hC rfl rfl rfl (fun _ => All.nil) Try.underlying115 rfl Try.sizeOf36 rfl rfl rfl ?_; clear hC a; intro a hC
    refine L.fa hC rfl rfl rfl (fun _ => All.nil) Try.underlying36 rfl Try.sizeOf3 rfl rfl rfl ?_; clear hC a; intro a hC
    refine L.ld hC rfl rfl rfl (fun _ => All.nil) m0 Try.isAgg3 rfl rfl rfl ?_; clear hC a; intro a hC
    refine L.pu hC rfl rfl (fun _ => All.nil) rfl rfl ?_; clear hC a; intro a hC
    refine L.max2 hC rfl rfl rfl rfl (fun _ => All.nil) (fun _ => All.nil) rfl rfl ?_; clear hC a; intro a hC
    refine L.pu hC rfl rfl (fun _ => All.nil) rfl rfl ?_; clear hC a; intro a hC
    refine L.fa hC rfl rfl rfl (fun _ => All.nil) Try.underlying115 rfl Try.sizeOf36 rfl rfl rfl ?_; clear hC a; intro a hC
    refine L.fa hC rfl rfl rfl (fun _ => All.nil) Try.underlying36 rfl Try.sizeOf3 rfl rfl rfl ?_; clear hC a; intro a hC
    refine L.st hC rfl rfl rfl rfl Try.sizeOf3 rfl rfl rfl rfl rfl ?_; clear hC a; intro a w hF hC
    refine L.nil ?_
    refine hk1 _ _ ?_; clear hk1; try clear k1
    refine W.block ?_
    refine W.seqk fun k3 hk3 => ?_
    refine W.region ?_
    refine L.pu hC rfl rfl (fun _ => All.nil) rfl rfl ?_; clear hC a; intro a hC
    refine L.pu hC rfl rfl (fun _ => All.nil) rfl rfl ?_; clear hC a; intro a hC
    refine L.fa hC rfl rfl rfl (fun _ => All.nil) Try.underlying115 rfl Try.sizeOf36 rfl rfl rfl ?_; clear hC a; intro a hC
    refine L.fa hC rfl rfl rfl (fun _ => All.nil) Try.underlying36 rfl Try.sizeOf3 rfl rfl rfl ?_; clear hC a; intro a hC
    refine L.ld hC rfl rfl rfl (fun _ => All.nil) m0 Try.isAgg3 rfl rfl rfl ?_; clear hC a; intro a hC
    refine L.pu hC rfl rfl (fun _ => All.nil) rfl rfl ?_; clear hC a; intro a hC
    refine L.pu hC rfl rfl (fun _ => All.nil) rfl rfl ?_; clear hC a; intro a hC
    refine L.pu hC rfl rfl (fun _ => All.nil) rfl rfl ?_; clear hC a; intro a hC
    refine L.and hC rfl rfl rfl rfl (fun _ => All.nil) (fun _ hp => by simp only [All, List.cons_append, List.nil_append, List.append_nil, List.mem_cons, List.not_mem_nil, or_false, forall_eq_or_imp, forall_eq, Bool.and_eq_true, hp, Bool.not_false, Bool.not_true, and_self]) rfl rfl ?_; clear hC a; intro a hC
    refine L.pu hC rfl rfl (fun _ => All.nil) rfl rfl ?_; clear hC a; intro a hC
    refine L.nil ?_
    refine hk3 _ _ ?_; clear hk3; try clear k3
    refine W.cond hC rfl (fun h2 => ?_) (fun h2 => ?_)
    ·
      refine W.region ?_
      refine L.pu hC rfl rfl (fun _ => All.nil) rfl rfl ?_; clear hC a; intro a hC
      refine L.pu hC rfl rfl (fun _ => All.nil) rfl rfl ?_; clear hC a; intro a hC
      refine L.fa hC rfl rfl rfl (fun _ => All.nil) Try.underlying115 rfl Try.sizeOf36 rfl rfl rfl ?_; clear hC a; intro a hC
      refine L.fa hC rfl rfl rfl (fun _ => All.nil) Try.underlying36 rfl Try.sizeOf3 rfl rfl rfl ?_; clear hC a; intro a hC
      refine L.st hC rfl rfl rfl rfl Try.sizeOf3 rfl rfl rfl rfl rfl ?_; clear hC a; intro a w hF hC
      refine L.nil ?_
      replace hC := hC.one (r := _) m0
      refine ret0 hC rfl ?_
      exact ⟨(), rfl, trivial, by unfold endsB; rw [if_pos h1]; unfold endsA; rw [if_pos h2]; exact hC.toPost (by simp [blkR])⟩
    ·
      refine W.seqk fun k4 hk4 => ?_
      refine W.region ?_
      refine L.pu hC rfl rfl (fun _ => All.nil) rfl rfl ?_; clear hC a; intro a hC
      refine L.pu hC rfl rfl (fun _ => All.nil) rfl rfl ?_; clear hC a; intro a hC
      refine L.fa hC rfl rfl rfl (fun _ => All.nil) Try.underlying115 rfl Try.sizeOf36 rfl rfl rfl ?_; clear hC a; intro a hC
      refine L.fa hC rfl rfl rfl (fun _ => All.nil) Try.underlying36 rfl Try.sizeOf3 rfl rfl rfl ?_; clear hC a; intro a hC
      refine L.ld hC rfl rfl rfl (fun _ => All.nil) m0 Try.isAgg3 rfl rfl rfl ?_; clear hC a; intro a hC
      refine L.pu hC rfl rfl (fun _ => All.nil) rfl rfl ?_; clear hC a; intro a hC
      refine L.pu hC rfl rfl (fun _ => All.nil) rfl rfl ?_; clear hC a; intro a hC
      refine L.nil ?_
      refine hk4 _ _ ?_; clear hk4; try clear k4
      refine W.cond hC rfl (fun h3 => ?_) (fun h3 => ?_)
      ·
        refine W.region ?_
        refine L.pu hC rfl rfl (fun _ => All.nil) rfl rfl ?_; clear hC a; intro a hC
        refine L.callg [_] hC rfl rfl Try.call147 rfl (fails_ok mb { k with probes := imax (IntKind.i64.wrap (k.probes - 1)) 0 } s t _ (hC.at m0)) (fun b h => ⟨_, m0, h⟩) rfl rfl ?_; clear hC a; intro _ a w hQ hC
        refine L.nil ?_
        replace hC := hC.one (r := _) m0
        refine ret0 hC rfl ?_
        exact ⟨(), rfl, trivial, by unfold endsB; rw [if_pos h1]; unfold endsA; rw [if_neg (nt h2), if_pos h3]; exact hC.toPost (by simp [blkR])⟩
      ·
        refine W.seqk fun k5 hk5 => ?_
        refine W.region ?_
        refine L.pu hC rfl rfl (fun _ => All.nil) rfl rfl ?_; clear hC a; intro a hC
        refine L.pu hC rfl rfl (fun _ => All.nil) rfl rfl ?_; clear hC a; intro a hC
        refine L.fa hC rfl rfl rfl (fun _ => All.nil) Try.underlying115 rfl Try.sizeOf36 rfl rfl rfl ?_; clear hC a; intro a hC
        refine L.fa hC rfl rfl rfl (fun _ => All.nil) Try.underlying36 rfl Try.sizeOf3 rfl rfl rfl ?_; clear hC a; intro a hC
        refine L.ld hC rfl rfl rfl (fun _ => All.nil) m0 Try.isAgg3 rfl rfl rfl ?_; clear hC a; intro a hC
        refine L.pu hC rfl rfl (fun _ => All.nil) rfl rfl ?_; clear hC a; intro a hC
        refine L.pu hC rfl rfl (fun _ => All.nil) rfl rfl ?_; clear hC a; intro a hC
        refine L.pu hC rfl rfl (fun _ => All.nil) rfl rfl ?_; clear hC a; intro a hC
        refine L.and hC rfl rfl rfl rfl (fun _ => All.nil) (fun _ hp => by simp only [All, List.cons_append, List.nil_append, List.append_nil, List.mem_cons, List.not_mem_nil, or_false, forall_eq_or_imp, forall_eq, Bool.and_eq_true, hp, Bool.not_false, Bool.not_true, and_self]) rfl rfl ?_; clear hC a; intro a hC
        refine L.pu hC rfl rfl (fun _ => All.nil) rfl rfl ?_; clear hC a; intro a hC
        refine L.pu hC rfl rfl (fun _ => All.nil) rfl rfl ?_; clear hC a; intro a hC
        refine L.and hC rfl rfl rfl rfl (fun _ => All.nil) (fun _ hp => by simp only [All, List.cons_append, List.nil_append, List.append_nil, List.mem_cons, List.not_mem_nil, or_false, forall_eq_or_imp, forall_eq, Bool.and_eq_true, hp, Bool.not_false, Bool.not_true, and_self]) rfl rfl ?_; clear hC a; intro a hC
        refine L.pu hC rfl rfl (fun _ => All.nil) rfl rfl ?_; clear hC a; intro a hC
        refine L.nil ?_
        refine hk5 _ _ ?_; clear hk5; try clear k5
        refine W.cond hC rfl (fun h4 => ?_) (fun h4 => ?_)
        ·
          refine W.region ?_
          refine L.pu hC rfl rfl (fun _ => All.nil) rfl rfl ?_; clear hC a; intro a hC
          refine L.callg [_] hC rfl rfl Try.call148 rfl (wins_ok mb { k with probes := imax (IntKind.i64.wrap (k.probes - 1)) 0 } s t _ (hC.at m0)) (fun b h => ⟨_, m0, h⟩) rfl rfl ?_; clear hC a; intro _ a w hQ hC
          refine L.nil ?_
          replace hC := hC.one (r := _) m0
          refine ret0 hC rfl ?_
          exact ⟨(), rfl, trivial, by unfold endsB; rw [if_pos h1]; unfold endsA; rw [if_neg (nt h2), if_neg (nt h3), if_pos h4]; exact hC.toPost (by simp [blkR])⟩
        ·
          refine W.seqk fun k6 hk6 => ?_
          refine W.region ?_
          refine L.pu hC rfl rfl (fun _ => All.nil) rfl rfl ?_; clear hC a; intro a hC
          refine L.pu hC rfl rfl (fun _ => All.nil) rfl rfl ?_; clear hC a; intro a hC
          refine L.fa hC rfl rfl rfl (fun _ => All.nil) Try.underlying115 rfl Try.sizeOf36 rfl rfl rfl ?_; clear hC a; intro a hC
          refine L.fa hC rfl rfl rfl (fun _ => All.nil) Try.underlying36 rfl Try.sizeOf3 rfl rfl rfl ?_; clear hC a; intro a hC
          refine L.ld hC rfl rfl rfl (fun _ => All.nil) m0 Try.isAgg3 rfl rfl rfl ?_; clear hC a; intro a hC
          refine L.pu hC rfl rfl (fun _ => All.nil) rfl rfl ?_; clear hC a; intro a hC
          refine L.pu hC rfl rfl (fun _ => All.nil) rfl rfl ?_; clear hC a; intro a hC
          refine L.pu hC rfl rfl (fun _ => All.nil) rfl rfl ?_; clear hC a; intro a hC
          refine L.and hC rfl rfl rfl rfl (fun _ => All.nil) (fun _ hp => by simp only [All, List.cons_append, List.nil_append, List.append_nil, List.mem_cons, List.not_mem_nil, or_false, forall_eq_or_imp, forall_eq, Bool.and_eq_true, hp, Bool.not_false, Bool.not_true, and_self]) rfl rfl ?_; clear hC a; intro a hC
          refine L.pu hC rfl rfl (fun _ => All.nil) rfl rfl ?_; clear hC a; intro a hC
          refine L.nil ?_
          refine hk6 _ _ ?_; clear hk6; try clear k6
          refine W.cond hC rfl (fun h5 => ?_) (fun h5 => ?_)
          ·
            refine W.seqk fun k7 hk7 => ?_
            refine W.region ?_
            refine L.pu hC rfl rfl (fun _ => All.nil) rfl rfl ?_; clear hC a; intro a hC
            refine L.pu hC rfl rfl (fun _ => All.nil) rfl rfl ?_; clear hC a; intro a hC
            refine L.fa hC rfl rfl rfl (fun _ => All.nil) Try.underlying115 rfl Try.sizeOf36 rfl rfl rfl ?_; clear hC a; intro a hC
            refine L.fa hC rfl rfl rfl (fun _ => All.nil) Try.underlying36 rfl Try.sizeOf3 rfl rfl rfl ?_; clear hC a; intro a hC
            refine L.ld hC rfl rfl rfl (fun _ => All.nil) m0 Try.isAgg3 rfl rfl rfl ?_; clear hC a; intro a hC
            refine L.pu hC rfl rfl (fun _ => All.nil) rfl rfl ?_; clear hC a; intro a hC
            refine L.nil ?_
            refine hk7 _ _ ?_; clear hk7; try clear k7
            refine W.seqk fun k8 hk8 => ?_
            refine W.region ?_
            refine L.pu hC rfl rfl (fun _ => All.nil) rfl rfl ?_; clear hC a; intro a hC
            refine L.callg [_] hC rfl rfl Try.call149 rfl (trip_ok mb { k with probes := imax (IntKind.i64.wrap (k.probes - 1)) 0 } s t _ (hC.at m0)) (fun b h => ⟨_, m0, h⟩) rfl rfl ?_; clear hC a; intro _ a w hQ hC
            refine L.nil ?_
            refine hk8 _ _ ?_; clear hk8; try clear k8
            refine W.region ?_
            refine L.pu hC rfl rfl (fun _ => All.nil) rfl rfl ?_; clear hC a; intro a hC
            refine L.pu hC rfl rfl (fun _ => All.nil) rfl rfl ?_; clear hC a; intro a hC
            refine L.pu hC rfl rfl (fun _ => All.nil) rfl rfl ?_; clear hC a; intro a hC
            refine L.fa hC rfl rfl rfl (fun _ => All.nil) Try.underlying115 rfl Try.sizeOf36 rfl rfl rfl ?_; clear hC a; intro a hC
            refine L.fa hC rfl rfl rfl (fun _ => All.nil) Try.underlying36 rfl Try.sizeOf3 rfl rfl rfl ?_; clear hC a; intro a hC
            refine L.st hC rfl rfl rfl rfl Try.sizeOf3 rfl rfl rfl rfl rfl ?_; clear hC a; intro a w hF hC
            refine L.nil ?_
            replace hC := hC.one (r := _) m0
            refine ret0 hC rfl ?_
            exact ⟨(), rfl, trivial, by unfold endsB; rw [if_pos h1]; unfold endsA; rw [if_neg (nt h2), if_neg (nt h3), if_neg (nt h4), if_pos h5]; exact hC.toPost (by simp [blkR])⟩
          ·
            refine W.skip ?_
            replace hC := hC.one (r := _) m0
            refine ret0 hC rfl ?_
            exact ⟨(), rfl, trivial, by unfold endsB; rw [if_pos h1]; unfold endsA; rw [if_neg (nt h2), if_neg (nt h3), if_neg (nt h4), if_neg (nt h5)]; exact hC.toPost (by simp [blkR])⟩
  ·
    refine W.skip ?_
    refine hk1 _ _ ?_; clear hk1; try clear k1
    refine W.block ?_
    refine W.seqk fun k9 hk9 => ?_
    refine W.region ?_
    refine L.pu hC rfl rfl (fun _ => All.nil) rfl rfl ?_; clear hC a; intro a hC
    refine L.pu hC rfl rfl (fun _ => All.nil) rfl rfl ?_; clear hC a; intro a hC
    refine L.fa hC rfl rfl rfl (fun _ => All.nil) Try.underlying115 rfl Try.sizeOf36 rfl rfl rfl ?_; clear hC a; intro a hC
    refine L.fa hC rfl rfl rfl (fun _ => All.nil) Try.underlying36 rfl Try.sizeOf3 rfl rfl rfl ?_; clear hC a; intro a hC
    refine L.ld hC rfl rfl rfl (fun _ => All.nil) m0 Try.isAgg3 rfl rfl rfl ?_; clear hC a; intro a hC
    refine L.pu hC rfl rfl (fun _ => All.nil) rfl rfl ?_; clear hC a; intro a hC
    refine L.pu hC rfl rfl (fun _ => All.nil) rfl rfl ?_; clear hC a; intro a hC
    refine L.pu hC rfl rfl (fun _ => All.nil) rfl rfl ?_; clear hC a; intro a hC
    refine L.and hC rfl rfl rfl rfl (fun _ => All.nil) (fun _ hp => by simp only [All, List.cons_append, List.nil_append, List.append_nil, List.mem_cons, List.not_mem_nil, or_false, forall_eq_or_imp, forall_eq, Bool.and_eq_true, hp, Bool.not_false, Bool.not_true, and_self]) rfl rfl ?_; clear hC a; intro a hC
    refine L.pu hC rfl rfl (fun _ => All.nil) rfl rfl ?_; clear hC a; intro a hC
    refine L.nil ?_
    refine hk9 _ _ ?_; clear hk9; try clear k9
    refine W.cond hC rfl (fun h6 => ?_) (fun h6 => ?_)
    ·
      refine W.region ?_
      refine L.pu hC rfl rfl (fun _ => All.nil) rfl rfl ?_; clear hC a; intro a hC
      refine L.pu hC rfl rfl (fun _ => All.nil) rfl rfl ?_; clear hC a; intro a hC
      refine L.fa hC rfl rfl rfl (fun _ => All.nil) Try.underlying115 rfl Try.sizeOf36 rfl rfl rfl ?_; clear hC a; intro a hC
      refine L.fa hC rfl rfl rfl (fun _ => All.nil) Try.underlying36 rfl Try.sizeOf3 rfl rfl rfl ?_; clear hC a; intro a hC
      refine L.st hC rfl rfl rfl rfl Try.sizeOf3 rfl rfl rfl rfl rfl ?_; clear hC a; intro a w hF hC
      refine L.nil ?_
      replace hC := hC.one (r := _) m0
      refine ret0 hC rfl ?_
      exact ⟨(), rfl, trivial, by unfold endsB; rw [if_neg (nt h1)]; unfold endsA; rw [if_pos h6]; exact hC.toPost (by simp [blkR])⟩
    ·
      refine W.seqk fun k10 hk10 => ?_
      refine W.region ?_
      refine L.pu hC rfl rfl (fun _ => All.nil) rfl rfl ?_; clear hC a; intro a hC
      refine L.pu hC rfl rfl (fun _ => All.nil) rfl rfl ?_; clear hC a; intro a hC
      refine L.fa hC rfl rfl rfl (fun _ => All.nil) Try.underlying115 rfl Try.sizeOf36 rfl rfl rfl ?_; clear hC a; intro a hC
      refine L.fa hC rfl rfl rfl (fun _ => All.nil) Try.underlying36 rfl Try.sizeOf3 rfl rfl rfl ?_; clear hC a; intro a hC
      refine L.ld hC rfl rfl rfl (fun _ => All.nil) m0 Try.isAgg3 rfl rfl rfl ?_; clear hC a; intro a hC
      refine L.pu hC rfl rfl (fun _ => All.nil) rfl rfl ?_; clear hC a; intro a hC
      refine L.pu hC rfl rfl (fun _ => All.nil) rfl rfl ?_; clear hC a; intro a hC
      refine L.nil ?_
      refine hk10 _ _ ?_; clear hk10; try clear k10
      refine W.cond hC rfl (fun h7 => ?_) (fun h7 => ?_)
      ·
        refine W.region ?_
        refine L.pu hC rfl rfl (fun _ => All.nil) rfl rfl ?_; clear hC a; intro a hC
        refine L.callg [_] hC rfl rfl Try.call147 rfl (fails_ok mb k s t _ (hC.at m0)) (fun b h => ⟨_, m0, h⟩) rfl rfl ?_; clear hC a; intro _ a w hQ hC
        refine L.nil ?_
        replace hC := hC.one (r := _) m0
        refine ret0 hC rfl ?_
        exact ⟨(), rfl, trivial, by unfold endsB; rw [if_neg (nt h1)]; unfold endsA; rw [if_neg (nt h6), if_pos h7]; exact hC.toPost (by simp [blkR])⟩
      ·
        refine W.seqk fun k11 hk11 => ?_
        refine W.region ?_
        refine L.pu hC rfl rfl (fun _ => All.nil) rfl rfl ?_; clear hC a; intro a hC
        refine L.pu hC rfl rfl (fun _ => All.nil) rfl rfl ?_; clear hC a; intro a hC
        refine L.fa hC rfl rfl rfl (fun _ => All.nil) Try.underlying115 rfl Try.sizeOf36 rfl rfl rfl ?_; clear hC a; intro a hC
        refine L.fa hC rfl rfl rfl (fun _ => All.nil) Try.underlying36 rfl Try.sizeOf3 rfl rfl rfl ?_; clear hC a; intro a hC
        refine L.ld hC rfl rfl rfl (fun _ => All.nil) m0 Try.isAgg3 rfl rfl rfl ?_; clear hC a; intro a hC
        refine L.pu hC rfl rfl (fun _ => All.nil) rfl rfl ?_; clear hC a; intro a hC
        refine L.pu hC rfl rfl (fun _ => All.nil) rfl rfl ?_; clear hC a; intro a hC
        refine L.pu hC rfl rfl (fun _ => All.nil) rfl rfl ?_; clear hC a; intro a hC
        refine L.and hC rfl rfl rfl rfl (fun _ => All.nil) (fun _ hp => by simp only [All, List.cons_append, List.nil_append, List.append_nil, List.mem_cons, List.not_mem_nil, or_false, forall_eq_or_imp, forall_eq, Bool.and_eq_true, hp, Bool.not_false, Bool.not_true, and_self]) rfl rfl ?_; clear hC a; intro a hC
        refine L.pu hC rfl rfl (fun _ => All.nil) rfl rfl ?_; clear hC a; intro a hC
        refine L.pu hC rfl rfl (fun _ => All.nil) rfl rfl ?_; clear hC a; intro a hC
        refine L.and hC rfl rfl rfl rfl (fun _ => All.nil) (fun _ hp => by simp only [All, List.cons_append, List.nil_append, List.append_nil, List.mem_cons, List.not_mem_nil, or_false, forall_eq_or_imp, forall_eq, Bool.and_eq_true, hp, Bool.not_false, Bool.not_true, and_self]) rfl rfl ?_; clear hC a; intro a hC
        refine L.pu hC rfl rfl (fun _ => All.nil) rfl rfl ?_; clear hC a; intro a hC
        refine L.nil ?_
        refine hk11 _ _ ?_; clear hk11; try clear k11
        refine W.cond hC rfl (fun h8 => ?_) (fun h8 => ?_)
        ·
          refine W.region ?_
          refine L.pu hC rfl rfl (fun _ => All.nil) rfl rfl ?_; clear hC a; intro a hC
          refine L.callg [_] hC rfl rfl Try.call148 rfl (wins_ok mb k s t _ (hC.at m0)) (fun b h => ⟨_, m0, h⟩) rfl rfl ?_; clear hC a; intro _ a w hQ hC
          refine L.nil ?_
          replace hC := hC.one (r := _) m0
          refine ret0 hC rfl ?_
          exact ⟨(), rfl, trivial, by unfold endsB; rw [if_neg (nt h1)]; unfold endsA; rw [if_neg (nt h6), if_neg (nt h7), if_pos h8]; exact hC.toPost (by simp [blkR])⟩
        ·
          refine W.seqk fun k12 hk12 => ?_
          refine W.region ?_
          refine L.pu hC rfl rfl (fun _ => All.nil) rfl rfl ?_; clear hC a; intro a hC
          refine L.pu hC rfl rfl (fun _ => All.nil) rfl rfl ?_; clear hC a; intro a hC
          refine L.fa hC rfl rfl rfl (fun _ => All.nil) Try.underlying115 rfl Try.sizeOf36 rfl rfl rfl ?_; clear hC a; intro a hC
          refine L.fa hC rfl rfl rfl (fun _ => All.nil) Try.underlying36 rfl Try.sizeOf3 rfl rfl rfl ?_; clear hC a; intro a hC
          refine L.ld hC rfl rfl rfl (fun _ => All.nil) m0 Try.isAgg3 rfl rfl rfl ?_; clear hC a; intro a hC
          refine L.pu hC rfl rfl (fun _ => All.nil) rfl rfl ?_; clear hC a; intro a hC
          refine L.pu hC rfl rfl (fun _ => All.nil) rfl rfl ?_; clear hC a; intro a hC
          refine L.pu hC rfl rfl (fun _ => All.nil) rfl rfl ?_; clear hC a; intro a hC
          refine L.and hC rfl rfl rfl rfl (fun _ => All.nil) (fun _ hp => by simp only [All, List.cons_append, List.nil_append, List.append_nil, List.mem_cons, List.not_mem_nil, or_false, forall_eq_or_imp, forall_eq, Bool.and_eq_true, hp, Bool.not_false, Bool.not_true, and_self]) rfl rfl ?_; clear hC a; intro a hC
          refine L.pu hC rfl rfl (fun _ => All.nil) rfl rfl ?_; clear hC a; intro a hC
          refine L.nil ?_
          refine hk12 _ _ ?_; clear hk12; try clear k12
          refine W.cond hC rfl (fun h9 => ?_) (fun h9 => ?_)
          ·
            refine W.seqk fun k13 hk13 => ?_
            refine W.region ?_
            refine L.pu hC rfl rfl (fun _ => All.nil) rfl rfl ?_; clear hC a; intro a hC
            refine L.pu hC rfl rfl (fun _ => All.nil) rfl rfl ?_; clear hC a; intro a hC
            refine L.fa hC rfl rfl rfl (fun _ => All.nil) Try.underlying115 rfl Try.sizeOf36 rfl rfl rfl ?_; clear hC a; intro a hC
            refine L.fa hC rfl rfl rfl (fun _ => All.nil) Try.underlying36 rfl Try.sizeOf3 rfl rfl rfl ?_; clear hC a; intro a hC
            refine L.ld hC rfl rfl rfl (fun _ => All.nil) m0 Try.isAgg3 rfl rfl rfl ?_; clear hC a; intro a hC
            refine L.pu hC rfl rfl (fun _ => All.nil) rfl rfl ?_; clear hC a; intro a hC
            refine L.nil ?_
            refine hk13 _ _ ?_; clear hk13; try clear k13
            refine W.seqk fun k14 hk14 => ?_
            refine W.region ?_
            refine L.pu hC rfl rfl (fun _ => All.nil) rfl rfl ?_; clear hC a; intro a hC
            refine L.callg [_] hC rfl rfl Try.call149 rfl (trip_ok mb k s t _ (hC.at m0)) (fun b h => ⟨_, m0, h⟩) rfl rfl ?_; clear hC a; intro _ a w hQ hC
            refine L.nil ?_
            refine hk14 _ _ ?_; clear hk14; try clear k14
            refine W.region ?_
            refine L.pu hC rfl rfl (fun _ => All.nil) rfl rfl ?_; clear hC a; intro a hC
            refine L.pu hC rfl rfl (fun _ => All.nil) rfl rfl ?_; clear hC a; intro a hC
            refine L.pu hC rfl rfl (fun _ => All.nil) rfl rfl ?_; clear hC a; intro a hC
            refine L.fa hC rfl rfl rfl (fun _ => All.nil) Try.underlying115 rfl Try.sizeOf36 rfl rfl rfl ?_; clear hC a; intro a hC
            refine L.fa hC rfl rfl rfl (fun _ => All.nil) Try.underlying36 rfl Try.sizeOf3 rfl rfl rfl ?_; clear hC a; intro a hC
            refine L.st hC rfl rfl rfl rfl Try.sizeOf3 rfl rfl rfl rfl rfl ?_; clear hC a; intro a w hF hC
            refine L.nil ?_
            replace hC := hC.one (r := _) m0
            refine ret0 hC rfl ?_
            exact ⟨(), rfl, trivial, by unfold endsB; rw [if_neg (nt h1)]; unfold endsA; rw [if_neg (nt h6), if_neg (nt h7), if_neg (nt h8), if_pos h9]; exact hC.toPost (by simp [blkR])⟩
          ·
            refine W.skip ?_
            replace hC := hC.one (r := _) m0
            refine ret0 hC rfl ?_
            exact ⟨(), rfl, trivial, by unfold endsB; rw [if_neg (nt h1)]; unfold endsA; rw [if_neg (nt h6), if_neg (nt h7), if_neg (nt h8), if_neg (nt h9)]; exact hC.toPost (by simp [blkR])⟩

theorem act_ok (mb : Nat) (k : Brk) (s : BSet) (t : Int) (x : Act) (w0 : World) (hm : (blkR mb (mC k s t) 115).ok w0) : Calls Try.prog 60 #[.pointer (some ⟨mb, 0, none⟩), .agg (actE.enc x).toArray] w0 fun e w' => ∃ u : Unit, e = .returned (.int .i64 (actB k s x).2) ∧ True ∧ Post (fun c => c = mb) [blkR mb (mC (actB k s x).1 s x.tick) 115] w0 w' := by
  refine enter (μ := [blkR mb (mC k s t) 115]) (S := (fun c => c = mb)) (vs := [.pointer (some ⟨mb, 0, none⟩), .agg (actE.enc x).toArray]) Try.func60 rfl Try.ntmps60 rfl ⟨by simpa using hm, by simp⟩ (by simp [blkR]) (fun a hC => ?_)
  refine W.seqk fun k1 hk1 => ?_
  refine W.region ?_
  refine L.box hC rfl rfl rfl rfl rfl rfl ?_; clear hC a; intro b1 a w hF hC
  refine L.pu hC rfl rfl (fun _ => All.nil) rfl rfl ?_; clear hC a; intro a hC
  refine L.nil ?_
  refine hk1 _ _ ?_; clear hk1; try clear k1
  refine W.seqk fun k2 hk2 => ?_
  refine W.region ?_
  refine L.pu hC rfl rfl (fun _ => All.nil) rfl rfl ?_; clear hC a; intro a hC
  refine L.fa hC rfl rfl rfl (fun _ => All.nil) Try.underlying106 rfl Try.sizeOf3 rfl rfl rfl ?_; clear hC a; intro a hC
  refine L.ld hC rfl rfl rfl (fun _ => All.nil) m0 Try.isAgg3 rfl rfl rfl ?_; clear hC a; intro a hC
  refine L.pu hC rfl rfl (fun _ => All.nil) rfl rfl ?_; clear hC a; intro a hC
  refine L.fa hC rfl rfl rfl (fun _ => All.nil) Try.underlying115 rfl Try.sizeOf3 rfl rfl rfl ?_; clear hC a; intro a hC
  replace hC := hC.fr1
  refine L.st hC rfl rfl rfl rfl Try.sizeOf3 rfl rfl rfl rfl rfl ?_; clear hC a; intro a w hF hC
  refine L.nil ?_
  refine hk2 _ _ ?_; clear hk2; try clear k2
  refine W.seqk fun k3 hk3 => ?_
  refine W.block ?_
  refine W.seqk fun k4 hk4 => ?_
  refine W.region ?_
  refine L.fa hC rfl rfl rfl (fun _ => All.nil) Try.underlying106 rfl Try.sizeOf3 rfl rfl rfl ?_; clear hC a; intro a hC
  refine L.ld hC rfl rfl rfl (fun _ => All.nil) m1 Try.isAgg3 rfl rfl rfl ?_; clear hC a; intro a hC
  refine L.pu hC rfl rfl (fun _ => All.nil) rfl rfl ?_; clear hC a; intro a hC
  refine L.pu hC rfl rfl (fun _ => All.nil) rfl rfl ?_; clear hC a; intro a hC
  refine L.nil ?_
  refine hk4 _ _ ?_; clear hk4; try clear k4
  refine W.cond hC rfl (fun h1 => ?_) (fun h1 => ?_)
  ·
    refine W.region ?_
    refine L.pu hC rfl rfl (fun _ => All.nil) rfl rfl ?_; clear hC a; intro a hC
    refine L.callg [_] hC rfl rfl Try.call107 rfl (on_ok mb k s x.tick _ (hC.at m0)) (fun b h => ⟨_, m0, h⟩) rfl rfl ?_; clear hC a; intro _ a w hQ hC
    refine L.nil ?_
    refine hk3 _ _ ?_; clear hk3; try clear k3
    refine W.seqk fun k5 hk5 => ?_
    refine W.region ?_
    refine L.pu hC rfl rfl (fun _ => All.nil) rfl rfl ?_; clear hC a; intro a hC
    refine L.nil ?_
    refine hk5 _ _ ?_; clear hk5; try clear k5
    refine W.ret ?_
    replace hC := hC.one (r := _) m0
    refine rets hC rfl (.tmp rfl .nil) ?_
    exact ⟨(), by unfold actB; rw [if_pos h1], trivial, by unfold actB; rw [if_pos h1]; exact hC.toPost (by simp [blkR])⟩
  ·
    refine W.seqk fun k6 hk6 => ?_
    refine W.region ?_
    refine L.fa hC rfl rfl rfl (fun _ => All.nil) Try.underlying106 rfl Try.sizeOf3 rfl rfl rfl ?_; clear hC a; intro a hC
    refine L.ld hC rfl rfl rfl (fun _ => All.nil) m1 Try.isAgg3 rfl rfl rfl ?_; clear hC a; intro a hC
    refine L.pu hC rfl rfl (fun _ => All.nil) rfl rfl ?_; clear hC a; intro a hC
    refine L.pu hC rfl rfl (fun _ => All.nil) rfl rfl ?_; clear hC a; intro a hC
    refine L.nil ?_
    refine hk6 _ _ ?_; clear hk6; try clear k6
    refine W.cond hC rfl (fun h2 => ?_) (fun h2 => ?_)
    ·
      refine W.region ?_
      refine L.pu hC rfl rfl (fun _ => All.nil) rfl rfl ?_; clear hC a; intro a hC
      refine L.fa hC rfl rfl rfl (fun _ => All.nil) Try.underlying106 rfl Try.sizeOf4 rfl rfl rfl ?_; clear hC a; intro a hC
      refine L.ld hC rfl rfl rfl (fun _ => All.nil) m1 Try.isAgg4 rfl rfl rfl ?_; clear hC a; intro a hC
      refine L.fa hC rfl rfl rfl (fun _ => All.nil) Try.underlying106 rfl Try.sizeOf4 rfl rfl rfl ?_; clear hC a; intro a hC
      refine L.ld hC rfl rfl rfl (fun _ => All.nil) m1 Try.isAgg4 rfl rfl rfl ?_; clear hC a; intro a hC
      refine L.callg [_] hC rfl rfl Try.call108 rfl (ends_ok mb k s x.tick x.probe x.good _ (hC.at m0)) (fun b h => ⟨_, m0, h⟩) rfl rfl ?_; clear hC a; intro _ a w hQ hC
      refine L.nil ?_
      refine hk3 _ _ ?_; clear hk3; try clear k3
      refine W.seqk fun k7 hk7 => ?_
      refine W.region ?_
      refine L.pu hC rfl rfl (fun _ => All.nil) rfl rfl ?_; clear hC a; intro a hC
      refine L.nil ?_
      refine hk7 _ _ ?_; clear hk7; try clear k7
      refine W.ret ?_
      replace hC := hC.one (r := _) m0
      refine rets hC rfl (.tmp rfl .nil) ?_
      exact ⟨(), by unfold actB; rw [if_neg (nt h1), if_pos h2], trivial, by unfold actB; rw [if_neg (nt h1), if_pos h2]; exact hC.toPost (by simp [blkR])⟩
    ·
      refine W.seqk fun k8 hk8 => ?_
      refine W.region ?_
      refine L.pu hC rfl rfl (fun _ => All.nil) rfl rfl ?_; clear hC a; intro a hC
      refine L.call hC rfl rfl Try.call109 rfl (fun _ => All.nil) (fun hg => allows_ok mb k s x.tick _ (hC.at m0)) rfl rfl ?_; clear hC a; intro a w hF hC
      refine L.pu hC rfl rfl (fun _ => All.nil) rfl rfl ?_; clear hC a; intro a hC
      refine L.pu hC rfl rfl (fun _ => All.nil) rfl rfl ?_; clear hC a; intro a hC
      refine L.nil ?_
      refine hk8 _ _ ?_; clear hk8; try clear k8
      refine W.cond hC rfl (fun h3 => ?_) (fun h3 => ?_)
      ·
        refine W.seqk fun k9 hk9 => ?_
        refine W.region ?_
        refine L.pu hC rfl rfl (fun _ => All.nil) rfl rfl ?_; clear hC a; intro a hC
        refine L.nil ?_
        refine hk9 _ _ ?_; clear hk9; try clear k9
        refine W.ret ?_
        replace hC := hC.one (r := _) m0
        refine rets hC rfl (.tmp rfl .nil) ?_
        exact ⟨(), by unfold actB; rw [if_neg (nt h1), if_neg (nt h2), if_pos h3], trivial, by unfold actB; rw [if_neg (nt h1), if_neg (nt h2), if_pos h3]; exact hC.toPost (by simp [blkR])⟩
      ·
        refine W.seqk fun k10 hk10 => ?_
        refine W.region ?_
        refine L.pu hC rfl rfl (fun _ => All.nil) rfl rfl ?_; clear hC a; intro a hC
        refine L.pu hC rfl rfl (fun _ => All.nil) rfl rfl ?_; clear hC a; intro a hC
        refine L.fa hC rfl rfl rfl (fun _ => All.nil) Try.underlying115 rfl Try.sizeOf36 rfl rfl rfl ?_; clear hC a; intro a hC
        refine L.fa hC rfl rfl rfl (fun _ => All.nil) Try.underlying36 rfl Try.sizeOf3 rfl rfl rfl ?_; clear hC a; intro a hC
        refine L.ld hC rfl rfl rfl (fun _ => All.nil) m0 Try.isAgg3 rfl rfl rfl ?_; clear hC a; intro a hC
        refine L.pu hC rfl rfl (fun _ => All.nil) rfl rfl ?_; clear hC a; intro a hC
        refine L.pu hC rfl rfl (fun _ => All.nil) rfl rfl ?_; clear hC a; intro a hC
        refine L.nil ?_
        refine hk10 _ _ ?_; clear hk10; try clear k10
        refine W.cond hC rfl (fun h4 => ?_) (fun h4 => ?_)
        ·
          refine W.seqk fun k11 hk11 => ?_
          refine W.region ?_
          refine L.pu hC rfl rfl (fun _ => All.nil) rfl rfl ?_; clear hC a; intro a hC
          refine L.pu hC rfl rfl (fun _ => All.nil) rfl rfl ?_; clear hC a; intro a hC
          refine L.fa hC rfl rfl rfl (fun _ => All.nil) Try.underlying115 rfl Try.sizeOf36 rfl rfl rfl ?_; clear hC a; intro a hC
          refine L.fa hC rfl rfl rfl (fun _ => All.nil) Try.underlying36 rfl Try.sizeOf3 rfl rfl rfl ?_; clear hC a; intro a hC
          refine L.ld hC rfl rfl rfl (fun _ => All.nil) m0 Try.isAgg3 rfl rfl rfl ?_; clear hC a; intro a hC
          refine L.pu hC rfl rfl (fun _ => All.nil) rfl rfl ?_; clear hC a; intro a hC
          refine L.pu hC rfl rfl (fun _ => All.nil) rfl rfl ?_; clear hC a; intro a hC
          refine L.fa hC rfl rfl rfl (fun _ => All.nil) Try.underlying115 rfl Try.sizeOf36 rfl rfl rfl ?_; clear hC a; intro a hC
          refine L.fa hC rfl rfl rfl (fun _ => All.nil) Try.underlying36 rfl Try.sizeOf3 rfl rfl rfl ?_; clear hC a; intro a hC
          refine L.st hC rfl rfl rfl rfl Try.sizeOf3 rfl rfl rfl rfl rfl ?_; clear hC a; intro a w hF hC
          refine L.nil ?_
          refine hk11 _ _ ?_; clear hk11; try clear k11
          refine W.seqk fun k12 hk12 => ?_
          refine W.region ?_
          refine L.pu hC rfl rfl (fun _ => All.nil) rfl rfl ?_; clear hC a; intro a hC
          refine L.nil ?_
          refine hk12 _ _ ?_; clear hk12; try clear k12
          refine W.ret ?_
          replace hC := hC.one (r := _) m0
          refine rets hC rfl (.tmp rfl .nil) ?_
          exact ⟨(), by unfold actB; rw [if_neg (nt h1), if_neg (nt h2), if_neg (nt h3), if_pos h4], trivial, by unfold actB; rw [if_neg (nt h1), if_neg (nt h2), if_neg (nt h3), if_pos h4]; exact hC.toPost (by simp [blkR])⟩
        ·
          refine W.skip ?_
          refine hk3 _ _ ?_; clear hk3; try clear k3
          refine W.seqk fun k13 hk13 => ?_
          refine W.region ?_
          refine L.pu hC rfl rfl (fun _ => All.nil) rfl rfl ?_; clear hC a; intro a hC
          refine L.nil ?_
          refine hk13 _ _ ?_; clear hk13; try clear k13
          refine W.ret ?_
          replace hC := hC.one (r := _) m0
          refine rets hC rfl (.tmp rfl .nil) ?_
          exact ⟨(), by unfold actB; rw [if_neg (nt h1), if_neg (nt h2), if_neg (nt h3), if_neg (nt h4)], trivial, by unfold actB; rw [if_neg (nt h1), if_neg (nt h2), if_neg (nt h3), if_neg (nt h4)]; exact hC.toPost (by simp [blkR])⟩

end Go.Proofs.E
