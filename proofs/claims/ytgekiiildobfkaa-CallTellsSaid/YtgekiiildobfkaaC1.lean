/- Calls: what the small functions compute. -/
import Derived.Test.YtgekiiildobfkaaE19
import Derived.Test.YtgekiiildobfkaaT4
import Derived.Test.YtgekiiildobfkaaE15
set_option linter.unusedVariables false
set_option linter.unusedSimpArgs false
namespace Go.Proofs.E
open Go.RowKit
structure OpV where
  what : Int
  key : Int
  other : Int
  amt : Int
structure Att where
  bk : Int
  inc : Int
  ses : Int
  seq : Int
  at' : Int
  hedge : Bool
  probe : Bool
  over : Bool
structure Bo where
  base : Int
  cap : Int
  jit : Int
structure CSet where
  att : Int
  hed : Int
  tmo : Int
  mil : Int
  lea : Int
  bo : Bo
structure CallH where
  num : Int
  op : OpV
  once : Bool
  at' : Int
  dl : Int
  nx : Int
instance : Inhabited Att := ⟨⟨0, 0, 0, 0, 0, false, false, false⟩⟩
instance : Inhabited CallH := ⟨⟨0, ⟨0, 0, 0, 0⟩, false, 0, 0, 0⟩⟩
def opE (o : OpV) : List Value := [.int .i64 o.what, .int .i64 o.key, .int .i64 o.other, .int .i64 o.amt]
def boE (s : Bo) : List Value := [.int .i64 s.base, .int .i64 s.cap, .int .i64 s.jit]
def csE (s : CSet) : List Value := [.int .i64 s.att, .int .i64 s.hed, .int .i64 s.tmo, .int .i64 s.mil, .int .i64 s.lea, .int .i64 s.bo.base, .int .i64 s.bo.cap, .int .i64 s.bo.jit]
def attE : Enc Att where
  sz := 8
  enc x := [.int .i64 x.bk, .int .i64 x.inc, .int .i64 x.ses, .int .i64 x.seq, .int .i64 x.at', .bool x.hedge, .bool x.probe, .bool x.over]
  len _ := rfl
  one := by intro x u hu; simp at hu; rcases hu with rfl | rfl | rfl | rfl | rfl | rfl | rfl | rfl <;> rfl
  pos := by decide
def pinE (x : Att) : List Value := [.int .i64 x.bk, .int .i64 x.inc, .int .i64 x.ses, .int .i64 x.seq]
def callE (c : CallH) (v : Value) : List Value := [.int .i64 c.num, .int .i64 c.op.what, .int .i64 c.op.key, .int .i64 c.op.other, .int .i64 c.op.amt, .bool c.once, .int .i64 c.at', .int .i64 c.dl, .int .i64 c.nx, v]
def askE (c : CallH) (v : Value) (s : CSet) : List Value := [.int .i64 c.num, .int .i64 c.op.what, .int .i64 c.op.key, .int .i64 c.op.other, .int .i64 c.op.amt, .bool c.once, .int .i64 c.at', .int .i64 c.dl, .int .i64 c.nx, v, .int .i64 s.att, .int .i64 s.hed, .int .i64 s.tmo, .int .i64 s.mil, .int .i64 s.lea, .int .i64 s.bo.base, .int .i64 s.bo.cap, .int .i64 s.bo.jit]
theorem Mem.ro2 {b c : Nat} {us vs : List Value} {t u : TypeId} {w : World} (h1 : (robR b us t).ok w) (h2 : (robR c vs u).ok w) : Mem [robR b us t, robR c vs u] w :=
  ⟨by simp [h1, h2], by simp [apart, robR]⟩
theorem Mem.ro1 {α : Type _} {b : Nat} {us : List Value} {t : TypeId} {v : Value} {E : Enc α} {l : List α} {w : World} (h1 : (robR b us t).ok w) (h2 : (rdR v E l).ok w) : Mem [robR b us t, rdR v E l] w :=
  ⟨by simp [h1, h2], by simp [apart, robR, rdR]⟩
def inR (lo hi : Int) (l : List Int) : Bool := !(l.any fun n => decide (n < lo) || decide (n > hi))
def onceR (x : Int) : Bool × Int := if (decide (x < 1) || decide (x > 4)) = true then (false, 23) else (decide (x ≤ 2), 0)
def usedR (o : OpV) : OpV := if (o.what == 1) = true then { o with other := 0 } else if (o.what == 3) = true then ⟨3, o.key, 0, 0⟩ else if (o.what == 4) = true then ⟨4, 0, 0, 0⟩ else o
def ledR (o : OpV) : Int := if ((onceR o.what).2 != 0) = true then (onceR o.what).2 else if (o.what == 2) = true then (if (((decide (imin o.key o.other < 0) || decide (imax o.key o.other ≥ 16)) || decide (o.amt < 0)) || decide (o.amt > 1073741824)) = true then 4 else if (!veqs (opE o) (opE (usedR o))) = true then 9 else 0) else if (((decide (imin o.key o.other < 0) || decide (imax o.key o.other ≥ 16)) || decide (o.amt < (-1073741824))) || decide (o.amt > 1073741824)) = true then 4 else if (!veqs (opE o) (opE (usedR o))) = true then 9 else 0
def boR (s : Bo) : Int := if (((((decide (s.base < 1) || decide (s.base > 65536)) || decide (s.cap < s.base)) || decide (s.cap > 1048576)) || decide (s.jit < 0)) || decide (s.jit > 1000)) = true then 4 else 0
def setR (s : CSet) : Int := if (((!inR 1 16 [s.att] || !inR 0 8 [s.hed]) || !inR 1 1048576 [s.tmo, s.lea]) || !inR 1 1000 [s.mil]) = true then 4 else boR s.bo
theorem num27_ok (x : Int) (w0 : World) : Calls Try.prog 28 #[.int .i64 x] w0 fun e w' => e = .returned (.int .i64 x) ∧ Frm Nob w0 w' := by
  refine enter (μ := []) (S := Nob) (vs := [.int .i64 x]) Try.func28 rfl Try.ntmps28 rfl (Mem.nil _) (by simp) (fun a hC => ?_)
  refine W.seqk fun k1 hk1 => ?_
  refine W.region ?_
  refine L.pu hC rfl rfl (fun _ => All.nil) rfl rfl ?_; clear hC a; intro a hC
  refine L.nil ?_
  refine hk1 _ _ ?_; clear hk1; try clear k1
  refine W.seqk fun k2 hk2 => ?_
  refine W.region ?_
  refine L.pu hC rfl rfl (fun _ => All.nil) rfl rfl ?_; clear hC a; intro a hC
  refine L.pu hC rfl rfl (fun _ => All.nil) rfl rfl ?_; clear hC a; intro a hC
  refine L.nil ?_
  refine hk2 _ _ ?_; clear hk2; try clear k2
  refine W.ret ?_
  refine rets hC rfl (.tmp rfl .nil) ?_
  refine ⟨?_, hC.frm⟩
  rfl

theorem in1_ok (x : Int) (lb ub : Nat) (lo hi : Int) (w0 : World) (h1 : (robR lb [.int .i64 lo] 3).ok w0) (h2 : (robR ub [.int .i64 hi] 3).ok w0) : Calls Try.prog 124 #[.int .i64 x, .pointer (some ⟨lb, 0, none⟩), .pointer (some ⟨ub, 0, none⟩)] w0 fun e w' => e = .returned (.bool (decide (x < lo) || decide (x > hi))) ∧ Frm Nob w0 w' := by
  refine enter (μ := [robR lb [.int .i64 lo] 3, robR ub [.int .i64 hi] 3]) (S := Nob) (vs := [.int .i64 x, .pointer (some ⟨lb, 0, none⟩), .pointer (some ⟨ub, 0, none⟩)]) Try.func124 rfl Try.ntmps124 rfl (Mem.ro2 h1 h2) (by simp [robR]) (fun a hC => ?_)
  refine W.seqk fun k1 hk1 => ?_
  refine W.region ?_
  refine L.pu hC rfl rfl (fun _ => All.nil) rfl rfl ?_; clear hC a; intro a hC
  refine L.nil ?_
  refine hk1 _ _ ?_; clear hk1; try clear k1
  refine W.seqk fun k2 hk2 => ?_
  refine W.region ?_
  refine L.pu hC rfl rfl (fun _ => All.nil) rfl rfl ?_; clear hC a; intro a hC
  refine L.ldr hC rfl rfl rfl (fun _ => All.nil) m0 Try.isAgg3 rfl rfl rfl ?_; clear hC a; intro a hC
  refine L.pu hC rfl rfl (fun _ => All.nil) rfl rfl ?_; clear hC a; intro a hC
  refine L.pu hC rfl rfl (fun _ => All.nil) rfl rfl ?_; clear hC a; intro a hC
  refine L.pu hC rfl rfl (fun _ => All.nil) rfl rfl ?_; clear hC a; intro a hC
  refine L.ldr hC rfl rfl rfl (fun _ => All.nil) m1 Try.isAgg3 rfl rfl rfl ?_; clear hC a; intro a hC
  refine L.pu hC rfl rfl (fun hg => by simp only [Gt, Bool.and_eq_true] at hg; simp only [All, List.cons_append, List.nil_append, List.append_nil, List.mem_cons, List.not_mem_nil, or_false, forall_eq_or_imp, forall_eq, Bool.and_eq_true, hg, Bool.not_false, Bool.not_true, and_self]) rfl rfl ?_; clear hC a; intro a hC
  refine L.or hC rfl rfl rfl rfl (fun _ => All.nil) (fun _ hp => by simp only [All, List.cons_append, List.nil_append, List.append_nil, List.mem_cons, List.not_mem_nil, or_false, forall_eq_or_imp, forall_eq, Bool.and_eq_true, hp, Bool.not_false, Bool.not_true, and_self]) rfl rfl ?_; clear hC a; intro a hC
  refine L.pu hC rfl rfl (fun _ => All.nil) rfl rfl ?_; clear hC a; intro a hC
  refine L.nil ?_
  refine hk2 _ _ ?_; clear hk2; try clear k2
  refine W.ret ?_
  refine rets hC rfl (.tmp rfl .nil) ?_
  refine ⟨?_, hC.frm⟩
  rfl

theorem idxN_ok (v : Value) (l : List Int) (g : FuncId) (lb : Array Value) (p : Int → Bool) (w : World) (hr : (rdR v intE l).ok w) (hcall : ∀ (vs : Array Value) (w : World), (callFunc g vs).run Try.prog w = .ok (.enter g vs) w)
    (hp : ∀ x ∈ l, ∀ w', Frm Nob w w' → Calls Try.prog g (#[.int .i64 x] ++ lb) w' fun e w'' => e = .returned (.bool (p x)) ∧ Frm Nob w' w'') : Calls Try.prog 152 #[v, .func (.func g) #[] lb] w fun e w' => e = .returned (.int .i64 (fidx p l)) ∧ Frm Nob w w' := by
  refine enter (μ := [rdR v intE l]) (S := Nob) (vs := [v, .func (.func g) #[] lb]) Try.func152 rfl Try.ntmps152 rfl ⟨by simpa using hr, by simp⟩ (by simp [rdR]) (fun a hC => ?_)
  refine W.seqk fun k1 hk1 => ?_
  refine W.region ?_
  refine L.pu hC rfl rfl (fun _ => All.nil) rfl rfl ?_; clear hC a; intro a hC
  refine L.nil ?_
  refine hk1 _ _ ?_; clear hk1; try clear k1
  refine W.seqk fun k2 hk2 => ?_
  refine W.seqk fun k3 hk3 => ?_
  refine W.region ?_
  refine L.pu hC rfl rfl (fun _ => All.nil) rfl rfl ?_; clear hC a; intro a hC
  refine L.len hC rfl rfl rfl (fun _ => All.nil) (rd_form (hC.at m0)) Try.underlying37 rfl rfl ?_; clear hC a; intro a hC
  refine L.pu hC rfl rfl (fun _ => All.nil) rfl rfl ?_; clear hC a; intro a hC
  refine L.nil ?_
  refine hk3 _ _ ?_; clear hk3; try clear k3
  refine W.block ?_
  refine W.loop (fun (j : Nat) a w' => j ≤ l.length ∧ (∀ x ∈ l.take j, p x = false) ∧ Conf 19 Nob w [(8, (none, .int .i64 j)), (7, (none, .int .i64 l.length)), (6, (none, v)), (1, (none, .func (.func g) #[] lb)), (0, (none, v))] [rdR v intE l] a w') (fun j => l.length - j) 0 ?_ ?_
  · exact ⟨Nat.zero_le _, by simp, hC.keep ⟨rfl, rfl, rfl, rfl, rfl, trivial⟩⟩
  ·
    rintro j a w ⟨hj, ho, hC⟩
    refine W.seqk fun k4 hk4 => ?_
    refine W.region ?_
    refine L.pu hC rfl rfl (fun _ => All.nil) rfl rfl ?_; clear hC a; intro a hC
    refine L.nil ?_
    refine hk4 _ _ ?_; clear hk4; try clear k4
    refine W.seqk fun k5 hk5 => ?_
    refine W.cond hC rfl (fun h1 => ?_) (fun h1 => ?_)
    ·
      have h1 := of_decide_eq_true h1
      refine W.skip ?_
      refine hk5 _ _ ?_; clear hk5; try clear k5
      refine W.seqk fun k6 hk6 => ?_
      refine W.block ?_
      refine W.seqk fun k7 hk7 => ?_
      refine W.region ?_
      refine L.pu hC rfl rfl (fun _ => All.nil) rfl rfl ?_; clear hC a; intro a hC
      refine L.pu hC rfl rfl (fun _ => All.nil) rfl rfl ?_; clear hC a; intro a hC
      refine L.nil ?_
      refine hk7 _ _ ?_; clear hk7; try clear k7
      refine W.seqk fun k8 hk8 => ?_
      refine W.region ?_
      refine L.pu hC rfl rfl (fun _ => All.nil) rfl rfl ?_; clear hC a; intro a hC
      refine L.pu hC rfl rfl (fun _ => All.nil) rfl rfl ?_; clear hC a; intro a hC
      refine L.pu hC rfl rfl (fun _ => All.nil) rfl rfl ?_; clear hC a; intro a hC
      refine L.ixr hC rfl rfl rfl rfl m0 (fun _ => All.nil) (fun _ => All.nil) Try.underlying37 Try.sizeOf3 (fun _ => by omega) rfl rfl ?_; clear hC a; intro a hC
      refine L.ldx hC rfl rfl rfl rfl (fun _ => All.nil) (fun hg => rd_bang hC m0 (by omega) _) Try.isAgg3 rfl rfl rfl ?_; clear hC a; intro a hC
      refine L.callf hC rfl rfl rfl (fun _ => All.nil) hcall rfl (fun _ => All.nil) (fun hg => hp _ (bang_mem (by omega)) _ (hC.frm)) rfl rfl ?_; clear hC a; intro a w hF hC
      refine L.nil ?_
      refine hk8 _ _ ?_; clear hk8; try clear k8
      refine W.cond hC rfl (fun h2 => ?_) (fun h2 => ?_)
      ·
        refine W.seqk fun k9 hk9 => ?_
        refine W.region ?_
        refine L.pu hC rfl rfl (fun _ => All.nil) rfl rfl ?_; clear hC a; intro a hC
        refine L.pu hC rfl rfl (fun _ => All.nil) rfl rfl ?_; clear hC a; intro a hC
        refine L.nil ?_
        refine hk9 _ _ ?_; clear hk9; try clear k9
        refine W.ret ?_
        refine rets hC rfl (.tmp rfl .nil) ?_
        refine ⟨?_, hC.frm⟩
        refine ri ?_
        exact (fidx_here ho (by omega) h2).symm
      ·
        refine W.skip ?_
        refine hk6 _ _ ?_; clear hk6; try clear k6
        refine W.region ?_
        refine L.pu hC rfl rfl (fun _ => All.nil) rfl rfl ?_; clear hC a; intro a hC
        refine L.pu hC rfl rfl (fun _ => All.nil) rfl rfl ?_; clear hC a; intro a hC
        refine L.nil ?_
        have hl := rd_lt (hC.at m0)
        refine ⟨j + 1, ⟨by omega, fidx_step ho (by omega) h2, hC.keep ⟨?_, rfl, rfl, rfl, rfl, trivial⟩⟩, by omega⟩
        rw [w64 (by omega)]; rfl
    ·
      have h1 := of_decide_eq_false h1
      refine W.exit ?_
      refine Kb.here ?_
      refine hk2 _ _ ?_; clear hk2; try clear k2
      refine W.seqk fun k10 hk10 => ?_
      refine W.region ?_
      refine L.pu hC rfl rfl (fun _ => All.nil) rfl rfl ?_; clear hC a; intro a hC
      refine L.nil ?_
      refine hk10 _ _ ?_; clear hk10; try clear k10
      refine W.ret ?_
      refine rets hC rfl (.tmp rfl .nil) ?_
      refine ⟨?_, hC.frm⟩
      refine ri ?_
      exact (fidx_none (by rwa [List.take_of_length_le (by omega)] at ho)).symm

theorem hasN_ok (v : Value) (l : List Int) (g : FuncId) (lb : Array Value) (p : Int → Bool) (w : World) (hr : (rdR v intE l).ok w) (hcall : ∀ (vs : Array Value) (w : World), (callFunc g vs).run Try.prog w = .ok (.enter g vs) w)
    (hp : ∀ x ∈ l, ∀ w', Frm Nob w w' → Calls Try.prog g (#[.int .i64 x] ++ lb) w' fun e w'' => e = .returned (.bool (p x)) ∧ Frm Nob w' w'') : Calls Try.prog 123 #[v, .func (.func g) #[] lb] w fun e w' => e = .returned (.bool (l.any p)) ∧ Frm Nob w w' := by
  refine enter (μ := []) (S := Nob) (vs := [v, .func (.func g) #[] lb]) Try.func123 rfl Try.ntmps123 rfl (Mem.nil _) (by simp) (fun a hC => ?_)
  refine W.seqk fun k1 hk1 => ?_
  refine W.region ?_
  refine L.pu hC rfl rfl (fun _ => All.nil) rfl rfl ?_; clear hC a; intro a hC
  refine L.nil ?_
  refine hk1 _ _ ?_; clear hk1; try clear k1
  refine W.seqk fun k2 hk2 => ?_
  refine W.region ?_
  refine L.pu hC rfl rfl (fun _ => All.nil) rfl rfl ?_; clear hC a; intro a hC
  refine L.pu hC rfl rfl (fun _ => All.nil) rfl rfl ?_; clear hC a; intro a hC
  refine L.call hC rfl rfl Try.call152 rfl (fun _ => All.nil) (fun hg => idxN_ok v l g lb p _ ((rdR v intE l).st _ _ hr (fun b hb => hC.frm.block b ((rdR v intE l).bd _ hr b hb) (fun h => h))) hcall (fun x hx w' hw => hp x hx w' (hC.frm.trans hw (fun _ _ h => h.elim)))) rfl rfl ?_; clear hC a; intro a w hF hC
  refine L.pu hC rfl rfl (fun _ => All.nil) rfl rfl ?_; clear hC a; intro a hC
  refine L.pu hC rfl rfl (fun _ => All.nil) rfl rfl ?_; clear hC a; intro a hC
  refine L.nil ?_
  refine hk2 _ _ ?_; clear hk2; try clear k2
  refine W.ret ?_
  refine rets hC rfl (.tmp rfl .nil) ?_
  refine ⟨?_, hC.frm⟩
  refine rb ?_
  exact fidx_ge

theorem in27_ok (lo hi : Int) (v : Value) (l : List Int) (w0 : World) (hr : (rdR v intE l).ok w0) : Calls Try.prog 79 #[.int .i64 lo, .int .i64 hi, v] w0 fun e w' => e = .returned (.bool (inR lo hi l)) ∧ Frm Nob w0 w' := by
  refine enter (μ := [rdR v intE l]) (S := Nob) (vs := [.int .i64 lo, .int .i64 hi, v]) Try.func79 rfl Try.ntmps79 rfl ⟨by simpa using hr, by simp⟩ (by simp [rdR]) (fun a hC => ?_)
  refine W.seqk fun k1 hk1 => ?_
  refine W.region ?_
  refine L.box hC rfl rfl rfl rfl rfl rfl ?_; clear hC a; intro lb a w hF hC
  refine L.box hC rfl rfl rfl rfl rfl rfl ?_; clear hC a; intro ub a w hF hC
  refine L.pu hC rfl rfl (fun _ => All.nil) rfl rfl ?_; clear hC a; intro a hC
  refine L.nil ?_
  refine hk1 _ _ ?_; clear hk1; try clear k1
  refine W.seqk fun k2 hk2 => ?_
  refine W.region ?_
  refine L.pu hC rfl rfl (fun _ => All.nil) rfl rfl ?_; clear hC a; intro a hC
  refine L.pu hC rfl rfl (fun _ => All.nil) rfl rfl ?_; clear hC a; intro a hC
  refine L.call hC rfl rfl Try.call123 rfl (fun _ => All.nil) (fun hg => hasN_ok v l 124 #[.pointer (some ⟨lb, 0, none⟩), .pointer (some ⟨ub, 0, none⟩)] (fun n => decide (n < lo) || decide (n > hi)) _ (hC.at m2) Try.call124 (fun x hx w' hw => in1_ok x lb ub lo hi w' ((blkR lb [.int .i64 lo] 3).st _ _ (hC.at m1) (fun c hc => hw.block c ((blkR lb [.int .i64 lo] 3).bd _ (hC.at m1) c hc) (fun h => h))) ((blkR ub [.int .i64 hi] 3).st _ _ (hC.at m0) (fun c hc => hw.block c ((blkR ub [.int .i64 hi] 3).bd _ (hC.at m0) c hc) (fun h => h))))) rfl rfl ?_; clear hC a; intro a w hF hC
  refine L.pu hC rfl rfl (fun _ => All.nil) rfl rfl ?_; clear hC a; intro a hC
  refine L.pu hC rfl rfl (fun _ => All.nil) rfl rfl ?_; clear hC a; intro a hC
  refine L.nil ?_
  refine hk2 _ _ ?_; clear hk2; try clear k2
  refine W.ret ?_
  refine rets hC rfl (.tmp rfl .nil) ?_
  refine ⟨?_, hC.frm⟩
  rfl

theorem once_ok (x : Int) (w0 : World) : Calls Try.prog 120 #[.int .i64 x] w0 fun e w' => e = .returned (.tuple #[.bool (onceR x).1, .int .i64 (onceR x).2]) ∧ Frm Nob w0 w' := by
  refine enter (μ := []) (S := Nob) (vs := [.int .i64 x]) Try.func120 rfl Try.ntmps120 rfl (Mem.nil _) (by simp) (fun a hC => ?_)
  refine W.seqk fun k1 hk1 => ?_
  refine W.region ?_
  refine L.pu hC rfl rfl (fun _ => All.nil) rfl rfl ?_; clear hC a; intro a hC
  refine L.pu hC rfl rfl (fun _ => All.nil) rfl rfl ?_; clear hC a; intro a hC
  refine L.nil ?_
  refine hk1 _ _ ?_; clear hk1; try clear k1
  refine W.seqk fun k2 hk2 => ?_
  refine W.seqk fun k3 hk3 => ?_
  refine W.region ?_
  refine L.pu hC rfl rfl (fun _ => All.nil) rfl rfl ?_; clear hC a; intro a hC
  refine L.pu hC rfl rfl (fun _ => All.nil) rfl rfl ?_; clear hC a; intro a hC
  refine L.pu hC rfl rfl (fun _ => All.nil) rfl rfl ?_; clear hC a; intro a hC
  refine L.pu hC rfl rfl (fun _ => All.nil) rfl rfl ?_; clear hC a; intro a hC
  refine L.pu hC rfl rfl (fun hg => by simp only [Gt, Bool.and_eq_true] at hg; simp only [All, List.cons_append, List.nil_append, List.append_nil, List.mem_cons, List.not_mem_nil, or_false, forall_eq_or_imp, forall_eq, Bool.and_eq_true, hg, Bool.not_false, Bool.not_true, and_self]) rfl rfl ?_; clear hC a; intro a hC
  refine L.or hC rfl rfl rfl rfl (fun _ => All.nil) (fun _ hp => by simp only [All, List.cons_append, List.nil_append, List.append_nil, List.mem_cons, List.not_mem_nil, or_false, forall_eq_or_imp, forall_eq, Bool.and_eq_true, hp, Bool.not_false, Bool.not_true, and_self]) rfl rfl ?_; clear hC a; intro a hC
  refine L.nil ?_
  refine hk3 _ _ ?_; clear hk3; try clear k3
  refine W.cond hC rfl (fun h1 => ?_) (fun h1 => ?_)
  ·
    refine W.seqk fun k4 hk4 => ?_
    refine W.region ?_
    refine L.pu hC rfl rfl (fun _ => All.nil) rfl rfl ?_; clear hC a; intro a hC
    refine L.pu hC rfl rfl (fun _ => All.nil) rfl rfl ?_; clear hC a; intro a hC
    refine L.nil ?_
    refine hk4 _ _ ?_; clear hk4; try clear k4
    refine W.ret ?_
    refine retl hC rfl (.tmp rfl (.tmp rfl .nil)) rfl ?_
    exact ⟨(by unfold onceR; rw [if_pos h1]; try rfl), hC.frm⟩
  ·
    refine W.skip ?_
    refine hk2 _ _ ?_; clear hk2; try clear k2
    refine W.seqk fun k5 hk5 => ?_
    refine W.region ?_
    refine L.pu hC rfl rfl (fun _ => All.nil) rfl rfl ?_; clear hC a; intro a hC
    refine L.pu hC rfl rfl (fun _ => All.nil) rfl rfl ?_; clear hC a; intro a hC
    refine L.pu hC rfl rfl (fun _ => All.nil) rfl rfl ?_; clear hC a; intro a hC
    refine L.pu hC rfl rfl (fun _ => All.nil) rfl rfl ?_; clear hC a; intro a hC
    refine L.nil ?_
    refine hk5 _ _ ?_; clear hk5; try clear k5
    refine W.ret ?_
    refine retl hC rfl (.tmp rfl (.tmp rfl .nil)) rfl ?_
    exact ⟨(by unfold onceR; rw [if_neg (nt h1)]; try rfl), hC.frm⟩

theorem used_ok (o : OpV) (w0 : World) : Calls Try.prog 151 #[.agg (opE o).toArray] w0 fun e w' => e = .returned (.agg (opE (usedR o)).toArray) ∧ Frm Nob w0 w' := by
  refine enter (μ := []) (S := Nob) (vs := [.agg (opE o).toArray]) Try.func151 rfl Try.ntmps151 rfl (Mem.nil _) (by simp) (fun a hC => ?_)
  refine W.seqk fun k1 hk1 => ?_
  refine W.region ?_
  refine L.box hC rfl rfl rfl rfl rfl rfl ?_; clear hC a; intro ob a w hF hC
  refine L.alloc hC rfl rfl Try.zeroValue53 rfl rfl rfl ?_; clear hC a; intro rb a w hF hC
  refine L.nil ?_
  refine hk1 _ _ ?_; clear hk1; try clear k1
  refine W.seqk fun k2 hk2 => ?_
  refine W.seqk fun k3 hk3 => ?_
  refine W.region ?_
  refine L.fa hC rfl rfl rfl (fun _ => All.nil) Try.underlying53 rfl Try.sizeOf3 rfl rfl rfl ?_; clear hC a; intro a hC
  refine L.ld hC rfl rfl rfl (fun _ => All.nil) m1 Try.isAgg3 rfl rfl rfl ?_; clear hC a; intro a hC
  refine L.nil ?_
  refine hk3 _ _ ?_; clear hk3; try clear k3
  refine W.block ?_
  refine W.seqk fun k4 hk4 => ?_
  refine W.region ?_
  refine L.pu hC rfl rfl (fun _ => All.nil) rfl rfl ?_; clear hC a; intro a hC
  refine L.pu hC rfl rfl (fun _ => All.nil) rfl rfl ?_; clear hC a; intro a hC
  refine L.nil ?_
  refine hk4 _ _ ?_; clear hk4; try clear k4
  refine W.cond hC rfl (fun h1 => ?_) (fun h1 => ?_)
  ·
    refine W.region ?_
    refine L.fa hC rfl rfl rfl (fun _ => All.nil) Try.underlying53 rfl Try.sizeOf3 rfl rfl rfl ?_; clear hC a; intro a hC
    replace hC := hC.fr1
    refine L.st hC rfl rfl rfl rfl Try.sizeOf3 rfl rfl rfl rfl rfl ?_; clear hC a; intro a w hF hC
    refine L.nil ?_
    refine hk2 _ _ ?_; clear hk2; try clear k2
    refine W.seqk fun k5 hk5 => ?_
    refine W.region ?_
    refine L.lda hC rfl rfl rfl (fun _ => All.nil) m0 Try.isAgg53 Try.sizeOf53 rfl rfl rfl rfl ?_; clear hC a; intro a hC
    replace hC := hC.fr1
    refine L.st hC rfl rfl rfl rfl Try.sizeOf53 rfl rfl rfl rfl rfl ?_; clear hC a; intro a w hF hC
    refine L.nil ?_
    refine hk5 _ _ ?_; clear hk5; try clear k5
    refine W.ret ?_
    refine rets hC rfl (.agg rfl m0 Try.isAgg53 Try.sizeOf53 rfl .nil) ?_
    exact ⟨(by unfold usedR; rw [if_pos h1]; try rfl), hC.frm⟩
  ·
    refine W.seqk fun k6 hk6 => ?_
    refine W.region ?_
    refine L.pu hC rfl rfl (fun _ => All.nil) rfl rfl ?_; clear hC a; intro a hC
    refine L.pu hC rfl rfl (fun _ => All.nil) rfl rfl ?_; clear hC a; intro a hC
    refine L.nil ?_
    refine hk6 _ _ ?_; clear hk6; try clear k6
    refine W.cond hC rfl (fun h2 => ?_) (fun h2 => ?_)
    ·
      refine W.region ?_
      refine L.fa hC rfl rfl rfl (fun _ => All.nil) Try.underlying53 rfl Try.sizeOf3 rfl rfl rfl ?_; clear hC a; intro a hC
      refine L.ld hC rfl rfl rfl (fun _ => All.nil) m1 Try.isAgg3 rfl rfl rfl ?_; clear hC a; intro a hC
      refine L.buildS (ps := [(0, 1), (1, 1), (2, 1), (3, 1)]) hC rfl rfl rfl (fun _ => All.nil) Try.zeroValue53 Try.underlying53 ⟨⟨rfl, Try.sizeOf3⟩, ⟨rfl, Try.sizeOf3⟩, ⟨rfl, Try.sizeOf3⟩, ⟨rfl, Try.sizeOf3⟩, trivial⟩ rfl rfl rfl ?_; clear hC a; intro a hC
      replace hC := hC.fr1
      refine L.st hC rfl rfl rfl rfl Try.sizeOf53 rfl rfl rfl rfl rfl ?_; clear hC a; intro a w hF hC
      refine L.nil ?_
      refine hk2 _ _ ?_; clear hk2; try clear k2
      refine W.seqk fun k7 hk7 => ?_
      refine W.region ?_
      refine L.lda hC rfl rfl rfl (fun _ => All.nil) m0 Try.isAgg53 Try.sizeOf53 rfl rfl rfl rfl ?_; clear hC a; intro a hC
      replace hC := hC.fr1
      refine L.st hC rfl rfl rfl rfl Try.sizeOf53 rfl rfl rfl rfl rfl ?_; clear hC a; intro a w hF hC
      refine L.nil ?_
      refine hk7 _ _ ?_; clear hk7; try clear k7
      refine W.ret ?_
      refine rets hC rfl (.agg rfl m0 Try.isAgg53 Try.sizeOf53 rfl .nil) ?_
      exact ⟨(by unfold usedR; rw [if_neg (nt h1), if_pos h2]; try rfl), hC.frm⟩
    ·
      refine W.seqk fun k8 hk8 => ?_
      refine W.region ?_
      refine L.pu hC rfl rfl (fun _ => All.nil) rfl rfl ?_; clear hC a; intro a hC
      refine L.pu hC rfl rfl (fun _ => All.nil) rfl rfl ?_; clear hC a; intro a hC
      refine L.nil ?_
      refine hk8 _ _ ?_; clear hk8; try clear k8
      refine W.cond hC rfl (fun h3 => ?_) (fun h3 => ?_)
      ·
        refine W.region ?_
        refine L.buildS (ps := [(0, 1), (1, 1), (2, 1), (3, 1)]) hC rfl rfl rfl (fun _ => All.nil) Try.zeroValue53 Try.underlying53 ⟨⟨rfl, Try.sizeOf3⟩, ⟨rfl, Try.sizeOf3⟩, ⟨rfl, Try.sizeOf3⟩, ⟨rfl, Try.sizeOf3⟩, trivial⟩ rfl rfl rfl ?_; clear hC a; intro a hC
        replace hC := hC.fr1
        refine L.st hC rfl rfl rfl rfl Try.sizeOf53 rfl rfl rfl rfl rfl ?_; clear hC a; intro a w hF hC
        refine L.nil ?_
        refine hk2 _ _ ?_; clear hk2; try clear k2
        refine W.seqk fun k9 hk9 => ?_
        refine W.region ?_
        refine L.lda hC rfl rfl rfl (fun _ => All.nil) m0 Try.isAgg53 Try.sizeOf53 rfl rfl rfl rfl ?_; clear hC a; intro a hC
        replace hC := hC.fr1
        refine L.st hC rfl rfl rfl rfl Try.sizeOf53 rfl rfl rfl rfl rfl ?_; clear hC a; intro a w hF hC
        refine L.nil ?_
        refine hk9 _ _ ?_; clear hk9; try clear k9
        refine W.ret ?_
        refine rets hC rfl (.agg rfl m0 Try.isAgg53 Try.sizeOf53 rfl .nil) ?_
        exact ⟨(by unfold usedR; rw [if_neg (nt h1), if_neg (nt h2), if_pos h3]; try rfl), hC.frm⟩
      ·
        refine W.skip ?_
        refine hk2 _ _ ?_; clear hk2; try clear k2
        refine W.seqk fun k10 hk10 => ?_
        refine W.region ?_
        refine L.lda hC rfl rfl rfl (fun _ => All.nil) m1 Try.isAgg53 Try.sizeOf53 rfl rfl rfl rfl ?_; clear hC a; intro a hC
        refine L.st hC rfl rfl rfl rfl Try.sizeOf53 rfl rfl rfl rfl rfl ?_; clear hC a; intro a w hF hC
        refine L.nil ?_
        refine hk10 _ _ ?_; clear hk10; try clear k10
        refine W.ret ?_
        refine rets hC rfl (.agg rfl m0 Try.isAgg53 Try.sizeOf53 rfl .nil) ?_
        exact ⟨(by unfold usedR; rw [if_neg (nt h1), if_neg (nt h2), if_neg (nt h3)]; try rfl), hC.frm⟩

theorem ledc_ok (o : OpV) (w0 : World) : Calls Try.prog 119 #[.agg (opE o).toArray] w0 fun e w' => e = .returned (.int .i64 (ledR o)) ∧ Frm Nob w0 w' := by
  refine enter (μ := []) (S := Nob) (vs := [.agg (opE o).toArray]) Try.func119 rfl Try.ntmps119 rfl (Mem.nil _) (by simp) (fun a hC => ?_)
  refine W.seqk fun k1 hk1 => ?_
  refine W.region ?_
  refine L.box hC rfl rfl rfl rfl rfl rfl ?_; clear hC a; intro ob a w hF hC
  refine L.pu hC rfl rfl (fun _ => All.nil) rfl rfl ?_; clear hC a; intro a hC
  refine L.nil ?_
  refine hk1 _ _ ?_; clear hk1; try clear k1
  refine W.seqk fun k2 hk2 => ?_
  refine W.seqk fun k3 hk3 => ?_
  refine W.region ?_
  refine L.fa hC rfl rfl rfl (fun _ => All.nil) Try.underlying53 rfl Try.sizeOf3 rfl rfl rfl ?_; clear hC a; intro a hC
  refine L.ld hC rfl rfl rfl (fun _ => All.nil) m0 Try.isAgg3 rfl rfl rfl ?_; clear hC a; intro a hC
  refine L.call hC rfl rfl Try.call120 rfl (fun _ => All.nil) (fun hg => once_ok _ _) rfl rfl ?_; clear hC a; intro a w hF hC
  refine L.pu hC rfl rfl (fun _ => All.nil) rfl rfl ?_; clear hC a; intro a hC
  refine L.pu hC rfl rfl (fun _ => All.nil) rfl rfl ?_; clear hC a; intro a hC
  refine L.pu hC rfl rfl (fun _ => All.nil) rfl rfl ?_; clear hC a; intro a hC
  refine L.pu hC rfl rfl (fun _ => All.nil) rfl rfl ?_; clear hC a; intro a hC
  refine L.pu hC rfl rfl (fun _ => All.nil) rfl rfl ?_; clear hC a; intro a hC
  refine L.nil ?_
  refine hk3 _ _ ?_; clear hk3; try clear k3
  refine W.seqk fun k4 hk4 => ?_
  refine W.region ?_
  refine L.pu hC rfl rfl (fun _ => All.nil) rfl rfl ?_; clear hC a; intro a hC
  refine L.pu hC rfl rfl (fun _ => All.nil) rfl rfl ?_; clear hC a; intro a hC
  refine L.nil ?_
  refine hk4 _ _ ?_; clear hk4; try clear k4
  refine W.cond hC rfl (fun h1 => ?_) (fun h1 => ?_)
  ·
    refine W.seqk fun k5 hk5 => ?_
    refine W.region ?_
    refine L.pu hC rfl rfl (fun _ => All.nil) rfl rfl ?_; clear hC a; intro a hC
    refine L.pu hC rfl rfl (fun _ => All.nil) rfl rfl ?_; clear hC a; intro a hC
    refine L.nil ?_
    refine hk5 _ _ ?_; clear hk5; try clear k5
    refine W.ret ?_
    refine rets hC rfl (.tmp rfl .nil) ?_
    exact ⟨(by unfold ledR; rw [if_pos h1]; try rfl), hC.frm⟩
  ·
    refine W.skip ?_
    refine hk2 _ _ ?_; clear hk2; try clear k2
    refine W.seqk fun k6 hk6 => ?_
    refine W.region ?_
    refine L.pu hC rfl rfl (fun _ => All.nil) rfl rfl ?_; clear hC a; intro a hC
    refine L.nil ?_
    refine hk6 _ _ ?_; clear hk6; try clear k6
    refine W.seqk fun k7 hk7 => ?_
    refine W.seqk fun k8 hk8 => ?_
    refine W.region ?_
    refine L.fa hC rfl rfl rfl (fun _ => All.nil) Try.underlying53 rfl Try.sizeOf3 rfl rfl rfl ?_; clear hC a; intro a hC
    refine L.ld hC rfl rfl rfl (fun _ => All.nil) m0 Try.isAgg3 rfl rfl rfl ?_; clear hC a; intro a hC
    refine L.pu hC rfl rfl (fun _ => All.nil) rfl rfl ?_; clear hC a; intro a hC
    refine L.nil ?_
    refine hk8 _ _ ?_; clear hk8; try clear k8
    refine W.cond hC rfl (fun h2 => ?_) (fun h2 => ?_)
    ·
      refine W.region ?_
      refine L.pu hC rfl rfl (fun _ => All.nil) rfl rfl ?_; clear hC a; intro a hC
      refine L.nil ?_
      refine hk7 _ _ ?_; clear hk7; try clear k7
      refine W.seqk fun k9 hk9 => ?_
      refine W.block ?_
      refine W.seqk fun k10 hk10 => ?_
      refine W.region ?_
      refine L.fa hC rfl rfl rfl (fun _ => All.nil) Try.underlying53 rfl Try.sizeOf3 rfl rfl rfl ?_; clear hC a; intro a hC
      refine L.ld hC rfl rfl rfl (fun _ => All.nil) m0 Try.isAgg3 rfl rfl rfl ?_; clear hC a; intro a hC
      refine L.fa hC rfl rfl rfl (fun _ => All.nil) Try.underlying53 rfl Try.sizeOf3 rfl rfl rfl ?_; clear hC a; intro a hC
      refine L.ld hC rfl rfl rfl (fun _ => All.nil) m0 Try.isAgg3 rfl rfl rfl ?_; clear hC a; intro a hC
      refine L.min2 hC rfl rfl rfl rfl (fun _ => All.nil) (fun _ => All.nil) rfl rfl ?_; clear hC a; intro a hC
      refine L.pu hC rfl rfl (fun _ => All.nil) rfl rfl ?_; clear hC a; intro a hC
      refine L.pu hC rfl rfl (fun _ => All.nil) rfl rfl ?_; clear hC a; intro a hC
      refine L.fa hC rfl rfl rfl (fun _ => All.nil) Try.underlying53 rfl Try.sizeOf3 rfl rfl rfl ?_; clear hC a; intro a hC
      refine L.ld hC rfl rfl rfl (fun hg => by simp only [Gt, Bool.and_eq_true] at hg; simp only [All, List.cons_append, List.nil_append, List.append_nil, List.mem_cons, List.not_mem_nil, or_false, forall_eq_or_imp, forall_eq, Bool.and_eq_true, hg, Bool.not_false, Bool.not_true, and_self]) m0 Try.isAgg3 rfl rfl rfl ?_; clear hC a; intro a hC
      refine L.fa hC rfl rfl rfl (fun _ => All.nil) Try.underlying53 rfl Try.sizeOf3 rfl rfl rfl ?_; clear hC a; intro a hC
      refine L.ld hC rfl rfl rfl (fun hg => by simp only [Gt, Bool.and_eq_true] at hg; simp only [All, List.cons_append, List.nil_append, List.append_nil, List.mem_cons, List.not_mem_nil, or_false, forall_eq_or_imp, forall_eq, Bool.and_eq_true, hg, Bool.not_false, Bool.not_true, and_self]) m0 Try.isAgg3 rfl rfl rfl ?_; clear hC a; intro a hC
      refine L.max2 hC rfl rfl rfl rfl (fun hg => by simp only [Gt, Bool.and_eq_true] at hg; simp only [All, List.cons_append, List.nil_append, List.append_nil, List.mem_cons, List.not_mem_nil, or_false, forall_eq_or_imp, forall_eq, Bool.and_eq_true, hg, Bool.not_false, Bool.not_true, and_self]) (fun hg => by simp only [Gt, Bool.and_eq_true] at hg; simp only [All, List.cons_append, List.nil_append, List.append_nil, List.mem_cons, List.not_mem_nil, or_false, forall_eq_or_imp, forall_eq, Bool.and_eq_true, hg, Bool.not_false, Bool.not_true, and_self]) rfl rfl ?_; clear hC a; intro a hC
      refine L.pu hC rfl rfl (fun hg => by simp only [Gt, Bool.and_eq_true] at hg; simp only [All, List.cons_append, List.nil_append, List.append_nil, List.mem_cons, List.not_mem_nil, or_false, forall_eq_or_imp, forall_eq, Bool.and_eq_true, hg, Bool.not_false, Bool.not_true, and_self]) rfl rfl ?_; clear hC a; intro a hC
      refine L.or hC rfl rfl rfl rfl (fun _ => All.nil) (fun _ hp => by simp only [All, List.cons_append, List.nil_append, List.append_nil, List.mem_cons, List.not_mem_nil, or_false, forall_eq_or_imp, forall_eq, Bool.and_eq_true, hp, Bool.not_false, Bool.not_true, and_self]) rfl rfl ?_; clear hC a; intro a hC
      refine L.pu hC rfl rfl (fun _ => All.nil) rfl rfl ?_; clear hC a; intro a hC
      refine L.fa hC rfl rfl rfl (fun _ => All.nil) Try.underlying53 rfl Try.sizeOf3 rfl rfl rfl ?_; clear hC a; intro a hC
      refine L.ld hC rfl rfl rfl (fun hg => by simp only [Gt, Bool.and_eq_true] at hg; simp only [All, List.cons_append, List.nil_append, List.append_nil, List.mem_cons, List.not_mem_nil, or_false, forall_eq_or_imp, forall_eq, Bool.and_eq_true, hg, Bool.not_false, Bool.not_true, and_self]) m0 Try.isAgg3 rfl rfl rfl ?_; clear hC a; intro a hC
      refine L.pu hC rfl rfl (fun _ => All.nil) rfl rfl ?_; clear hC a; intro a hC
      refine L.pu hC rfl rfl (fun hg => by simp only [Gt, Bool.and_eq_true] at hg; simp only [All, List.cons_append, List.nil_append, List.append_nil, List.mem_cons, List.not_mem_nil, or_false, forall_eq_or_imp, forall_eq, Bool.and_eq_true, hg, Bool.not_false, Bool.not_true, and_self]) rfl rfl ?_; clear hC a; intro a hC
      refine L.or hC rfl rfl rfl rfl (fun _ => All.nil) (fun _ hp => by simp only [All, List.cons_append, List.nil_append, List.append_nil, List.mem_cons, List.not_mem_nil, or_false, forall_eq_or_imp, forall_eq, Bool.and_eq_true, hp, Bool.not_false, Bool.not_true, and_self]) rfl rfl ?_; clear hC a; intro a hC
      refine L.pu hC rfl rfl (fun _ => All.nil) rfl rfl ?_; clear hC a; intro a hC
      refine L.fa hC rfl rfl rfl (fun _ => All.nil) Try.underlying53 rfl Try.sizeOf3 rfl rfl rfl ?_; clear hC a; intro a hC
      refine L.ld hC rfl rfl rfl (fun hg => by simp only [Gt, Bool.and_eq_true] at hg; simp only [All, List.cons_append, List.nil_append, List.append_nil, List.mem_cons, List.not_mem_nil, or_false, forall_eq_or_imp, forall_eq, Bool.and_eq_true, hg, Bool.not_false, Bool.not_true, and_self]) m0 Try.isAgg3 rfl rfl rfl ?_; clear hC a; intro a hC
      refine L.pu hC rfl rfl (fun hg => by simp only [Gt, Bool.and_eq_true] at hg; simp only [All, List.cons_append, List.nil_append, List.append_nil, List.mem_cons, List.not_mem_nil, or_false, forall_eq_or_imp, forall_eq, Bool.and_eq_true, hg, Bool.not_false, Bool.not_true, and_self]) rfl rfl ?_; clear hC a; intro a hC
      refine L.or hC rfl rfl rfl rfl (fun _ => All.nil) (fun _ hp => by simp only [All, List.cons_append, List.nil_append, List.append_nil, List.mem_cons, List.not_mem_nil, or_false, forall_eq_or_imp, forall_eq, Bool.and_eq_true, hp, Bool.not_false, Bool.not_true, and_self]) rfl rfl ?_; clear hC a; intro a hC
      refine L.pu hC rfl rfl (fun _ => All.nil) rfl rfl ?_; clear hC a; intro a hC
      refine L.nil ?_
      refine hk10 _ _ ?_; clear hk10; try clear k10
      refine W.cond hC rfl (fun h3 => ?_) (fun h3 => ?_)
      ·
        refine W.seqk fun k11 hk11 => ?_
        refine W.region ?_
        refine L.pu hC rfl rfl (fun _ => All.nil) rfl rfl ?_; clear hC a; intro a hC
        refine L.nil ?_
        refine hk11 _ _ ?_; clear hk11; try clear k11
        refine W.ret ?_
        refine rets hC rfl (.tmp rfl .nil) ?_
        exact ⟨(by unfold ledR; rw [if_neg (nt h1), if_pos h2, if_pos h3]; try rfl), hC.frm⟩
      ·
        refine W.seqk fun k12 hk12 => ?_
        refine W.drawD hC Try.mixed rfl rfl ?_
        apply DRN.cons (.det _ _) rfl
        · intro a w hC
          refine L.lda hC rfl rfl rfl (fun _ => All.nil) m0 Try.isAgg53 Try.sizeOf53 rfl rfl rfl rfl ?_; clear hC a; intro a hC
          exact L.nil ⟨⟨_, [], hC⟩, Frm.refl _ _⟩
        apply DRN.cons (.det _ _) rfl
        · intro a w hC
          refine L.lda hC rfl rfl rfl (fun _ => All.nil) m0 Try.isAgg53 Try.sizeOf53 rfl rfl rfl rfl ?_; clear hC a; intro a hC
          exact L.nil ⟨⟨_, [], hC⟩, Frm.refl _ _⟩
        apply DRN.cons (.det _ _) rfl
        · intro a w hC
          refine L.call hC rfl rfl Try.call151 rfl (fun _ => All.nil) (fun hg => used_ok _ _) rfl rfl ?_; clear hC a; intro a w hF hC
          exact L.nil ⟨⟨_, [], hC⟩, hF⟩
        apply DRN.cons (.det _ _) rfl
        · intro a w hC
          refine L.bin hC rfl rfl rfl rfl (fun _ => All.nil) (fun _ => All.nil) (fun _ => run_neS Try.underlying53 Try.stoodInHeld53 Try.eqGuardType53 ⟨⟨rfl, rfl, ⟨_, Try.underlying3⟩⟩, ⟨rfl, rfl, ⟨_, Try.underlying3⟩⟩, ⟨rfl, rfl, ⟨_, Try.underlying3⟩⟩, ⟨rfl, rfl, ⟨_, Try.underlying3⟩⟩, trivial⟩ rfl) rfl rfl ?_; clear hC a; intro a hC
          exact L.nil ⟨⟨_, [], hC⟩, Frm.refl _ _⟩
        apply DRN.cons (.det _ _) rfl
        · intro a w hC
          refine L.pu hC rfl rfl (fun _ => All.nil) rfl rfl ?_; clear hC a; intro a hC
          exact L.nil ⟨⟨_, [], hC⟩, Frm.refl _ _⟩
        refine DRN.nil (fun w' hF => ?_)
        intro a w hC hw
        subst hw
        refine hk12 _ _ ?_; clear hk12; try clear k12
        refine W.cond hC rfl (fun h4 => ?_) (fun h4 => ?_)
        ·
          have h4 : (!veqs (opE o) (opE (usedR o))) = true := h4
          refine W.seqk fun k13 hk13 => ?_
          refine W.region ?_
          refine L.pu hC rfl rfl (fun _ => All.nil) rfl rfl ?_; clear hC a; intro a hC
          refine L.nil ?_
          refine hk13 _ _ ?_; clear hk13; try clear k13
          refine W.ret ?_
          refine rets hC rfl (.tmp rfl .nil) ?_
          exact ⟨(by unfold ledR; rw [if_neg (nt h1), if_pos h2, if_neg (nt h3), if_pos h4]; try rfl), hC.frm⟩
        ·
          have h4 : (!veqs (opE o) (opE (usedR o))) = false := h4
          refine W.skip ?_
          refine hk9 _ _ ?_; clear hk9; try clear k9
          refine W.seqk fun k14 hk14 => ?_
          refine W.region ?_
          refine L.pu hC rfl rfl (fun _ => All.nil) rfl rfl ?_; clear hC a; intro a hC
          refine L.nil ?_
          refine hk14 _ _ ?_; clear hk14; try clear k14
          refine W.ret ?_
          refine rets hC rfl (.tmp rfl .nil) ?_
          exact ⟨(by unfold ledR; rw [if_neg (nt h1), if_pos h2, if_neg (nt h3), if_neg (nt h4)]; try rfl), hC.frm⟩
    ·
      refine W.skip ?_
      refine hk7 _ _ ?_; clear hk7; try clear k7
      refine W.seqk fun k15 hk15 => ?_
      refine W.block ?_
      refine W.seqk fun k16 hk16 => ?_
      refine W.region ?_
      refine L.fa hC rfl rfl rfl (fun _ => All.nil) Try.underlying53 rfl Try.sizeOf3 rfl rfl rfl ?_; clear hC a; intro a hC
      refine L.ld hC rfl rfl rfl (fun _ => All.nil) m0 Try.isAgg3 rfl rfl rfl ?_; clear hC a; intro a hC
      refine L.fa hC rfl rfl rfl (fun _ => All.nil) Try.underlying53 rfl Try.sizeOf3 rfl rfl rfl ?_; clear hC a; intro a hC
      refine L.ld hC rfl rfl rfl (fun _ => All.nil) m0 Try.isAgg3 rfl rfl rfl ?_; clear hC a; intro a hC
      refine L.min2 hC rfl rfl rfl rfl (fun _ => All.nil) (fun _ => All.nil) rfl rfl ?_; clear hC a; intro a hC
      refine L.pu hC rfl rfl (fun _ => All.nil) rfl rfl ?_; clear hC a; intro a hC
      refine L.pu hC rfl rfl (fun _ => All.nil) rfl rfl ?_; clear hC a; intro a hC
      refine L.fa hC rfl rfl rfl (fun _ => All.nil) Try.underlying53 rfl Try.sizeOf3 rfl rfl rfl ?_; clear hC a; intro a hC
      refine L.ld hC rfl rfl rfl (fun hg => by simp only [Gt, Bool.and_eq_true] at hg; simp only [All, List.cons_append, List.nil_append, List.append_nil, List.mem_cons, List.not_mem_nil, or_false, forall_eq_or_imp, forall_eq, Bool.and_eq_true, hg, Bool.not_false, Bool.not_true, and_self]) m0 Try.isAgg3 rfl rfl rfl ?_; clear hC a; intro a hC
      refine L.fa hC rfl rfl rfl (fun _ => All.nil) Try.underlying53 rfl Try.sizeOf3 rfl rfl rfl ?_; clear hC a; intro a hC
      refine L.ld hC rfl rfl rfl (fun hg => by simp only [Gt, Bool.and_eq_true] at hg; simp only [All, List.cons_append, List.nil_append, List.append_nil, List.mem_cons, List.not_mem_nil, or_false, forall_eq_or_imp, forall_eq, Bool.and_eq_true, hg, Bool.not_false, Bool.not_true, and_self]) m0 Try.isAgg3 rfl rfl rfl ?_; clear hC a; intro a hC
      refine L.max2 hC rfl rfl rfl rfl (fun hg => by simp only [Gt, Bool.and_eq_true] at hg; simp only [All, List.cons_append, List.nil_append, List.append_nil, List.mem_cons, List.not_mem_nil, or_false, forall_eq_or_imp, forall_eq, Bool.and_eq_true, hg, Bool.not_false, Bool.not_true, and_self]) (fun hg => by simp only [Gt, Bool.and_eq_true] at hg; simp only [All, List.cons_append, List.nil_append, List.append_nil, List.mem_cons, List.not_mem_nil, or_false, forall_eq_or_imp, forall_eq, Bool.and_eq_true, hg, Bool.not_false, Bool.not_true, and_self]) rfl rfl ?_; clear hC a; intro a hC
      refine L.pu hC rfl rfl (fun hg => by simp only [Gt, Bool.and_eq_true] at hg; simp only [All, List.cons_append, List.nil_append, List.append_nil, List.mem_cons, List.not_mem_nil, or_false, forall_eq_or_imp, forall_eq, Bool.and_eq_true, hg, Bool.not_false, Bool.not_true, and_self]) rfl rfl ?_; clear hC a; intro a hC
      refine L.or hC rfl rfl rfl rfl (fun _ => All.nil) (fun _ hp => by simp only [All, List.cons_append, List.nil_append, List.append_nil, List.mem_cons, List.not_mem_nil, or_false, forall_eq_or_imp, forall_eq, Bool.and_eq_true, hp, Bool.not_false, Bool.not_true, and_self]) rfl rfl ?_; clear hC a; intro a hC
      refine L.pu hC rfl rfl (fun _ => All.nil) rfl rfl ?_; clear hC a; intro a hC
      refine L.fa hC rfl rfl rfl (fun _ => All.nil) Try.underlying53 rfl Try.sizeOf3 rfl rfl rfl ?_; clear hC a; intro a hC
      refine L.ld hC rfl rfl rfl (fun hg => by simp only [Gt, Bool.and_eq_true] at hg; simp only [All, List.cons_append, List.nil_append, List.append_nil, List.mem_cons, List.not_mem_nil, or_false, forall_eq_or_imp, forall_eq, Bool.and_eq_true, hg, Bool.not_false, Bool.not_true, and_self]) m0 Try.isAgg3 rfl rfl rfl ?_; clear hC a; intro a hC
      refine L.pu hC rfl rfl (fun _ => All.nil) rfl rfl ?_; clear hC a; intro a hC
      refine L.pu hC rfl rfl (fun hg => by simp only [Gt, Bool.and_eq_true] at hg; simp only [All, List.cons_append, List.nil_append, List.append_nil, List.mem_cons, List.not_mem_nil, or_false, forall_eq_or_imp, forall_eq, Bool.and_eq_true, hg, Bool.not_false, Bool.not_true, and_self]) rfl rfl ?_; clear hC a; intro a hC
      refine L.or hC rfl rfl rfl rfl (fun _ => All.nil) (fun _ hp => by simp only [All, List.cons_append, List.nil_append, List.append_nil, List.mem_cons, List.not_mem_nil, or_false, forall_eq_or_imp, forall_eq, Bool.and_eq_true, hp, Bool.not_false, Bool.not_true, and_self]) rfl rfl ?_; clear hC a; intro a hC
      refine L.pu hC rfl rfl (fun _ => All.nil) rfl rfl ?_; clear hC a; intro a hC
      refine L.fa hC rfl rfl rfl (fun _ => All.nil) Try.underlying53 rfl Try.sizeOf3 rfl rfl rfl ?_; clear hC a; intro a hC
      refine L.ld hC rfl rfl rfl (fun hg => by simp only [Gt, Bool.and_eq_true] at hg; simp only [All, List.cons_append, List.nil_append, List.append_nil, List.mem_cons, List.not_mem_nil, or_false, forall_eq_or_imp, forall_eq, Bool.and_eq_true, hg, Bool.not_false, Bool.not_true, and_self]) m0 Try.isAgg3 rfl rfl rfl ?_; clear hC a; intro a hC
      refine L.pu hC rfl rfl (fun hg => by simp only [Gt, Bool.and_eq_true] at hg; simp only [All, List.cons_append, List.nil_append, List.append_nil, List.mem_cons, List.not_mem_nil, or_false, forall_eq_or_imp, forall_eq, Bool.and_eq_true, hg, Bool.not_false, Bool.not_true, and_self]) rfl rfl ?_; clear hC a; intro a hC
      refine L.or hC rfl rfl rfl rfl (fun _ => All.nil) (fun _ hp => by simp only [All, List.cons_append, List.nil_append, List.append_nil, List.mem_cons, List.not_mem_nil, or_false, forall_eq_or_imp, forall_eq, Bool.and_eq_true, hp, Bool.not_false, Bool.not_true, and_self]) rfl rfl ?_; clear hC a; intro a hC
      refine L.pu hC rfl rfl (fun _ => All.nil) rfl rfl ?_; clear hC a; intro a hC
      refine L.nil ?_
      refine hk16 _ _ ?_; clear hk16; try clear k16
      refine W.cond hC rfl (fun h5 => ?_) (fun h5 => ?_)
      ·
        refine W.seqk fun k17 hk17 => ?_
        refine W.region ?_
        refine L.pu hC rfl rfl (fun _ => All.nil) rfl rfl ?_; clear hC a; intro a hC
        refine L.nil ?_
        refine hk17 _ _ ?_; clear hk17; try clear k17
        refine W.ret ?_
        refine rets hC rfl (.tmp rfl .nil) ?_
        exact ⟨(by unfold ledR; rw [if_neg (nt h1), if_neg (nt h2), if_pos h5]; try rfl), hC.frm⟩
      ·
        refine W.seqk fun k18 hk18 => ?_
        refine W.drawD hC Try.mixed rfl rfl ?_
        apply DRN.cons (.det _ _) rfl
        · intro a w hC
          refine L.lda hC rfl rfl rfl (fun _ => All.nil) m0 Try.isAgg53 Try.sizeOf53 rfl rfl rfl rfl ?_; clear hC a; intro a hC
          exact L.nil ⟨⟨_, [], hC⟩, Frm.refl _ _⟩
        apply DRN.cons (.det _ _) rfl
        · intro a w hC
          refine L.lda hC rfl rfl rfl (fun _ => All.nil) m0 Try.isAgg53 Try.sizeOf53 rfl rfl rfl rfl ?_; clear hC a; intro a hC
          exact L.nil ⟨⟨_, [], hC⟩, Frm.refl _ _⟩
        apply DRN.cons (.det _ _) rfl
        · intro a w hC
          refine L.call hC rfl rfl Try.call151 rfl (fun _ => All.nil) (fun hg => used_ok _ _) rfl rfl ?_; clear hC a; intro a w hF hC
          exact L.nil ⟨⟨_, [], hC⟩, hF⟩
        apply DRN.cons (.det _ _) rfl
        · intro a w hC
          refine L.bin hC rfl rfl rfl rfl (fun _ => All.nil) (fun _ => All.nil) (fun _ => run_neS Try.underlying53 Try.stoodInHeld53 Try.eqGuardType53 ⟨⟨rfl, rfl, ⟨_, Try.underlying3⟩⟩, ⟨rfl, rfl, ⟨_, Try.underlying3⟩⟩, ⟨rfl, rfl, ⟨_, Try.underlying3⟩⟩, ⟨rfl, rfl, ⟨_, Try.underlying3⟩⟩, trivial⟩ rfl) rfl rfl ?_; clear hC a; intro a hC
          exact L.nil ⟨⟨_, [], hC⟩, Frm.refl _ _⟩
        apply DRN.cons (.det _ _) rfl
        · intro a w hC
          refine L.pu hC rfl rfl (fun _ => All.nil) rfl rfl ?_; clear hC a; intro a hC
          exact L.nil ⟨⟨_, [], hC⟩, Frm.refl _ _⟩
        refine DRN.nil (fun w' hF => ?_)
        intro a w hC hw
        subst hw
        refine hk18 _ _ ?_; clear hk18; try clear k18
        refine W.cond hC rfl (fun h6 => ?_) (fun h6 => ?_)
        ·
          have h6 : (!veqs (opE o) (opE (usedR o))) = true := h6
          refine W.seqk fun k19 hk19 => ?_
          refine W.region ?_
          refine L.pu hC rfl rfl (fun _ => All.nil) rfl rfl ?_; clear hC a; intro a hC
          refine L.nil ?_
          refine hk19 _ _ ?_; clear hk19; try clear k19
          refine W.ret ?_
          refine rets hC rfl (.tmp rfl .nil) ?_
          exact ⟨(by unfold ledR; rw [if_neg (nt h1), if_neg (nt h2), if_neg (nt h5), if_pos h6]; try rfl), hC.frm⟩
        ·
          have h6 : (!veqs (opE o) (opE (usedR o))) = false := h6
          refine W.skip ?_
          refine hk15 _ _ ?_; clear hk15; try clear k15
          refine W.seqk fun k20 hk20 => ?_
          refine W.region ?_
          refine L.pu hC rfl rfl (fun _ => All.nil) rfl rfl ?_; clear hC a; intro a hC
          refine L.nil ?_
          refine hk20 _ _ ?_; clear hk20; try clear k20
          refine W.ret ?_
          refine rets hC rfl (.tmp rfl .nil) ?_
          exact ⟨(by unfold ledR; rw [if_neg (nt h1), if_neg (nt h2), if_neg (nt h5), if_neg (nt h6)]; try rfl), hC.frm⟩

theorem boc_ok (s : Bo) (w0 : World) : Calls Try.prog 90 #[.agg (boE s).toArray] w0 fun e w' => e = .returned (.int .i64 (boR s)) ∧ Frm Nob w0 w' := by
  refine enter (μ := []) (S := Nob) (vs := [.agg (boE s).toArray]) Try.func90 rfl Try.ntmps90 rfl (Mem.nil _) (by simp) (fun a hC => ?_)
  refine W.seqk fun k1 hk1 => ?_
  refine W.region ?_
  refine L.box hC rfl rfl rfl rfl rfl rfl ?_; clear hC a; intro bb a w hF hC
  refine L.pu hC rfl rfl (fun _ => All.nil) rfl rfl ?_; clear hC a; intro a hC
  refine L.nil ?_
  refine hk1 _ _ ?_; clear hk1; try clear k1
  refine W.seqk fun k2 hk2 => ?_
  refine W.seqk fun k3 hk3 => ?_
  refine W.region ?_
  refine L.fa hC rfl rfl rfl (fun _ => All.nil) Try.underlying58 rfl Try.sizeOf3 rfl rfl rfl ?_; clear hC a; intro a hC
  refine L.ld hC rfl rfl rfl (fun _ => All.nil) m0 Try.isAgg3 rfl rfl rfl ?_; clear hC a; intro a hC
  refine L.pu hC rfl rfl (fun _ => All.nil) rfl rfl ?_; clear hC a; intro a hC
  refine L.pu hC rfl rfl (fun _ => All.nil) rfl rfl ?_; clear hC a; intro a hC
  refine L.fa hC rfl rfl rfl (fun _ => All.nil) Try.underlying58 rfl Try.sizeOf3 rfl rfl rfl ?_; clear hC a; intro a hC
  refine L.ld hC rfl rfl rfl (fun hg => by simp only [Gt, Bool.and_eq_true] at hg; simp only [All, List.cons_append, List.nil_append, List.append_nil, List.mem_cons, List.not_mem_nil, or_false, forall_eq_or_imp, forall_eq, Bool.and_eq_true, hg, Bool.not_false, Bool.not_true, and_self]) m0 Try.isAgg3 rfl rfl rfl ?_; clear hC a; intro a hC
  refine L.pu hC rfl rfl (fun hg => by simp only [Gt, Bool.and_eq_true] at hg; simp only [All, List.cons_append, List.nil_append, List.append_nil, List.mem_cons, List.not_mem_nil, or_false, forall_eq_or_imp, forall_eq, Bool.and_eq_true, hg, Bool.not_false, Bool.not_true, and_self]) rfl rfl ?_; clear hC a; intro a hC
  refine L.or hC rfl rfl rfl rfl (fun _ => All.nil) (fun _ hp => by simp only [All, List.cons_append, List.nil_append, List.append_nil, List.mem_cons, List.not_mem_nil, or_false, forall_eq_or_imp, forall_eq, Bool.and_eq_true, hp, Bool.not_false, Bool.not_true, and_self]) rfl rfl ?_; clear hC a; intro a hC
  refine L.pu hC rfl rfl (fun _ => All.nil) rfl rfl ?_; clear hC a; intro a hC
  refine L.fa hC rfl rfl rfl (fun _ => All.nil) Try.underlying58 rfl Try.sizeOf3 rfl rfl rfl ?_; clear hC a; intro a hC
  refine L.ld hC rfl rfl rfl (fun hg => by simp only [Gt, Bool.and_eq_true] at hg; simp only [All, List.cons_append, List.nil_append, List.append_nil, List.mem_cons, List.not_mem_nil, or_false, forall_eq_or_imp, forall_eq, Bool.and_eq_true, hg, Bool.not_false, Bool.not_true, and_self]) m0 Try.isAgg3 rfl rfl rfl ?_; clear hC a; intro a hC
  refine L.fa hC rfl rfl rfl (fun _ => All.nil) Try.underlying58 rfl Try.sizeOf3 rfl rfl rfl ?_; clear hC a; intro a hC
  refine L.ld hC rfl rfl rfl (fun hg => by simp only [Gt, Bool.and_eq_true] at hg; simp only [All, List.cons_append, List.nil_append, List.append_nil, List.mem_cons, List.not_mem_nil, or_false, forall_eq_or_imp, forall_eq, Bool.and_eq_true, hg, Bool.not_false, Bool.not_true, and_self]) m0 Try.isAgg3 rfl rfl rfl ?_; clear hC a; intro a hC
  refine L.pu hC rfl rfl (fun hg => by simp only [Gt, Bool.and_eq_true] at hg; simp only [All, List.cons_append, List.nil_append, List.append_nil, List.mem_cons, List.not_mem_nil, or_false, forall_eq_or_imp, forall_eq, Bool.and_eq_true, hg, Bool.not_false, Bool.not_true, and_self]) rfl rfl ?_; clear hC a; intro a hC
  refine L.or hC rfl rfl rfl rfl (fun _ => All.nil) (fun _ hp => by simp only [All, List.cons_append, List.nil_append, List.append_nil, List.mem_cons, List.not_mem_nil, or_false, forall_eq_or_imp, forall_eq, Bool.and_eq_true, hp, Bool.not_false, Bool.not_true, and_self]) rfl rfl ?_; clear hC a; intro a hC
  refine L.pu hC rfl rfl (fun _ => All.nil) rfl rfl ?_; clear hC a; intro a hC
  refine L.fa hC rfl rfl rfl (fun _ => All.nil) Try.underlying58 rfl Try.sizeOf3 rfl rfl rfl ?_; clear hC a; intro a hC
  refine L.ld hC rfl rfl rfl (fun hg => by simp only [Gt, Bool.and_eq_true] at hg; simp only [All, List.cons_append, List.nil_append, List.append_nil, List.mem_cons, List.not_mem_nil, or_false, forall_eq_or_imp, forall_eq, Bool.and_eq_true, hg, Bool.not_false, Bool.not_true, and_self]) m0 Try.isAgg3 rfl rfl rfl ?_; clear hC a; intro a hC
  refine L.pu hC rfl rfl (fun hg => by simp only [Gt, Bool.and_eq_true] at hg; simp only [All, List.cons_append, List.nil_append, List.append_nil, List.mem_cons, List.not_mem_nil, or_false, forall_eq_or_imp, forall_eq, Bool.and_eq_true, hg, Bool.not_false, Bool.not_true, and_self]) rfl rfl ?_; clear hC a; intro a hC
  refine L.or hC rfl rfl rfl rfl (fun _ => All.nil) (fun _ hp => by simp only [All, List.cons_append, List.nil_append, List.append_nil, List.mem_cons, List.not_mem_nil, or_false, forall_eq_or_imp, forall_eq, Bool.and_eq_true, hp, Bool.not_false, Bool.not_true, and_self]) rfl rfl ?_; clear hC a; intro a hC
  refine L.pu hC rfl rfl (fun _ => All.nil) rfl rfl ?_; clear hC a; intro a hC
  refine L.fa hC rfl rfl rfl (fun _ => All.nil) Try.underlying58 rfl Try.sizeOf3 rfl rfl rfl ?_; clear hC a; intro a hC
  refine L.ld hC rfl rfl rfl (fun hg => by simp only [Gt, Bool.and_eq_true] at hg; simp only [All, List.cons_append, List.nil_append, List.append_nil, List.mem_cons, List.not_mem_nil, or_false, forall_eq_or_imp, forall_eq, Bool.and_eq_true, hg, Bool.not_false, Bool.not_true, and_self]) m0 Try.isAgg3 rfl rfl rfl ?_; clear hC a; intro a hC
  refine L.pu hC rfl rfl (fun hg => by simp only [Gt, Bool.and_eq_true] at hg; simp only [All, List.cons_append, List.nil_append, List.append_nil, List.mem_cons, List.not_mem_nil, or_false, forall_eq_or_imp, forall_eq, Bool.and_eq_true, hg, Bool.not_false, Bool.not_true, and_self]) rfl rfl ?_; clear hC a; intro a hC
  refine L.or hC rfl rfl rfl rfl (fun _ => All.nil) (fun _ hp => by simp only [All, List.cons_append, List.nil_append, List.append_nil, List.mem_cons, List.not_mem_nil, or_false, forall_eq_or_imp, forall_eq, Bool.and_eq_true, hp, Bool.not_false, Bool.not_true, and_self]) rfl rfl ?_; clear hC a; intro a hC
  refine L.pu hC rfl rfl (fun _ => All.nil) rfl rfl ?_; clear hC a; intro a hC
  refine L.fa hC rfl rfl rfl (fun _ => All.nil) Try.underlying58 rfl Try.sizeOf3 rfl rfl rfl ?_; clear hC a; intro a hC
  refine L.ld hC rfl rfl rfl (fun hg => by simp only [Gt, Bool.and_eq_true] at hg; simp only [All, List.cons_append, List.nil_append, List.append_nil, List.mem_cons, List.not_mem_nil, or_false, forall_eq_or_imp, forall_eq, Bool.and_eq_true, hg, Bool.not_false, Bool.not_true, and_self]) m0 Try.isAgg3 rfl rfl rfl ?_; clear hC a; intro a hC
  refine L.pu hC rfl rfl (fun hg => by simp only [Gt, Bool.and_eq_true] at hg; simp only [All, List.cons_append, List.nil_append, List.append_nil, List.mem_cons, List.not_mem_nil, or_false, forall_eq_or_imp, forall_eq, Bool.and_eq_true, hg, Bool.not_false, Bool.not_true, and_self]) rfl rfl ?_; clear hC a; intro a hC
  refine L.or hC rfl rfl rfl rfl (fun _ => All.nil) (fun _ hp => by simp only [All, List.cons_append, List.nil_append, List.append_nil, List.mem_cons, List.not_mem_nil, or_false, forall_eq_or_imp, forall_eq, Bool.and_eq_true, hp, Bool.not_false, Bool.not_true, and_self]) rfl rfl ?_; clear hC a; intro a hC
  refine L.nil ?_
  refine hk3 _ _ ?_; clear hk3; try clear k3
  refine W.cond hC rfl (fun h1 => ?_) (fun h1 => ?_)
  ·
    refine W.seqk fun k4 hk4 => ?_
    refine W.region ?_
    refine L.pu hC rfl rfl (fun _ => All.nil) rfl rfl ?_; clear hC a; intro a hC
    refine L.nil ?_
    refine hk4 _ _ ?_; clear hk4; try clear k4
    refine W.ret ?_
    refine rets hC rfl (.tmp rfl .nil) ?_
    exact ⟨(by unfold boR; rw [if_pos h1]; try rfl), hC.frm⟩
  ·
    refine W.skip ?_
    refine hk2 _ _ ?_; clear hk2; try clear k2
    refine W.seqk fun k5 hk5 => ?_
    refine W.region ?_
    refine L.pu hC rfl rfl (fun _ => All.nil) rfl rfl ?_; clear hC a; intro a hC
    refine L.nil ?_
    refine hk5 _ _ ?_; clear hk5; try clear k5
    refine W.ret ?_
    refine rets hC rfl (.tmp rfl .nil) ?_
    exact ⟨(by unfold boR; rw [if_neg (nt h1)]; try rfl), hC.frm⟩

theorem sets27_ok (s : CSet) (w0 : World) : Calls Try.prog 40 #[.agg (csE s).toArray] w0 fun e w' => e = .returned (.int .i64 (setR s)) ∧ Frm Nob w0 w' := by
  refine enter (μ := []) (S := Nob) (vs := [.agg (csE s).toArray]) Try.func40 rfl Try.ntmps40 rfl (Mem.nil _) (by simp) (fun a hC => ?_)
  refine W.seqk fun k1 hk1 => ?_
  refine W.region ?_
  refine L.box hC rfl rfl rfl rfl rfl rfl ?_; clear hC a; intro sb a w hF hC
  refine L.pu hC rfl rfl (fun _ => All.nil) rfl rfl ?_; clear hC a; intro a hC
  refine L.nil ?_
  refine hk1 _ _ ?_; clear hk1; try clear k1
  refine W.seqk fun k2 hk2 => ?_
  refine W.seqk fun k3 hk3 => ?_
  refine W.region ?_
  refine L.fa hC rfl rfl rfl (fun _ => All.nil) Try.underlying60 rfl Try.sizeOf3 rfl rfl rfl ?_; clear hC a; intro a hC
  refine L.ld hC rfl rfl rfl (fun _ => All.nil) m0 Try.isAgg3 rfl rfl rfl ?_; clear hC a; intro a hC
  refine L.litsP hC rfl rfl rfl (fun _ => All.nil) Try.underlying37 Try.infoI3 rfl rfl rfl rfl rfl rfl rfl rfl ?_; clear hC a; intro a w v2 hF hC
  refine L.call hC rfl rfl Try.call79 rfl (fun _ => All.nil) (fun hg => in27_ok _ _ _ _ _ (hC.at m0 hg)) rfl rfl ?_; clear hC a; intro a w hF hC
  refine L.pu hC rfl rfl (fun _ => All.nil) rfl rfl ?_; clear hC a; intro a hC
  refine L.pu hC rfl rfl (fun _ => All.nil) rfl rfl ?_; clear hC a; intro a hC
  refine L.fa hC rfl rfl rfl (fun _ => All.nil) Try.underlying60 rfl Try.sizeOf3 rfl rfl rfl ?_; clear hC a; intro a hC
  refine L.ld hC rfl rfl rfl (fun hg => by simp only [Gt, Bool.and_eq_true] at hg; simp only [All, List.cons_append, List.nil_append, List.append_nil, List.mem_cons, List.not_mem_nil, or_false, forall_eq_or_imp, forall_eq, Bool.and_eq_true, hg, Bool.not_false, Bool.not_true, and_self]) m1 Try.isAgg3 rfl rfl rfl ?_; clear hC a; intro a hC
  refine L.litsP hC rfl rfl rfl (fun hg => by simp only [Gt, Bool.and_eq_true] at hg; simp only [All, List.cons_append, List.nil_append, List.append_nil, List.mem_cons, List.not_mem_nil, or_false, forall_eq_or_imp, forall_eq, Bool.and_eq_true, hg, Bool.not_false, Bool.not_true, and_self]) Try.underlying37 Try.infoI3 rfl rfl rfl rfl rfl rfl rfl rfl ?_; clear hC a; intro a w v8 hF hC
  refine L.call hC rfl rfl Try.call79 rfl (fun hg => by simp only [Gt, Bool.and_eq_true] at hg; simp only [All, List.cons_append, List.nil_append, List.append_nil, List.mem_cons, List.not_mem_nil, or_false, forall_eq_or_imp, forall_eq, Bool.and_eq_true, hg, Bool.not_false, Bool.not_true, and_self]) (fun hg => in27_ok _ _ _ _ _ (hC.at m0 hg)) rfl rfl ?_; clear hC a; intro a w hF hC
  refine L.pu hC rfl rfl (fun hg => by simp only [Gt, Bool.and_eq_true] at hg; simp only [All, List.cons_append, List.nil_append, List.append_nil, List.mem_cons, List.not_mem_nil, or_false, forall_eq_or_imp, forall_eq, Bool.and_eq_true, hg, Bool.not_false, Bool.not_true, and_self]) rfl rfl ?_; clear hC a; intro a hC
  refine L.or hC rfl rfl rfl rfl (fun _ => All.nil) (fun _ hp => by simp only [All, List.cons_append, List.nil_append, List.append_nil, List.mem_cons, List.not_mem_nil, or_false, forall_eq_or_imp, forall_eq, Bool.and_eq_true, hp, Bool.not_false, Bool.not_true, and_self]) rfl rfl ?_; clear hC a; intro a hC
  refine L.pu hC rfl rfl (fun _ => All.nil) rfl rfl ?_; clear hC a; intro a hC
  refine L.fa hC rfl rfl rfl (fun _ => All.nil) Try.underlying60 rfl Try.sizeOf3 rfl rfl rfl ?_; clear hC a; intro a hC
  refine L.ld hC rfl rfl rfl (fun hg => by simp only [Gt, Bool.and_eq_true] at hg; simp only [All, List.cons_append, List.nil_append, List.append_nil, List.mem_cons, List.not_mem_nil, or_false, forall_eq_or_imp, forall_eq, Bool.and_eq_true, hg, Bool.not_false, Bool.not_true, and_self]) m2 Try.isAgg3 rfl rfl rfl ?_; clear hC a; intro a hC
  refine L.fa hC rfl rfl rfl (fun _ => All.nil) Try.underlying60 rfl Try.sizeOf3 rfl rfl rfl ?_; clear hC a; intro a hC
  refine L.ld hC rfl rfl rfl (fun hg => by simp only [Gt, Bool.and_eq_true] at hg; simp only [All, List.cons_append, List.nil_append, List.append_nil, List.mem_cons, List.not_mem_nil, or_false, forall_eq_or_imp, forall_eq, Bool.and_eq_true, hg, Bool.not_false, Bool.not_true, and_self]) m2 Try.isAgg3 rfl rfl rfl ?_; clear hC a; intro a hC
  refine L.litsP hC rfl rfl rfl (fun hg => by simp only [Gt, Bool.and_eq_true] at hg; simp only [All, List.cons_append, List.nil_append, List.append_nil, List.mem_cons, List.not_mem_nil, or_false, forall_eq_or_imp, forall_eq, Bool.and_eq_true, hg, Bool.not_false, Bool.not_true, and_self]) Try.underlying37 Try.infoI3 rfl rfl rfl rfl rfl rfl rfl rfl ?_; clear hC a; intro a w v17 hF hC
  refine L.call hC rfl rfl Try.call79 rfl (fun hg => by simp only [Gt, Bool.and_eq_true] at hg; simp only [All, List.cons_append, List.nil_append, List.append_nil, List.mem_cons, List.not_mem_nil, or_false, forall_eq_or_imp, forall_eq, Bool.and_eq_true, hg, Bool.not_false, Bool.not_true, and_self]) (fun hg => in27_ok _ _ _ _ _ (hC.at m0 hg)) rfl rfl ?_; clear hC a; intro a w hF hC
  refine L.pu hC rfl rfl (fun hg => by simp only [Gt, Bool.and_eq_true] at hg; simp only [All, List.cons_append, List.nil_append, List.append_nil, List.mem_cons, List.not_mem_nil, or_false, forall_eq_or_imp, forall_eq, Bool.and_eq_true, hg, Bool.not_false, Bool.not_true, and_self]) rfl rfl ?_; clear hC a; intro a hC
  refine L.or hC rfl rfl rfl rfl (fun _ => All.nil) (fun _ hp => by simp only [All, List.cons_append, List.nil_append, List.append_nil, List.mem_cons, List.not_mem_nil, or_false, forall_eq_or_imp, forall_eq, Bool.and_eq_true, hp, Bool.not_false, Bool.not_true, and_self]) rfl rfl ?_; clear hC a; intro a hC
  refine L.pu hC rfl rfl (fun _ => All.nil) rfl rfl ?_; clear hC a; intro a hC
  refine L.fa hC rfl rfl rfl (fun _ => All.nil) Try.underlying60 rfl Try.sizeOf3 rfl rfl rfl ?_; clear hC a; intro a hC
  refine L.ld hC rfl rfl rfl (fun hg => by simp only [Gt, Bool.and_eq_true] at hg; simp only [All, List.cons_append, List.nil_append, List.append_nil, List.mem_cons, List.not_mem_nil, or_false, forall_eq_or_imp, forall_eq, Bool.and_eq_true, hg, Bool.not_false, Bool.not_true, and_self]) m3 Try.isAgg3 rfl rfl rfl ?_; clear hC a; intro a hC
  refine L.litsP hC rfl rfl rfl (fun hg => by simp only [Gt, Bool.and_eq_true] at hg; simp only [All, List.cons_append, List.nil_append, List.append_nil, List.mem_cons, List.not_mem_nil, or_false, forall_eq_or_imp, forall_eq, Bool.and_eq_true, hg, Bool.not_false, Bool.not_true, and_self]) Try.underlying37 Try.infoI3 rfl rfl rfl rfl rfl rfl rfl rfl ?_; clear hC a; intro a w v24 hF hC
  refine L.call hC rfl rfl Try.call79 rfl (fun hg => by simp only [Gt, Bool.and_eq_true] at hg; simp only [All, List.cons_append, List.nil_append, List.append_nil, List.mem_cons, List.not_mem_nil, or_false, forall_eq_or_imp, forall_eq, Bool.and_eq_true, hg, Bool.not_false, Bool.not_true, and_self]) (fun hg => in27_ok _ _ _ _ _ (hC.at m0 hg)) rfl rfl ?_; clear hC a; intro a w hF hC
  refine L.pu hC rfl rfl (fun hg => by simp only [Gt, Bool.and_eq_true] at hg; simp only [All, List.cons_append, List.nil_append, List.append_nil, List.mem_cons, List.not_mem_nil, or_false, forall_eq_or_imp, forall_eq, Bool.and_eq_true, hg, Bool.not_false, Bool.not_true, and_self]) rfl rfl ?_; clear hC a; intro a hC
  refine L.or hC rfl rfl rfl rfl (fun _ => All.nil) (fun _ hp => by simp only [All, List.cons_append, List.nil_append, List.append_nil, List.mem_cons, List.not_mem_nil, or_false, forall_eq_or_imp, forall_eq, Bool.and_eq_true, hp, Bool.not_false, Bool.not_true, and_self]) rfl rfl ?_; clear hC a; intro a hC
  refine L.nil ?_
  refine hk3 _ _ ?_; clear hk3; try clear k3
  refine W.cond hC rfl (fun h1 => ?_) (fun h1 => ?_)
  ·
    refine W.seqk fun k4 hk4 => ?_
    refine W.region ?_
    refine L.pu hC rfl rfl (fun _ => All.nil) rfl rfl ?_; clear hC a; intro a hC
    refine L.nil ?_
    refine hk4 _ _ ?_; clear hk4; try clear k4
    refine W.ret ?_
    refine rets hC rfl (.tmp rfl .nil) ?_
    exact ⟨(by unfold setR; rw [if_pos h1]; try rfl), hC.frm⟩
  ·
    refine W.skip ?_
    refine hk2 _ _ ?_; clear hk2; try clear k2
    refine W.seqk fun k5 hk5 => ?_
    refine W.region ?_
    refine L.fa hC rfl rfl rfl (fun _ => All.nil) Try.underlying60 rfl Try.sizeOf58 rfl rfl rfl ?_; clear hC a; intro a hC
    refine L.lda hC rfl rfl rfl (fun _ => All.nil) m4 Try.isAgg58 Try.sizeOf58 rfl rfl rfl rfl ?_; clear hC a; intro a hC
    refine L.call hC rfl rfl Try.call90 rfl (fun _ => All.nil) (fun hg => boc_ok s.bo _) rfl rfl ?_; clear hC a; intro a w hF hC
    refine L.pu hC rfl rfl (fun _ => All.nil) rfl rfl ?_; clear hC a; intro a hC
    refine L.nil ?_
    refine hk5 _ _ ?_; clear hk5; try clear k5
    refine W.ret ?_
    refine rets hC rfl (.tmp rfl .nil) ?_
    exact ⟨(by unfold setR; rw [if_neg (nt h1)]; try rfl), hC.frm⟩

theorem pin_ok (x : Att) (w0 : World) : Calls Try.prog 155 #[.agg (attE.enc x).toArray] w0 fun e w' => e = .returned (.agg (pinE x).toArray) ∧ Frm Nob w0 w' := by
  refine enter (μ := []) (S := Nob) (vs := [.agg (attE.enc x).toArray]) Try.func155 rfl Try.ntmps155 rfl (Mem.nil _) (by simp) (fun a hC => ?_)
  refine W.seqk fun k1 hk1 => ?_
  refine W.region ?_
  refine L.box hC rfl rfl rfl rfl rfl rfl ?_; clear hC a; intro ab a w hF hC
  refine L.alloc hC rfl rfl Try.zeroValue222 rfl rfl rfl ?_; clear hC a; intro rb a w hF hC
  refine L.nil ?_
  refine hk1 _ _ ?_; clear hk1; try clear k1
  refine W.seqk fun k2 hk2 => ?_
  refine W.region ?_
  refine L.fa hC rfl rfl rfl (fun _ => All.nil) Try.underlying65 rfl Try.sizeOf3 rfl rfl rfl ?_; clear hC a; intro a hC
  refine L.ld hC rfl rfl rfl (fun _ => All.nil) m1 Try.isAgg3 rfl rfl rfl ?_; clear hC a; intro a hC
  refine L.fa hC rfl rfl rfl (fun _ => All.nil) Try.underlying65 rfl Try.sizeOf3 rfl rfl rfl ?_; clear hC a; intro a hC
  refine L.ld hC rfl rfl rfl (fun _ => All.nil) m1 Try.isAgg3 rfl rfl rfl ?_; clear hC a; intro a hC
  refine L.fa hC rfl rfl rfl (fun _ => All.nil) Try.underlying65 rfl Try.sizeOf3 rfl rfl rfl ?_; clear hC a; intro a hC
  refine L.ld hC rfl rfl rfl (fun _ => All.nil) m1 Try.isAgg3 rfl rfl rfl ?_; clear hC a; intro a hC
  refine L.fa hC rfl rfl rfl (fun _ => All.nil) Try.underlying65 rfl Try.sizeOf3 rfl rfl rfl ?_; clear hC a; intro a hC
  refine L.ld hC rfl rfl rfl (fun _ => All.nil) m1 Try.isAgg3 rfl rfl rfl ?_; clear hC a; intro a hC
  refine L.buildS (ps := [(0, 1), (1, 1), (2, 1), (3, 1)]) hC rfl rfl rfl (fun _ => All.nil) Try.zeroValue222 Try.underlying222 ⟨⟨rfl, Try.sizeOf3⟩, ⟨rfl, Try.sizeOf3⟩, ⟨rfl, Try.sizeOf3⟩, ⟨rfl, Try.sizeOf3⟩, trivial⟩ rfl rfl rfl ?_; clear hC a; intro a hC
  refine L.st hC rfl rfl rfl rfl Try.sizeOf222 rfl rfl rfl rfl rfl ?_; clear hC a; intro a w hF hC
  refine L.nil ?_
  refine hk2 _ _ ?_; clear hk2; try clear k2
  refine W.ret ?_
  refine rets hC rfl (.agg rfl m0 Try.isAgg222 Try.sizeOf222 rfl .nil) ?_
  refine ⟨?_, hC.frm⟩
  rfl

end Go.Proofs.E
