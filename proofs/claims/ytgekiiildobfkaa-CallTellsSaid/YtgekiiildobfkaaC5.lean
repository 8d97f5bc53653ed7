/- Slow attempts, and attempts that are over. -/
import Derived.Test.YtgekiiildobfkaaC4
set_option linter.unusedVariables false
set_option linter.unusedSimpArgs false
namespace Go.Proofs.E
open Go.RowKit
def slowP (s : CSet) (tick : Int) (p : Nat × Att) : Bool := decide (IntKind.i64.wrap (p.2.at' + s.tmo) ≤ tick)
def slowN (s : CSet) (l : List Att) (tick : Int) (i : Nat) : List Int := (((outsP 0 l).take i).filter (slowP s tick)).map fun p => (p.1 : Int)
def slowR (s : CSet) (l : List Att) (tick : Int) : List Int := ((outsP 0 l).filter (slowP s tick)).map fun p => (p.1 : Int)
def slowT (c : CallH) (s : CSet) (l : List Att) (tick : Int) : List Int × Int := if (chkA c s l != 0) = true then ([], chkA c s l) else (slowR s l tick, 0)
theorem slowN_len (s : CSet) (l : List Att) (tick : Int) (i : Nat) : (slowN s l tick i).length ≤ i := by
  unfold slowN
  rw [List.length_map]
  have h1 := List.length_filter_le (slowP s tick) ((outsP 0 l).take i)
  rw [List.length_take] at h1
  omega
theorem slow_no {s : CSet} {l : List Att} {tick : Int} {i : Nat} (hi : i < (outsP 0 l).length) (h : decide (IntKind.i64.wrap ((outsP 0 l)[i]!.2.at' + s.tmo) ≤ tick) = false) : slowN s l tick (i + 1) = slowN s l tick i := by
  unfold slowN
  rw [take_one hi, List.filter_append, List.filter_cons_of_neg (by unfold slowP; rw [h]; simp), List.filter_nil, List.append_nil]
theorem slow_yes {s : CSet} {l : List Att} {tick : Int} {i : Nat} (hi : i < (outsP 0 l).length) (h : decide (IntKind.i64.wrap ((outsP 0 l)[i]!.2.at' + s.tmo) ≤ tick) = true) : slowN s l tick (i + 1) = slowN s l tick i ++ [((outsP 0 l)[i]!.1 : Int)] := by
  unfold slowN
  rw [take_one hi, List.filter_append, List.filter_cons_of_pos (by unfold slowP; exact h), List.filter_nil, List.map_append]
  rfl
theorem slow_all (s : CSet) (l : List Att) (tick : Int) : slowN s l tick (outsE l).length = slowR s l tick := by
  unfold slowN slowR
  have h1 : (outsE l).length = (outsP 0 l).length := by simp [outsE]
  rw [h1, List.take_length]
theorem Slow_ok (c : CallH) (v : Value) (s : CSet) (l : List Att) (tick : Int) (w0 : World) (hr : (rdR v attE l).ok w0) : Calls Try.prog 27 #[.agg (callE c v).toArray, .agg (csE s).toArray, .int .i64 tick] w0 fun e w' => ∃ r : Value, e = .returned (.tuple #[r, .int .i64 (slowT c s l tick).2]) ∧ True ∧ Post Nob [ownR r 3 intE (slowT c s l tick).1] w0 w' := by
  obtain ⟨vA, vc, hv, _, _⟩ := id hr
  subst hv
  have hlen := rd_lt hr
  have hol := outs_le l
  refine (callsIn_wide (n := 0)).1 ?_
  show CallsIn (FR none) 0 _ _ _ _ _
  refine enterI (μ := [rdR (.slice vA l.length vc) attE l]) (S := Nob) (vs := [.agg (callE c (.slice vA l.length vc)).toArray, .agg (csE s).toArray, .int .i64 tick]) Try.func27 rfl Try.ntmps27 rfl ⟨by simpa using hr, by simp⟩ (by simp [rdR]) (fun a hC => ?_)
  refine WI.seqk fun k1 hk1 => ?_
  refine WI.reg rfl ?_
  refine L.box hC rfl rfl rfl rfl rfl rfl ?_; clear hC a; intro cb a w hF hC
  refine L.box hC rfl rfl rfl rfl rfl rfl ?_; clear hC a; intro sb a w hF hC
  refine L.box hC rfl rfl rfl rfl rfl rfl ?_; clear hC a; intro tb a w hF hC
  refine L.pu hC rfl rfl (fun _ => All.nil) rfl rfl ?_; clear hC a; intro a hC
  refine L.pu hC rfl rfl (fun _ => All.nil) rfl rfl ?_; clear hC a; intro a hC
  refine L.nil ⟨hC.env.defers, ?_⟩
  refine hk1 _ _ _ ?_; clear hk1; try clear k1
  refine WI.seqk fun k2 hk2 => ?_
  refine WI.reg rfl ?_
  refine L.lda hC rfl rfl rfl (fun _ => All.nil) m2 Try.isAgg56 Try.sizeOf56 rfl rfl rfl rfl ?_; clear hC a; intro a hC
  refine L.lda hC rfl rfl rfl (fun _ => All.nil) m1 Try.isAgg60 Try.sizeOf60 rfl rfl rfl rfl ?_; clear hC a; intro a hC
  refine L.callg [] hC rfl rfl Try.call77 rfl (ask27_ok c _ s l _ (hC.at m3)) (fun b h => h.elim) rfl rfl ?_; clear hC a; intro ⟨xb, av⟩ a w hQ hC
  dsimp only at hC
  refine L.pu hC rfl rfl (fun _ => All.nil) rfl rfl ?_; clear hC a; intro a hC
  refine L.pu hC rfl rfl (fun _ => All.nil) rfl rfl ?_; clear hC a; intro a hC
  refine L.pu hC rfl rfl (fun _ => All.nil) rfl rfl ?_; clear hC a; intro a hC
  refine L.pu hC rfl rfl (fun _ => All.nil) rfl rfl ?_; clear hC a; intro a hC
  refine L.pu hC rfl rfl (fun _ => All.nil) rfl rfl ?_; clear hC a; intro a hC
  refine L.nil ⟨hC.env.defers, ?_⟩
  refine hk2 _ _ _ ?_; clear hk2; try clear k2
  refine WI.seqk fun k3 hk3 => ?_
  refine WI.seqk fun k4 hk4 => ?_
  refine WI.reg rfl ?_
  refine L.pu hC rfl rfl (fun _ => All.nil) rfl rfl ?_; clear hC a; intro a hC
  refine L.pu hC rfl rfl (fun _ => All.nil) rfl rfl ?_; clear hC a; intro a hC
  refine L.nil ⟨hC.env.defers, ?_⟩
  refine hk4 _ _ _ ?_; clear hk4; try clear k4
  refine WI.cond hC rfl (fun h1 => ?_) (fun h1 => ?_)
  ·
    refine WI.seqk fun k5 hk5 => ?_
    refine WI.reg rfl ?_
    refine L.pu hC rfl rfl (fun _ => All.nil) rfl rfl ?_; clear hC a; intro a hC
    refine L.pu hC rfl rfl (fun _ => All.nil) rfl rfl ?_; clear hC a; intro a hC
    refine L.pu hC rfl rfl (fun _ => All.nil) rfl rfl ?_; clear hC a; intro a hC
    refine L.nil ⟨hC.env.defers, ?_⟩
    refine hk5 _ _ _ ?_; clear hk5; try clear k5
    refine WI.ret hC.env.defers ?_
    refine leave0 ?_
    refine retl hC rfl (.tmp rfl (.tmp rfl .nil)) rfl ?_
    replace hC := (hC.drop).nilown (ty := 3) (E := intE)
    exact ⟨_, (by unfold slowT; rw [if_pos h1]), trivial, by unfold slowT; rw [if_pos h1]; exact hC.toPost (by simp [ownR])⟩
  ·
    rw [okD_yes h1, okD_yes h1, okD_yes h1] at hC
    have h16 := chkA_len (c := c) (s := s) (l := l) (by simpa using h1)
    refine WI.skip hC.env.defers ?_
    refine hk3 _ _ _ ?_; clear hk3; try clear k3
    refine WI.seqk fun k6 hk6 => ?_
    refine WI.reg rfl ?_
    refine L.alloc hC rfl rfl Try.zeroValue37 rfl rfl rfl ?_; clear hC a; intro lb a w hF hC
    refine L.nil ⟨hC.env.defers, ?_⟩
    refine hk6 _ _ _ ?_; clear hk6; try clear k6
    refine WI.seqk fun k7 hk7 => ?_
    refine WI.seqk fun k8 hk8 => ?_
    refine WI.reg rfl ?_
    refine L.pu hC rfl rfl (fun _ => All.nil) rfl rfl ?_; clear hC a; intro a hC
    refine L.callg [] hC rfl rfl Try.call78 rfl (out_ok xb _) (fun b h => h.elim) rfl rfl ?_; clear hC a; intro ob a w hQ hC
    refine L.nil ⟨hC.env.defers, ?_⟩
    refine hk8 _ _ _ ?_; clear hk8; try clear k8
    refine WI.block ?_
    replace hC := hC.nilown (ty := 3) (E := intE)
    skip
    replace hC := hC.subl (.cons_cons _ (.cons_cons _ (.cons_cons _ (.cons_cons _ (.cons_cons _ (.cons_cons _ (.cons_cons _ (.cons _ (.cons _ .slnil)))))))))
    replace hC := hC.fr6
    replace hC := hC.fr6
    replace hC := hC.fr6
    replace hC := hC.fr6
    replace hC := hC.fr5
    replace hC := hC.fr6
    replace hC := hC.fr6
    refine WI.range (Y := Nat) (Z := Empty) (fun i (x : Value) => [ownR x 3 intE (slowN s l tick i), blkR lb [x] 37, blkR ob [.pointer (some ⟨xb, 0, none⟩)] 136, blkR xb (askE c av s) 143, ownR av 65 attE l, blkR tb [.int .i64 tick] 3, blkR sb (csE s) 60]) (fun _ _ => True) (fun i _ y => [(12, (none, .pointer (some ⟨y, 0, none⟩))), (11, (none, .int .i64 ((outsP 0 l)[i]!.1 : Int))), (10, (none, .pointer (some ⟨lb, 0, none⟩))), (5, (none, .pointer (some ⟨tb, 0, none⟩))), (4, (none, .pointer (some ⟨sb, 0, none⟩)))]) (fun i (x : Value) y => [blkR y (attE.enc (outsP 0 l)[i]!.2) 65, ownR x 3 intE (slowN s l tick i), blkR lb [x] 37, blkR ob [.pointer (some ⟨xb, 0, none⟩)] 136, blkR xb (askE c av s) 143, ownR av 65 attE l, blkR tb [.int .i64 tick] 3, blkR sb (csE s) 60]) (fun _ z => nomatch z) (.slice none 0 0) hC trivial rfl Try.call122 (out_iter xb ob c av s l) (fun i x W hm => Mem.ro3 (ro_of (hm.at m2)) (ro_of (hm.at m3)) (own_rd (hm.at m4))) (outs_two l) (by decide) ?_ ?_ ?_ ?_
    · intro i x yl S' W a R hi hq hC
      have hxe := outs_get hi
      rw [hxe] at hC
      replace hC : Conf 38 S' W (pars [24, 25] [.int .i64 ((outsP 0 l)[i]!.1 : Int), .agg (attE.enc (outsP 0 l)[i]!.2).toArray] _) [ownR x 3 intE (slowN s l tick i), blkR lb [x] 37, blkR ob [.pointer (some ⟨xb, 0, none⟩)] 136, blkR xb (askE c av s) 143, ownR av 65 attE l, blkR tb [.int .i64 tick] 3, blkR sb (csE s) 60, R] a W := hC
      refine WI.seqk fun k9 hk9 => ?_
      refine WI.reg rfl ?_
      refine L.pu hC rfl rfl (fun _ => All.nil) rfl rfl ?_; clear hC a; intro a hC
      refine L.nil ⟨hC.env.defers, ?_⟩
      refine hk9 _ _ _ ?_; clear hk9; try clear k9
      refine WI.reg rfl ?_
      refine L.alloc hC rfl rfl Try.zeroValue65 rfl rfl rfl ?_; clear hC a; intro ab a w hF hC
      refine L.st hC rfl rfl rfl rfl Try.sizeOf65 rfl rfl rfl rfl rfl ?_; clear hC a; intro a w hF hC
      refine L.nil ⟨hC.env.defers, ?_⟩
      replace hC := hC.fr8
      replace hC := hC.fr8
      replace hC := hC.fr8
      replace hC := hC.fr8
      replace hC := hC.fr8
      replace hC := hC.fr8
      replace hC := hC.fr8
      replace hC := hC.fr8
      replace hC := hC.fr8
      replace hC := hC.hd (r' := blkR ab (attE.enc (outsP 0 l)[i]!.2) 65) rfl
      exact ⟨rfl, ab, hC.keep ⟨rfl, rfl, rfl, rfl, rfl, trivial⟩⟩
    · intro i x y yl S' W W1 a R hi hq hC
      replace hC : Conf 38 S' W [(12, (none, .pointer (some ⟨y, 0, none⟩))), (11, (none, .int .i64 ((outsP 0 l)[i]!.1 : Int))), (10, (none, .pointer (some ⟨lb, 0, none⟩))), (5, (none, .pointer (some ⟨tb, 0, none⟩))), (4, (none, .pointer (some ⟨sb, 0, none⟩)))] [blkR y (attE.enc (outsP 0 l)[i]!.2) 65, ownR x 3 intE (slowN s l tick i), blkR lb [x] 37, blkR ob [.pointer (some ⟨xb, 0, none⟩)] 136, blkR xb (askE c av s) 143, ownR av 65 attE l, blkR tb [.int .i64 tick] 3, blkR sb (csE s) 60, R] a W1 := hC
      have hil : i < (outsP 0 l).length := by simpa [outsE] using hi
      have hsl := slowN_len s l tick i
      refine WI.block ?_
      refine WI.seqk fun k10 hk10 => ?_
      refine WI.reg rfl ?_
      refine L.fa hC rfl rfl rfl (fun _ => All.nil) Try.underlying65 rfl Try.sizeOf3 rfl rfl rfl ?_; clear hC a; intro a hC
      refine L.ld hC rfl rfl rfl (fun _ => All.nil) m0 Try.isAgg3 rfl rfl rfl ?_; clear hC a; intro a hC
      refine L.fa hC rfl rfl rfl (fun _ => All.nil) Try.underlying60 rfl Try.sizeOf3 rfl rfl rfl ?_; clear hC a; intro a hC
      refine L.ld hC rfl rfl rfl (fun _ => All.nil) m7 Try.isAgg3 rfl rfl rfl ?_; clear hC a; intro a hC
      refine L.pu hC rfl rfl (fun _ => All.nil) rfl rfl ?_; clear hC a; intro a hC
      refine L.ld hC rfl rfl rfl (fun _ => All.nil) m6 Try.isAgg3 rfl rfl rfl ?_; clear hC a; intro a hC
      refine L.pu hC rfl rfl (fun _ => All.nil) rfl rfl ?_; clear hC a; intro a hC
      refine L.nil ⟨hC.env.defers, ?_⟩
      refine hk10 _ _ _ ?_; clear hk10; try clear k10
      refine WI.cond hC rfl (fun h2 => ?_) (fun h2 => ?_)
      ·
        refine WI.reg rfl ?_
        refine L.ld hC rfl rfl rfl (fun _ => All.nil) m2 Try.isAgg37 rfl rfl rfl ?_; clear hC a; intro a hC
        refine L.pu hC rfl rfl (fun _ => All.nil) rfl rfl ?_; clear hC a; intro a hC
        refine L.bsP hC rfl rfl rfl Try.underlying37 Try.infoI3 rfl rfl rfl rfl rfl rfl rfl ?_; clear hC a; intro b1 a w hF hC
        replace hC := hC.fr2
        refine L.app (xs := [((outsP 0 l)[i]!.1 : Int)]) hC rfl rfl rfl rfl ⟨_, _, rfl, lit_cells (hC.at m1) rfl⟩ Try.underlying37 Try.infoI3 rfl (by simp; omega) (by simp; omega) rfl rfl ?_; clear hC a; intro v2 a w hF hC
        replace hC := hC.fr3
        refine L.st hC rfl rfl rfl rfl Try.sizeOf37 (cells_sl (own_form (hC.at m1))) rfl (one_sl (own_form (hC.at m1))) rfl rfl ?_; clear hC a; intro a w hF hC
        refine L.nil ⟨hC.env.defers, ?_⟩
        replace hC := hC.hd (r' := blkR lb [v2] 37) rfl
        replace hC := hC.fr1
        replace hC := hC.hd (r' := ownR v2 3 intE (slowN s l tick (i + 1))) (by rw [slow_yes hil h2])
        replace hC := hC.subl (.cons_cons _ (.cons_cons _ (.cons _ (.cons _ (.cons_cons _ (.cons_cons _ (.cons_cons _ (.cons_cons _ (.cons_cons _ (.cons_cons _ .slnil))))))))))
        replace hC := hC.fr7
        replace hC := hC.fr7
        replace hC := hC.fr7
        replace hC := hC.fr7
        replace hC := hC.fr7
        replace hC := hC.fr7
        replace hC := hC.fr7
        replace hC := hC.fr7
        exact ⟨rfl, v2, _, trivial, hC⟩
      ·
        refine WI.skip hC.env.defers ?_
        replace hC := hC.fr1
        replace hC := hC.hd (r' := ownR x 3 intE (slowN s l tick (i + 1))) (by rw [slow_no hil h2])
        replace hC := hC.subl (.cons_cons _ (.cons _ (.cons_cons _ (.cons_cons _ (.cons_cons _ (.cons_cons _ (.cons_cons _ (.cons_cons _ (.cons_cons _ .slnil)))))))))
        replace hC := hC.fr7
        replace hC := hC.fr7
        replace hC := hC.fr7
        replace hC := hC.fr7
        replace hC := hC.fr7
        replace hC := hC.fr7
        replace hC := hC.fr7
        replace hC := hC.fr7
        exact ⟨rfl, x, _, trivial, hC⟩
    · clear hC; intro D x w hD hq hC
      replace hC : Conf 38 Nob w0 _ [ownR x 3 intE (slowN s l tick (outsE l).length), blkR lb [x] 37, blkR ob [.pointer (some ⟨xb, 0, none⟩)] 136, blkR xb (askE c av s) 143, ownR av 65 attE l, blkR tb [.int .i64 tick] 3, blkR sb (csE s) 60, markR D] a w := hC
      refine hk7 _ _ _ ?_; clear hk7; try clear k7
      refine WI.seqk fun k11 hk11 => ?_
      refine WI.reg rfl ?_
      refine L.ld hC rfl rfl rfl (fun _ => All.nil) m1 Try.isAgg37 rfl rfl rfl ?_; clear hC a; intro a hC
      refine L.pu hC rfl rfl (fun _ => All.nil) rfl rfl ?_; clear hC a; intro a hC
      refine L.pu hC rfl rfl (fun _ => All.nil) rfl rfl ?_; clear hC a; intro a hC
      refine L.nil ⟨hC.env.defers, ?_⟩
      refine hk11 _ _ _ ?_; clear hk11; try clear k11
      refine WI.ret hC.env.defers ?_
      replace hC := hC.fr7
      refine leave1' hC hD (fun w hC => ?_)
      refine retl hC rfl (.tmp rfl (.tmp rfl .nil)) rfl ?_
      replace hC := hC.subl (.cons_cons _ (.cons _ (.cons _ (.cons _ (.cons _ (.cons _ (.cons _ .slnil)))))))
      exact ⟨_, (by unfold slowT; rw [if_neg (nt h1)]), trivial, by unfold slowT; rw [if_neg (nt h1), ← slow_all]; exact hC.toPost (by simp [ownR])⟩
    · clear hC; intro D jc z w hD hc hC
      exact z.elim

end Go.Proofs.E
