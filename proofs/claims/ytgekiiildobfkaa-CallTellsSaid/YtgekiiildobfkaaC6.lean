/- Attempts that are over. -/
import Derived.Test.YtgekiiildobfkaaC5
set_option linter.unusedVariables false
set_option linter.unusedSimpArgs false
namespace Go.Proofs.E
open Go.RowKit
theorem Mem.rdd {α β : Type _} {v u : Value} {E : Enc α} {F : Enc β} {l : List α} {m : List β} {w : World} (h1 : (rdR v E l).ok w) (h2 : (rdR u F m).ok w) : Mem [rdR v E l, rdR u F m] w :=
  ⟨by simp [h1, h2], by simp [apart, rdR]⟩
theorem inR_mem {a b : Int} {l : List Int} (h : inR a b l = true) : ∀ x ∈ l, a ≤ x ∧ x ≤ b := by
  intro x hx
  simp only [inR, Bool.not_eq_true', List.any_eq_false] at h
  have := h x hx
  simp at this
  omega
def overL (l : List Att) (pl : List Int) : List Att := pl.foldl (fun m i => m.set i.toNat { m[i.toNat]! with over := true }) l
theorem over_step {l : List Att} {pl : List Int} {j : Nat} (hj : j < pl.length) : (overL l (pl.take j)).set (pl[j]!).toNat { (overL l (pl.take j))[(pl[j]!).toNat]! with over := true } = overL l (pl.take (j + 1)) := by
  rw [take_one hj]
  unfold overL
  rw [List.foldl_append]
  rfl
def overR (c : CallH) (s : CSet) (l : List Att) (tick d : Int) (pl : List Int) : CallH × List Att × Int :=
  if (chkA c s l != 0) = true then (Zero'.zero, [], chkA c s l) else if (!inR 0 268435456 [tick]) = true then (Zero'.zero, [], 4)
  else if (!inR 0 (IntKind.i64.wrap ((l.length : Int) - 1)) pl) = true then (Zero'.zero, [], 71)
  else if (cntA (overL l pl) == 0 && decide (((overL l pl).length : Int) > 0)) = true then ({ c with nx := IntKind.i64.wrap (tick + (delR s.bo ((overL l pl).length : Int) d).1) }, overL l pl, 0) else (c, overL l pl, 0)
section
variable {c : CallH} {s : CSet} {l m : List Att} {tick d : Int} {pl : List Int}
theorem over_a (h1 : (chkA c s l != 0) = true) : overR c s l tick d pl = (Zero'.zero, [], chkA c s l) := if_pos h1
theorem over_b (h1 : (chkA c s l != 0) = false) (h2 : (!inR 0 268435456 [tick]) = true) : overR c s l tick d pl = (Zero'.zero, [], 4) := by unfold overR; rw [if_neg (nt h1), if_pos h2]
theorem over_c (h1 : (chkA c s l != 0) = false) (h2 : (!inR 0 268435456 [tick]) = false) (h3 : (!inR 0 (IntKind.i64.wrap ((l.length : Int) - 1)) pl) = true) : overR c s l tick d pl = (Zero'.zero, [], 71) := by unfold overR; rw [if_neg (nt h1), if_neg (nt h2), if_pos h3]
theorem over_d (h1 : (chkA c s l != 0) = false) (h2 : (!inR 0 268435456 [tick]) = false) (h3 : (!inR 0 (IntKind.i64.wrap ((l.length : Int) - 1)) pl) = false) (hm : m = overL l pl) (h5 : (cntA m == 0 && decide ((m.length : Int) > 0)) = true) :
    overR c s l tick d pl = ({ c with nx := IntKind.i64.wrap (tick + (delR s.bo (m.length : Int) d).1) }, m, 0) := by
  subst hm
  unfold overR; rw [if_neg (nt h1), if_neg (nt h2), if_neg (nt h3), if_pos h5]
theorem over_e (h1 : (chkA c s l != 0) = false) (h2 : (!inR 0 268435456 [tick]) = false) (h3 : (!inR 0 (IntKind.i64.wrap ((l.length : Int) - 1)) pl) = false) (hm : m = overL l pl) (h5 : (cntA m == 0 && decide ((m.length : Int) > 0)) = false) :
    overR c s l tick d pl = (c, m, 0) := by
  subst hm
  unfold overR; rw [if_neg (nt h1), if_neg (nt h2), if_neg (nt h3), if_neg (nt h5)]
end
theorem Over_ok (c : CallH) (v vp : Value) (s : CSet) (l : List Att) (tick d : Int) (pl : List Int) (w0 : World) (hr : (rdR v attE l).ok w0) (hp : (rdR vp intE pl).ok w0) : Calls Try.prog 29 #[.agg (callE c v).toArray, .agg (csE s).toArray, .int .i64 tick, .int .u64 d, vp] w0 fun e w' => ∃ r : Value, e = .returned (.tuple #[.agg (callE (overR c s l tick d pl).1 r).toArray, .int .i64 (overR c s l tick d pl).2.2]) ∧ True ∧ Post Nob [ownR r 65 attE (overR c s l tick d pl).2.1] w0 w' := by
  obtain ⟨vA, vc, hv, _, _⟩ := id hr
  subst hv
  have hlen := rd_lt hr
  have hlp := rd_lt hp
  refine enter (μ := [rdR (.slice vA l.length vc) attE l, rdR vp intE pl]) (S := Nob) (vs := [.agg (callE c (.slice vA l.length vc)).toArray, .agg (csE s).toArray, .int .i64 tick, .int .u64 d, vp]) Try.func29 rfl Try.ntmps29 rfl (Mem.rdd hr hp) (by simp [rdR]) (fun a hC => ?_)
  refine W.seqk fun k1 hk1 => ?_
  refine W.region ?_
  refine L.box hC rfl rfl rfl rfl rfl rfl ?_; clear hC a; intro cb a w hF hC
  refine L.box hC rfl rfl rfl rfl rfl rfl ?_; clear hC a; intro sb a w hF hC
  refine L.alloc hC rfl rfl Try.zeroValue56 rfl rfl rfl ?_; clear hC a; intro rb a w hF hC
  refine L.pu hC rfl rfl (fun _ => All.nil) rfl rfl ?_; clear hC a; intro a hC
  refine L.nil ?_
  refine hk1 _ _ ?_; clear hk1; try clear k1
  refine W.seqk fun k2 hk2 => ?_
  refine W.region ?_
  refine L.lda hC rfl rfl rfl (fun _ => All.nil) m2 Try.isAgg56 Try.sizeOf56 rfl rfl rfl rfl ?_; clear hC a; intro a hC
  refine L.lda hC rfl rfl rfl (fun _ => All.nil) m1 Try.isAgg60 Try.sizeOf60 rfl rfl rfl rfl ?_; clear hC a; intro a hC
  refine L.callg [] hC rfl rfl Try.call77 rfl (ask27_ok c _ s l _ (hC.at m3)) (fun b h => h.elim) rfl rfl ?_; clear hC a; intro ⟨xb, ov⟩ a w hQ hC
  dsimp only at hC
  refine L.pu hC rfl rfl (fun _ => All.nil) rfl rfl ?_; clear hC a; intro a hC
  refine L.pu hC rfl rfl (fun _ => All.nil) rfl rfl ?_; clear hC a; intro a hC
  refine L.pu hC rfl rfl (fun _ => All.nil) rfl rfl ?_; clear hC a; intro a hC
  refine L.pu hC rfl rfl (fun _ => All.nil) rfl rfl ?_; clear hC a; intro a hC
  refine L.pu hC rfl rfl (fun _ => All.nil) rfl rfl ?_; clear hC a; intro a hC
  refine L.nil ?_
  refine hk2 _ _ ?_; clear hk2; try clear k2
  refine W.seqk fun k3 hk3 => ?_
  refine W.block ?_
  refine W.seqk fun k4 hk4 => ?_
  refine W.region ?_
  refine L.pu hC rfl rfl (fun _ => All.nil) rfl rfl ?_; clear hC a; intro a hC
  refine L.pu hC rfl rfl (fun _ => All.nil) rfl rfl ?_; clear hC a; intro a hC
  refine L.pu hC rfl rfl (fun _ => All.nil) rfl rfl ?_; clear hC a; intro a hC
  refine L.nil ?_
  refine hk4 _ _ ?_; clear hk4; try clear k4
  refine W.cond hC rfl (fun h1 => ?_) (fun h1 => ?_)
  ·
    refine W.seqk fun k5 hk5 => ?_
    refine W.region ?_
    refine L.buildS (ps := [(0, 1), (1, 4), (5, 1), (6, 1), (7, 1), (8, 1), (9, 1)]) hC rfl rfl rfl (fun _ => All.nil) Try.zeroValue56 Try.underlying56 ⟨⟨rfl, Try.sizeOf3⟩, ⟨rfl, Try.sizeOf53⟩, ⟨rfl, Try.sizeOf4⟩, ⟨rfl, Try.sizeOf3⟩, ⟨rfl, Try.sizeOf3⟩, ⟨rfl, Try.sizeOf3⟩, ⟨rfl, Try.sizeOf54⟩, trivial⟩ rfl rfl rfl ?_; clear hC a; intro a hC
    refine L.pu hC rfl rfl (fun _ => All.nil) rfl rfl ?_; clear hC a; intro a hC
    replace hC := hC.fr2
    refine L.st hC rfl rfl rfl rfl Try.sizeOf56 rfl rfl rfl rfl rfl ?_; clear hC a; intro a w hF hC
    refine L.pu hC rfl rfl (fun _ => All.nil) rfl rfl ?_; clear hC a; intro a hC
    refine L.nil ?_
    refine hk5 _ _ ?_; clear hk5; try clear k5
    refine W.ret ?_
    refine retl hC rfl (.agg rfl m0 Try.isAgg56 Try.sizeOf56 rfl (.tmp rfl .nil)) rfl ?_
    replace hC := (hC.drop).nilown (ty := 65) (E := attE)
    exact ⟨_, (by rw [over_a h1]; try rfl), trivial, by rw [over_a h1]; exact hC.toPost (by simp [ownR])⟩
  ·
    rw [okD_yes h1, okD_yes h1, okD_yes h1] at hC
    have h16 := chkA_len (c := c) (s := s) (l := l) (by simpa using h1)
    refine W.seqk fun k6 hk6 => ?_
    refine W.region ?_
    refine L.pu hC rfl rfl (fun _ => All.nil) rfl rfl ?_; clear hC a; intro a hC
    refine L.litsP hC rfl rfl rfl (fun _ => All.nil) Try.underlying37 Try.infoI3 rfl rfl rfl rfl rfl rfl rfl rfl ?_; clear hC a; intro a w v1 hF hC
    refine L.call hC rfl rfl Try.call79 rfl (fun _ => All.nil) (fun hg => in27_ok _ _ _ _ _ (hC.at m0 hg)) rfl rfl ?_; clear hC a; intro a w hF hC
    refine L.pu hC rfl rfl (fun _ => All.nil) rfl rfl ?_; clear hC a; intro a hC
    refine L.pu hC rfl rfl (fun _ => All.nil) rfl rfl ?_; clear hC a; intro a hC
    refine L.nil ?_
    refine hk6 _ _ ?_; clear hk6; try clear k6
    refine W.cond hC rfl (fun h2 => ?_) (fun h2 => ?_)
    ·
      refine W.seqk fun k7 hk7 => ?_
      refine W.region ?_
      refine L.buildS (ps := [(0, 1), (1, 4), (5, 1), (6, 1), (7, 1), (8, 1), (9, 1)]) hC rfl rfl rfl (fun _ => All.nil) Try.zeroValue56 Try.underlying56 ⟨⟨rfl, Try.sizeOf3⟩, ⟨rfl, Try.sizeOf53⟩, ⟨rfl, Try.sizeOf4⟩, ⟨rfl, Try.sizeOf3⟩, ⟨rfl, Try.sizeOf3⟩, ⟨rfl, Try.sizeOf3⟩, ⟨rfl, Try.sizeOf54⟩, trivial⟩ rfl rfl rfl ?_; clear hC a; intro a hC
      replace hC := hC.fr3
      refine L.st hC rfl rfl rfl rfl Try.sizeOf56 rfl rfl rfl rfl rfl ?_; clear hC a; intro a w hF hC
      refine L.pu hC rfl rfl (fun _ => All.nil) rfl rfl ?_; clear hC a; intro a hC
      refine L.nil ?_
      refine hk7 _ _ ?_; clear hk7; try clear k7
      refine W.ret ?_
      refine retl hC rfl (.agg rfl m0 Try.isAgg56 Try.sizeOf56 rfl (.tmp rfl .nil)) rfl ?_
      replace hC := (hC.drop).nilown (ty := 65) (E := attE)
      exact ⟨_, (by rw [over_b h1 h2]; try rfl), trivial, by rw [over_b h1 h2]; exact hC.toPost (by simp [ownR])⟩
    ·
      refine W.seqk fun k8 hk8 => ?_
      refine W.region ?_
      refine L.pu hC rfl rfl (fun _ => All.nil) rfl rfl ?_; clear hC a; intro a hC
      refine L.pu hC rfl rfl (fun _ => All.nil) rfl rfl ?_; clear hC a; intro a hC
      refine L.fa hC rfl rfl rfl (fun _ => All.nil) Try.underlying143 rfl Try.sizeOf56 rfl rfl rfl ?_; clear hC a; intro a hC
      refine L.fa hC rfl rfl rfl (fun _ => All.nil) Try.underlying56 rfl Try.sizeOf54 rfl rfl rfl ?_; clear hC a; intro a hC
      refine L.ld hC rfl rfl rfl (fun _ => All.nil) m1 Try.isAgg54 rfl rfl rfl ?_; clear hC a; intro a hC
      refine L.len hC rfl rfl rfl (fun _ => All.nil) (own_form (hC.at m2)) Try.underlying54 rfl rfl ?_; clear hC a; intro a hC
      refine L.pu hC rfl rfl (fun _ => All.nil) rfl rfl ?_; clear hC a; intro a hC
      refine L.pu hC rfl rfl (fun _ => All.nil) rfl rfl ?_; clear hC a; intro a hC
      refine L.call hC rfl rfl Try.call79 rfl (fun _ => All.nil) (fun hg => in27_ok _ _ _ _ _ (hC.at m7)) rfl rfl ?_; clear hC a; intro a w hF hC
      refine L.pu hC rfl rfl (fun _ => All.nil) rfl rfl ?_; clear hC a; intro a hC
      refine L.pu hC rfl rfl (fun _ => All.nil) rfl rfl ?_; clear hC a; intro a hC
      refine L.nil ?_
      refine hk8 _ _ ?_; clear hk8; try clear k8
      refine W.cond hC rfl (fun h3 => ?_) (fun h3 => ?_)
      ·
        refine W.seqk fun k9 hk9 => ?_
        refine W.region ?_
        refine L.buildS (ps := [(0, 1), (1, 4), (5, 1), (6, 1), (7, 1), (8, 1), (9, 1)]) hC rfl rfl rfl (fun _ => All.nil) Try.zeroValue56 Try.underlying56 ⟨⟨rfl, Try.sizeOf3⟩, ⟨rfl, Try.sizeOf53⟩, ⟨rfl, Try.sizeOf4⟩, ⟨rfl, Try.sizeOf3⟩, ⟨rfl, Try.sizeOf3⟩, ⟨rfl, Try.sizeOf3⟩, ⟨rfl, Try.sizeOf54⟩, trivial⟩ rfl rfl rfl ?_; clear hC a; intro a hC
        replace hC := hC.fr3
        refine L.st hC rfl rfl rfl rfl Try.sizeOf56 rfl rfl rfl rfl rfl ?_; clear hC a; intro a w hF hC
        refine L.pu hC rfl rfl (fun _ => All.nil) rfl rfl ?_; clear hC a; intro a hC
        refine L.nil ?_
        refine hk9 _ _ ?_; clear hk9; try clear k9
        refine W.ret ?_
        refine retl hC rfl (.agg rfl m0 Try.isAgg56 Try.sizeOf56 rfl (.tmp rfl .nil)) rfl ?_
        replace hC := (hC.drop).nilown (ty := 65) (E := attE)
        exact ⟨_, (by rw [over_c h1 h2 h3]; try rfl), trivial, by rw [over_c h1 h2 h3]; exact hC.toPost (by simp [ownR])⟩
      ·
        have hin := inR_mem (by simpa using h3)
        refine W.skip ?_
        refine hk3 _ _ ?_; clear hk3; try clear k3
        refine W.seqk fun k10 hk10 => ?_
        refine W.seqk fun k11 hk11 => ?_
        refine W.region ?_
        refine L.pu hC rfl rfl (fun _ => All.nil) rfl rfl ?_; clear hC a; intro a hC
        refine L.len hC rfl rfl rfl (fun _ => All.nil) (rd_form (hC.at m7)) Try.underlying37 rfl rfl ?_; clear hC a; intro a hC
        refine L.pu hC rfl rfl (fun _ => All.nil) rfl rfl ?_; clear hC a; intro a hC
        refine L.nil ?_
        refine hk11 _ _ ?_; clear hk11; try clear k11
        refine W.block ?_
        replace hC := hC.subl (.cons _ (.cons_cons _ (.cons_cons _ (.cons_cons _ (.cons_cons _ (.cons _ (.cons _ (.cons_cons _ .slnil))))))))
        replace hC := hC.fr4
        replace hC := hC.fr4
        replace hC := hC.fr4
        replace hC := hC.fr4
        replace hC := hC.fr4
        refine W.loop (fun (gst : Nat × List Att) a w' => match gst with | ⟨j, m⟩ => (j ≤ pl.length) ∧ (m.length = l.length) ∧ (m = overL l (pl.take j)) ∧ Conf 104 Nob w0 [(51, (none, .int .i64 (j : Int))), (50, (none, .int .i64 (pl.length : Int))), (49, (none, vp)), (12, (none, .pointer (some ⟨xb, 0, none⟩))), (10, (none, .pointer (some ⟨rb, 0, none⟩))), (6, (none, .pointer (some ⟨sb, 0, none⟩))), (2, (none, .int .i64 tick)), (3, (none, .int .u64 d))] [blkR xb (askE c ov s) 143, ownR ov 65 attE m, blkR rb (callE Zero'.zero (.slice none 0 0)) 56, blkR sb (csE s) 60, rdR vp intE pl] a w') (fun (gst : Nat × List Att) => match gst with | ⟨j, m⟩ => pl.length - j) (0, l) ?_ ?_
        · exact ⟨Nat.zero_le _, rfl, by simp [overL], hC.keep ⟨rfl, rfl, rfl, rfl, rfl, rfl, rfl, rfl, trivial⟩⟩
        · rintro ⟨j, m⟩ a w ⟨hj, hml, hm, hC⟩
          refine W.seqk fun k12 hk12 => ?_
          refine W.region ?_
          refine L.pu hC rfl rfl (fun _ => All.nil) rfl rfl ?_; clear hC a; intro a hC
          refine L.nil ?_
          refine hk12 _ _ ?_; clear hk12; try clear k12
          refine W.seqk fun k13 hk13 => ?_
          refine W.cond hC rfl (fun h4 => ?_) (fun h4 => ?_)
          ·
            have h4 := of_decide_eq_true h4
            refine W.skip ?_
            refine hk13 _ _ ?_; clear hk13; try clear k13
            refine W.seqk fun k14 hk14 => ?_
            refine W.block ?_
            refine W.seqk fun k15 hk15 => ?_
            refine W.region ?_
            refine L.ixr hC rfl rfl rfl rfl m4 (fun _ => All.nil) (fun _ => All.nil) Try.underlying37 Try.sizeOf3 (fun _ => by omega) rfl rfl ?_; clear hC a; intro a hC
            refine L.ldx hC rfl rfl rfl rfl (fun _ => All.nil) (fun hg => rd_bang hC m4 (by omega) _) Try.isAgg3 rfl rfl rfl ?_; clear hC a; intro a hC
            refine L.pu hC rfl rfl (fun _ => All.nil) rfl rfl ?_; clear hC a; intro a hC
            replace hC := hC.slot (d := 15) (s := (none, .int .i64 pl[j]!)) rfl
            have hk := hin _ (bang_mem (l := pl) (j := j) (by omega))
            refine L.nil ?_
            refine hk15 _ _ ?_; clear hk15; try clear k15
            refine W.region ?_
            refine L.pu hC rfl rfl (fun _ => All.nil) rfl rfl ?_; clear hC a; intro a hC
            refine L.pu hC rfl rfl (fun _ => All.nil) rfl rfl ?_; clear hC a; intro a hC
            refine L.fa hC rfl rfl rfl (fun _ => All.nil) Try.underlying143 rfl Try.sizeOf56 rfl rfl rfl ?_; clear hC a; intro a hC
            refine L.fa hC rfl rfl rfl (fun _ => All.nil) Try.underlying56 rfl Try.sizeOf54 rfl rfl rfl ?_; clear hC a; intro a hC
            refine L.ld hC rfl rfl rfl (fun _ => All.nil) m0 Try.isAgg54 rfl rfl rfl ?_; clear hC a; intro a hC
            refine L.pu hC rfl rfl (fun _ => All.nil) rfl rfl ?_; clear hC a; intro a hC
            refine L.ixo hC rfl rfl rfl rfl m1 (fun _ => All.nil) (fun _ => All.nil) Try.underlying54 Try.sizeOf65 (fun _ => ⟨hk.1, by rw [hml]; have := hk.2; rw [w64 (by omega)] at this; omega⟩) rfl rfl ?_; clear hC a; intro a hC
            refine L.fae hC rfl rfl rfl (fun _ => All.nil) Try.underlying65 rfl Try.sizeOf4 rfl (fun hg => own_some (hC.at m1) (by have := hk.2; rw [w64 (by omega)] at this; omega)) rfl rfl ?_; clear hC a; intro a hC
            replace hC := hC.fr1
            refine L.ste hC rfl rfl rfl rfl rfl Try.sizeOf4 rfl rfl rfl (by have := hk.2; rw [w64 (by omega)] at this; omega) (Nat.le_of_ble_eq_true rfl) (x' := { m[(pl[j]!).toNat]! with over := true }) rfl rfl ?_; clear hC a; intro a w hF hC
            refine L.nil ?_
            refine hk14 _ _ ?_; clear hk14; try clear k14
            refine W.region ?_
            refine L.pu hC rfl rfl (fun _ => All.nil) rfl rfl ?_; clear hC a; intro a hC
            refine L.pu hC rfl rfl (fun _ => All.nil) rfl rfl ?_; clear hC a; intro a hC
            refine L.nil ?_
            replace hC := hC.fr4
            replace hC := hC.fr4
            replace hC := hC.fr4
            replace hC := hC.fr3
            replace hC := hC.fr4
            exact ⟨(j + 1, m.set (pl[j]!).toNat { m[(pl[j]!).toNat]! with over := true }), ⟨by omega, by rw [List.length_set]; exact hml, by rw [hm]; exact over_step (by omega), hC.keep ⟨geti rfl (w64 (by omega)), rfl, rfl, rfl, rfl, rfl, rfl, rfl, trivial⟩⟩, by first | omega | (dsimp only; omega)⟩
          ·
            have h4 := of_decide_eq_false h4
            obtain rfl : j = pl.length := by omega
            have hmE : m = overL l pl := by rw [hm]; simp
            refine W.exit ?_
            refine Kb.here ?_
            refine hk10 _ _ ?_; clear hk10; try clear k10
            refine W.seqk fun k16 hk16 => ?_
            refine W.seqk fun k17 hk17 => ?_
            refine W.region ?_
            refine L.pu hC rfl rfl (fun _ => All.nil) rfl rfl ?_; clear hC a; intro a hC
            refine L.call hC rfl rfl Try.call80 rfl (fun _ => All.nil) (fun hg => counts_ok xb c ov s m _ (ro_of (hC.at m0)) (own_rd (hC.at m1))) rfl rfl ?_; clear hC a; intro a w hF hC
            refine L.pu hC rfl rfl (fun _ => All.nil) rfl rfl ?_; clear hC a; intro a hC
            refine L.pu hC rfl rfl (fun _ => All.nil) rfl rfl ?_; clear hC a; intro a hC
            refine L.pu hC rfl rfl (fun _ => All.nil) rfl rfl ?_; clear hC a; intro a hC
            refine L.pu hC rfl rfl (fun _ => All.nil) rfl rfl ?_; clear hC a; intro a hC
            refine L.pu hC rfl rfl (fun _ => All.nil) rfl rfl ?_; clear hC a; intro a hC
            refine L.nil ?_
            refine hk17 _ _ ?_; clear hk17; try clear k17
            refine W.seqk fun k18 hk18 => ?_
            refine W.region ?_
            refine L.pu hC rfl rfl (fun _ => All.nil) rfl rfl ?_; clear hC a; intro a hC
            refine L.pu hC rfl rfl (fun _ => All.nil) rfl rfl ?_; clear hC a; intro a hC
            refine L.pu hC rfl rfl (fun _ => All.nil) rfl rfl ?_; clear hC a; intro a hC
            refine L.pu hC rfl rfl (fun _ => All.nil) rfl rfl ?_; clear hC a; intro a hC
            refine L.pu hC rfl rfl (fun hg => by first | (simp only [Gt, Bool.and_eq_true] at hg; simp only [All, List.cons_append, List.nil_append, List.append_nil, List.mem_cons, List.not_mem_nil, or_false, forall_eq_or_imp, forall_eq, Bool.and_eq_true, hg, Bool.not_false, Bool.not_true, and_self]; done) | (simp only [Gt] at hg; simp only [All, List.cons_append, List.nil_append, List.append_nil, List.mem_cons, List.not_mem_nil, or_false, forall_eq_or_imp, forall_eq, hg, and_self])) rfl rfl ?_; clear hC a; intro a hC
            refine L.fa hC rfl rfl rfl (fun hg => by first | (simp only [Gt, Bool.and_eq_true] at hg; simp only [All, List.cons_append, List.nil_append, List.append_nil, List.mem_cons, List.not_mem_nil, or_false, forall_eq_or_imp, forall_eq, Bool.and_eq_true, hg, Bool.not_false, Bool.not_true, and_self]; done) | (simp only [Gt] at hg; simp only [All, List.cons_append, List.nil_append, List.append_nil, List.mem_cons, List.not_mem_nil, or_false, forall_eq_or_imp, forall_eq, hg, and_self])) Try.underlying143 rfl Try.sizeOf56 rfl rfl rfl ?_; clear hC a; intro a hC
            refine L.fa hC rfl rfl rfl (fun hg => by first | (simp only [Gt, Bool.and_eq_true] at hg; simp only [All, List.cons_append, List.nil_append, List.append_nil, List.mem_cons, List.not_mem_nil, or_false, forall_eq_or_imp, forall_eq, Bool.and_eq_true, hg, Bool.not_false, Bool.not_true, and_self]; done) | (simp only [Gt] at hg; simp only [All, List.cons_append, List.nil_append, List.append_nil, List.mem_cons, List.not_mem_nil, or_false, forall_eq_or_imp, forall_eq, hg, and_self])) Try.underlying56 rfl Try.sizeOf54 rfl rfl rfl ?_; clear hC a; intro a hC
            refine L.ld hC rfl rfl rfl (fun hg => by first | (simp only [Gt, Bool.and_eq_true] at hg; simp only [All, List.cons_append, List.nil_append, List.append_nil, List.mem_cons, List.not_mem_nil, or_false, forall_eq_or_imp, forall_eq, Bool.and_eq_true, hg, Bool.not_false, Bool.not_true, and_self]; done) | (simp only [Gt] at hg; simp only [All, List.cons_append, List.nil_append, List.append_nil, List.mem_cons, List.not_mem_nil, or_false, forall_eq_or_imp, forall_eq, hg, and_self])) m0 Try.isAgg54 rfl rfl rfl ?_; clear hC a; intro a hC
            refine L.len hC rfl rfl rfl (fun hg => by first | (simp only [Gt, Bool.and_eq_true] at hg; simp only [All, List.cons_append, List.nil_append, List.append_nil, List.mem_cons, List.not_mem_nil, or_false, forall_eq_or_imp, forall_eq, Bool.and_eq_true, hg, Bool.not_false, Bool.not_true, and_self]; done) | (simp only [Gt] at hg; simp only [All, List.cons_append, List.nil_append, List.append_nil, List.mem_cons, List.not_mem_nil, or_false, forall_eq_or_imp, forall_eq, hg, and_self])) (own_form (hC.at m1)) Try.underlying54 rfl rfl ?_; clear hC a; intro a hC
            refine L.pu hC rfl rfl (fun hg => by first | (simp only [Gt, Bool.and_eq_true] at hg; simp only [All, List.cons_append, List.nil_append, List.append_nil, List.mem_cons, List.not_mem_nil, or_false, forall_eq_or_imp, forall_eq, Bool.and_eq_true, hg, Bool.not_false, Bool.not_true, and_self]; done) | (simp only [Gt] at hg; simp only [All, List.cons_append, List.nil_append, List.append_nil, List.mem_cons, List.not_mem_nil, or_false, forall_eq_or_imp, forall_eq, hg, and_self])) rfl rfl ?_; clear hC a; intro a hC
            refine L.and hC rfl rfl rfl rfl (fun _ => All.nil) (fun _ hp => by first | (simp only [All, List.cons_append, List.nil_append, List.append_nil, List.mem_cons, List.not_mem_nil, or_false, forall_eq_or_imp, forall_eq, Bool.and_eq_true, hp, Bool.not_false, Bool.not_true, and_self]; done) | simp [All, hp]) rfl rfl ?_; clear hC a; intro a hC
            refine L.nil ?_
            refine hk18 _ _ ?_; clear hk18; try clear k18
            refine W.cond hC rfl (fun h5 => ?_) (fun h5 => ?_)
            ·
              refine W.seqk fun k19 hk19 => ?_
              refine W.drawD hC Try.mixed rfl rfl ?_
              apply DRN.cons (.det _ _) rfl
              · intro a w hC
                refine L.fa hC rfl rfl rfl (fun _ => All.nil) Try.underlying60 rfl Try.sizeOf58 rfl rfl rfl ?_; clear hC a; intro a hC
                exact L.nil ⟨⟨_, [], hC⟩, Frm.refl _ _⟩
              apply DRN.cons (.det _ _) rfl
              · intro a w hC
                refine L.lda hC rfl rfl rfl (fun _ => All.nil) m3 Try.isAgg58 Try.sizeOf58 rfl rfl rfl rfl ?_; clear hC a; intro a hC
                exact L.nil ⟨⟨_, [], hC⟩, Frm.refl _ _⟩
              apply DRN.cons (.det _ _) rfl
              · intro a w hC
                refine L.pu hC rfl rfl (fun _ => All.nil) rfl rfl ?_; clear hC a; intro a hC
                exact L.nil ⟨⟨_, [], hC⟩, Frm.refl _ _⟩
              apply DRN.cons (.det _ _) rfl
              · intro a w hC
                refine L.pu hC rfl rfl (fun _ => All.nil) rfl rfl ?_; clear hC a; intro a hC
                exact L.nil ⟨⟨_, [], hC⟩, Frm.refl _ _⟩
              apply DRN.cons (.det _ _) rfl
              · intro a w hC
                refine L.fa hC rfl rfl rfl (fun _ => All.nil) Try.underlying143 rfl Try.sizeOf56 rfl rfl rfl ?_; clear hC a; intro a hC
                exact L.nil ⟨⟨_, [], hC⟩, Frm.refl _ _⟩
              apply DRN.cons (.det _ _) rfl
              · intro a w hC
                refine L.fa hC rfl rfl rfl (fun _ => All.nil) Try.underlying56 rfl Try.sizeOf54 rfl rfl rfl ?_; clear hC a; intro a hC
                exact L.nil ⟨⟨_, [], hC⟩, Frm.refl _ _⟩
              apply DRN.cons (.det _ _) rfl
              · intro a w hC
                refine L.ld hC rfl rfl rfl (fun _ => All.nil) m0 Try.isAgg54 rfl rfl rfl ?_; clear hC a; intro a hC
                exact L.nil ⟨⟨_, [], hC⟩, Frm.refl _ _⟩
              apply DRN.cons (.det _ _) rfl
              · intro a w hC
                refine L.len hC rfl rfl rfl (fun _ => All.nil) (own_form (hC.at m1)) Try.underlying54 rfl rfl ?_; clear hC a; intro a hC
                exact L.nil ⟨⟨_, [], hC⟩, Frm.refl _ _⟩
              apply DRN.cons (.det _ _) rfl
              · intro a w hC
                refine L.pu hC rfl rfl (fun _ => All.nil) rfl rfl ?_; clear hC a; intro a hC
                exact L.nil ⟨⟨_, [], hC⟩, Frm.refl _ _⟩
              apply DRN.cons (.det _ _) rfl
              · intro a w hC
                refine L.call hC rfl rfl Try.call81 rfl (fun _ => All.nil) (fun hg => Delay_ok s.bo _ d _) rfl rfl ?_; clear hC a; intro a w hF hC
                exact L.nil ⟨⟨_, [], hC⟩, hF⟩
              apply DRN.cons (.det _ _) rfl
              · intro a w hC
                refine L.pu hC rfl rfl (fun _ => All.nil) rfl rfl ?_; clear hC a; intro a hC
                exact L.nil ⟨⟨_, [], hC⟩, Frm.refl _ _⟩
              apply DRN.cons (.det _ _) rfl
              · intro a w hC
                refine L.pu hC rfl rfl (fun _ => All.nil) rfl rfl ?_; clear hC a; intro a hC
                exact L.nil ⟨⟨_, [], hC⟩, Frm.refl _ _⟩
              apply DRN.cons (.det _ _) rfl
              · intro a w hC
                refine L.pu hC rfl rfl (fun _ => All.nil) rfl rfl ?_; clear hC a; intro a hC
                exact L.nil ⟨⟨_, [], hC⟩, Frm.refl _ _⟩
              apply DRN.cons (.det _ _) rfl
              · intro a w hC
                refine L.pu hC rfl rfl (fun _ => All.nil) rfl rfl ?_; clear hC a; intro a hC
                exact L.nil ⟨⟨_, [], hC⟩, Frm.refl _ _⟩
              apply DRN.cons (.det _ _) rfl
              · intro a w hC
                refine L.pu hC rfl rfl (fun _ => All.nil) rfl rfl ?_; clear hC a; intro a hC
                exact L.nil ⟨⟨_, [], hC⟩, Frm.refl _ _⟩
              refine DRN.nil (fun w' hF => ?_)
              intro a w hC hw
              subst hw
              refine hk19 _ _ ?_; clear hk19; try clear k19
              refine W.region ?_
              refine L.pu hC rfl rfl (fun _ => All.nil) rfl rfl ?_; clear hC a; intro a hC
              refine L.pu hC rfl rfl (fun _ => All.nil) rfl rfl ?_; clear hC a; intro a hC
              refine L.pu hC rfl rfl (fun _ => All.nil) rfl rfl ?_; clear hC a; intro a hC
              refine L.pu hC rfl rfl (fun _ => All.nil) rfl rfl ?_; clear hC a; intro a hC
              refine L.pu hC rfl rfl (fun _ => All.nil) rfl rfl ?_; clear hC a; intro a hC
              refine L.fa hC rfl rfl rfl (fun _ => All.nil) Try.underlying143 rfl Try.sizeOf56 rfl rfl rfl ?_; clear hC a; intro a hC
              refine L.fa hC rfl rfl rfl (fun _ => All.nil) Try.underlying56 rfl Try.sizeOf3 rfl rfl rfl ?_; clear hC a; intro a hC
              refine L.st hC rfl rfl rfl rfl Try.sizeOf3 rfl rfl rfl rfl rfl ?_; clear hC a; intro a w hF hC
              refine L.nil ?_
              refine hk16 _ _ ?_; clear hk16; try clear k16
              refine W.seqk fun k20 hk20 => ?_
              refine W.region ?_
              refine L.pu hC rfl rfl (fun _ => All.nil) rfl rfl ?_; clear hC a; intro a hC
              refine L.pu hC rfl rfl (fun _ => All.nil) rfl rfl ?_; clear hC a; intro a hC
              refine L.fa hC rfl rfl rfl (fun _ => All.nil) Try.underlying143 rfl Try.sizeOf56 rfl rfl rfl ?_; clear hC a; intro a hC
              refine L.lda hC rfl rfl rfl (fun _ => All.nil) m0 Try.isAgg56 Try.sizeOf56 rfl rfl rfl rfl ?_; clear hC a; intro a hC
              replace hC := hC.fr2
              refine L.st hC rfl rfl rfl rfl Try.sizeOf56 rfl rfl (by obtain ⟨oA, oc, hov⟩ := own_form (hC.at m2); rw [hov]; rfl) rfl rfl ?_; clear hC a; intro a w hF hC
              refine L.pu hC rfl rfl (fun _ => All.nil) rfl rfl ?_; clear hC a; intro a hC
              refine L.nil ?_
              refine hk20 _ _ ?_; clear hk20; try clear k20
              refine W.ret ?_
              refine retl hC rfl (.agg rfl m0 Try.isAgg56 Try.sizeOf56 rfl (.tmp rfl .nil)) rfl ?_
              replace hC := hC.subl (.cons _ (.cons _ (.cons_cons _ (.cons _ (.cons _ .slnil)))))
              exact ⟨_, (by rw [over_d h1 h2 h3 hmE h5]; try rfl), trivial, by rw [over_d h1 h2 h3 hmE h5]; exact hC.toPost (by simp [ownR])⟩
            ·
              refine W.skip ?_
              refine hk16 _ _ ?_; clear hk16; try clear k16
              refine W.seqk fun k21 hk21 => ?_
              refine W.region ?_
              refine L.pu hC rfl rfl (fun _ => All.nil) rfl rfl ?_; clear hC a; intro a hC
              refine L.pu hC rfl rfl (fun _ => All.nil) rfl rfl ?_; clear hC a; intro a hC
              refine L.fa hC rfl rfl rfl (fun _ => All.nil) Try.underlying143 rfl Try.sizeOf56 rfl rfl rfl ?_; clear hC a; intro a hC
              refine L.lda hC rfl rfl rfl (fun _ => All.nil) m0 Try.isAgg56 Try.sizeOf56 rfl rfl rfl rfl ?_; clear hC a; intro a hC
              replace hC := hC.fr2
              refine L.st hC rfl rfl rfl rfl Try.sizeOf56 rfl rfl (by obtain ⟨oA, oc, hov⟩ := own_form (hC.at m2); rw [hov]; rfl) rfl rfl ?_; clear hC a; intro a w hF hC
              refine L.pu hC rfl rfl (fun _ => All.nil) rfl rfl ?_; clear hC a; intro a hC
              refine L.nil ?_
              refine hk21 _ _ ?_; clear hk21; try clear k21
              refine W.ret ?_
              refine retl hC rfl (.agg rfl m0 Try.isAgg56 Try.sizeOf56 rfl (.tmp rfl .nil)) rfl ?_
              replace hC := hC.subl (.cons _ (.cons _ (.cons_cons _ (.cons _ (.cons _ .slnil)))))
              exact ⟨_, (by rw [over_e h1 h2 h3 hmE h5]; try rfl), trivial, by rw [over_e h1 h2 h3 hmE h5]; exact hC.toPost (by simp [ownR])⟩

end Go.Proofs.E
