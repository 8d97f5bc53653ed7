/- Attempts sent, in the program and on the page. -/
import Derived.Test.YtgekiiildobfkaaC8
set_option linter.unusedVariables false
set_option linter.unusedSimpArgs false
namespace Go.Proofs.E
open Go.RowKit
theorem chkA_att {c : CallH} {s : CSet} {l : List Att} (h : chkA c s l = 0) : s.att ≤ 16 := by
  unfold chkA at h
  split at h
  · rename_i h1; rw [h] at h1; simp at h1
  · rename_i h1
    have h1 : setR s = 0 := by simpa using h1
    have h2 : setQ s = false := by
      cases hq : setQ s
      · rfl
      · rw [sets_a hq] at h1; cases h1
    simp only [setQ, Bool.or_eq_false_iff, decide_eq_false_iff_not] at h2
    omega
theorem chk_ne {c : CallH} {s : CSet} {l x : List Att} (h : chkA c s l = 0) : (chkA c s x != 0) = !fineA c s x := by
  have h1 : setR s = 0 := by
    unfold chkA at h
    split at h
    · rename_i h1; rw [h] at h1; simp at h1
    · rename_i h1; simpa using h1
  unfold chkA
  rw [h1]
  cases fineA c s x <;> rfl
def sendF (c : CallH) (s : CSet) : List Att → List Att → List Att × Int
  | l, [] => (l, 0)
  | l, a :: m => if decide ((l.length : Int) ≥ s.att) = true then ([], 72) else if (a.over || !fineA c s (l ++ [a])) = true then ([], 9) else sendF c s (l ++ [a]) m
def sendR (c : CallH) (s : CSet) (l m : List Att) : CallH × List Att × Int :=
  if (chkA c s l != 0) = true then (Zero'.zero, [], chkA c s l) else (if ((sendF c s l m).2 != 0) = true then Zero'.zero else c, sendF c s l m)
section
variable {c : CallH} {s : CSet} {l l' m : List Att} {j : Nat}
theorem drop_bang (hj : j < m.length) : m.drop j = m[j]! :: m.drop (j + 1) := by rw [List.drop_eq_getElem_cons hj, bang hj]
theorem send_step (hj : j < m.length) (h2 : decide ((l'.length : Int) ≥ s.att) = false) (h3 : (m[j]!.over || !fineA c s (l' ++ [m[j]!])) = false) : sendF c s l' (m.drop j) = sendF c s (l' ++ [m[j]!]) (m.drop (j + 1)) := by
  rw [drop_bang hj, sendF, if_neg (nt h2), if_neg (nt h3)]
theorem send_a (h1 : (chkA c s l != 0) = true) : sendR c s l m = (Zero'.zero, [], chkA c s l) := if_pos h1
theorem send_b (h1 : (chkA c s l != 0) = false) (hS : sendF c s l' (m.drop j) = sendF c s l m) (hj : j < m.length) (h2 : decide ((l'.length : Int) ≥ s.att) = true) : sendR c s l m = (Zero'.zero, [], 72) := by
  unfold sendR; rw [if_neg (nt h1), ← hS, drop_bang hj, sendF, if_pos h2]; rfl
theorem send_c (h1 : (chkA c s l != 0) = false) (hS : sendF c s l' (m.drop j) = sendF c s l m) (hj : j < m.length) (h2 : decide ((l'.length : Int) ≥ s.att) = false) (h3 : (m[j]!.over || !fineA c s (l' ++ [m[j]!])) = true) : sendR c s l m = (Zero'.zero, [], 9) := by
  unfold sendR; rw [if_neg (nt h1), ← hS, drop_bang hj, sendF, if_neg (nt h2), if_pos h3]; rfl
theorem send_d (h1 : (chkA c s l != 0) = false) (hS : sendF c s l' (m.drop j) = sendF c s l m) (hj : m.length ≤ j) : sendR c s l m = (c, l', 0) := by
  unfold sendR; rw [if_neg (nt h1), ← hS, List.drop_of_length_le hj, sendF]; rfl
end
theorem Own_ok (c : CallH) (v : Value) (l : List Att) (w0 : World) (hr : (rdR v attE l).ok w0) (hz : l.length * 48 ≤ 140737488355328) : Calls Try.prog 30 #[.agg (callE c v).toArray] w0 fun e w' => ∃ r : Value, e = .returned (.agg (callE c r).toArray) ∧ True ∧ Post Nob [ownR r 65 attE l] w0 w' := by
  obtain ⟨vA, vc, hv, _, _⟩ := id hr
  subst hv
  have hlen := rd_lt hr
  refine enter (μ := [rdR (.slice vA l.length vc) attE l]) (S := Nob) (vs := [.agg (callE c (.slice vA l.length vc)).toArray]) Try.func30 rfl Try.ntmps30 rfl ⟨by simpa using hr, by simp⟩ (by simp [rdR]) (fun a hC => ?_)
  refine W.seqk fun k1 hk1 => ?_
  refine W.region ?_
  refine L.box hC rfl rfl rfl rfl rfl rfl ?_; clear hC a; intro cb a w hF hC
  refine L.alloc hC rfl rfl Try.zeroValue56 rfl rfl rfl ?_; clear hC a; intro rb a w hF hC
  refine L.nil ?_
  refine hk1 _ _ ?_; clear hk1; try clear k1
  refine W.seqk fun k2 hk2 => ?_
  refine W.region ?_
  refine L.pu hC rfl rfl (fun _ => All.nil) rfl rfl ?_; clear hC a; intro a hC
  refine L.nil ?_
  refine hk2 _ _ ?_; clear hk2; try clear k2
  refine W.seqk fun k3 hk3 => ?_
  refine W.region ?_
  refine L.pu hC rfl rfl (fun _ => All.nil) rfl rfl ?_; clear hC a; intro a hC
  refine L.fa hC rfl rfl rfl (fun _ => All.nil) Try.underlying56 rfl Try.sizeOf54 rfl rfl rfl ?_; clear hC a; intro a hC
  refine L.ld hC rfl rfl rfl (fun _ => All.nil) m1 Try.isAgg54 rfl rfl rfl ?_; clear hC a; intro a hC
  replace hC := hC.nilown (ty := 65) (E := attE)
  refine L.appr hC rfl rfl rfl rfl (hC.at m3) Try.underlying54 Try.infoI65 rfl (by simp; omega) (by simp; omega) rfl rfl ?_; clear hC a; intro v2 a w hF hC
  refine L.fa hC rfl rfl rfl (fun _ => All.nil) Try.underlying56 rfl Try.sizeOf54 rfl rfl rfl ?_; clear hC a; intro a hC
  replace hC := hC.fr2
  refine L.st hC rfl rfl rfl rfl Try.sizeOf54 (cells_sl (own_form (hC.at m1))) rfl (one_sl (own_form (hC.at m1))) rfl rfl ?_; clear hC a; intro a w hF hC
  refine L.nil ?_
  refine hk3 _ _ ?_; clear hk3; try clear k3
  refine W.seqk fun k4 hk4 => ?_
  refine W.region ?_
  refine L.lda hC rfl rfl rfl (fun _ => All.nil) m0 Try.isAgg56 Try.sizeOf56 rfl rfl rfl rfl ?_; clear hC a; intro a hC
  replace hC := hC.fr2
  refine L.st hC rfl rfl rfl rfl Try.sizeOf56 rfl rfl (by obtain ⟨oA, oc, hov⟩ := own_form (hC.at m2); rw [hov]; rfl) rfl rfl ?_; clear hC a; intro a w hF hC
  refine L.nil ?_
  refine hk4 _ _ ?_; clear hk4; try clear k4
  refine W.ret ?_
  refine rets hC rfl (.agg rfl m0 Try.isAgg56 Try.sizeOf56 rfl .nil) ?_
  replace hC := hC.subl (.cons _ (.cons _ (.cons_cons _ (.cons _ .slnil))))
  exact ⟨_, rfl, trivial, hC.toPost (by simp [ownR])⟩

theorem Send_ok (c : CallH) (v mv : Value) (s : CSet) (l m : List Att) (w0 : World) (hr : (rdR v attE l).ok w0) (hp : (rdR mv attE m).ok w0) : Calls Try.prog 31 #[.agg (callE c v).toArray, .agg (csE s).toArray, mv] w0 fun e w' => ∃ r : Value, e = .returned (.tuple #[.agg (callE (sendR c s l m).1 r).toArray, .int .i64 (sendR c s l m).2.2]) ∧ True ∧ Post Nob [ownR r 65 attE (sendR c s l m).2.1] w0 w' := by
  obtain ⟨vA, vc, hv, _, _⟩ := id hr
  subst hv
  have hlen := rd_lt hr
  have hlp := rd_lt hp
  refine enter (μ := [rdR (.slice vA l.length vc) attE l, rdR mv attE m]) (S := Nob) (vs := [.agg (callE c (.slice vA l.length vc)).toArray, .agg (csE s).toArray, mv]) Try.func31 rfl Try.ntmps31 rfl (Mem.rdd hr hp) (by simp [rdR]) (fun a hC => ?_)
  refine W.seqk fun k1 hk1 => ?_
  refine W.region ?_
  refine L.box hC rfl rfl rfl rfl rfl rfl ?_; clear hC a; intro cb a w hF hC
  refine L.box hC rfl rfl rfl rfl rfl rfl ?_; clear hC a; intro sb a w hF hC
  refine L.alloc hC rfl rfl Try.zeroValue56 rfl rfl rfl ?_; clear hC a; intro rb a w hF hC
  refine L.pu hC rfl rfl (fun _ => All.nil) rfl rfl ?_; clear hC a; intro a hC
  refine L.nil ?_
  refine hk1 _ _ ?_; clear hk1; try clear k1
  refine W.seqk fun k2 hk2 => ?_
  refine W.region ?_
  refine L.lda hC rfl rfl rfl (fun _ => All.nil) m2 Try.isAgg56 Try.sizeOf56 rfl rfl rfl rfl ?_; clear hC a; intro a hC
  refine L.lda hC rfl rfl rfl (fun _ => All.nil) m1 Try.isAgg60 Try.sizeOf60 rfl rfl rfl rfl ?_; clear hC a; intro a hC
  refine L.callg [] hC rfl rfl Try.call77 rfl (ask27_ok c _ s l _ (hC.at m3)) (fun b h => h.elim) rfl rfl ?_; clear hC a; intro ⟨xb, ov⟩ a w hQ hC
  dsimp only at hC
  refine L.pu hC rfl rfl (fun _ => All.nil) rfl rfl ?_; clear hC a; intro a hC
  refine L.pu hC rfl rfl (fun _ => All.nil) rfl rfl ?_; clear hC a; intro a hC
  refine L.pu hC rfl rfl (fun _ => All.nil) rfl rfl ?_; clear hC a; intro a hC
  refine L.pu hC rfl rfl (fun _ => All.nil) rfl rfl ?_; clear hC a; intro a hC
  refine L.pu hC rfl rfl (fun _ => All.nil) rfl rfl ?_; clear hC a; intro a hC
  refine L.nil ?_
  refine hk2 _ _ ?_; clear hk2; try clear k2
  refine W.seqk fun k3 hk3 => ?_
  refine W.seqk fun k4 hk4 => ?_
  refine W.region ?_
  refine L.pu hC rfl rfl (fun _ => All.nil) rfl rfl ?_; clear hC a; intro a hC
  refine L.pu hC rfl rfl (fun _ => All.nil) rfl rfl ?_; clear hC a; intro a hC
  refine L.nil ?_
  refine hk4 _ _ ?_; clear hk4; try clear k4
  refine W.cond hC rfl (fun h1 => ?_) (fun h1 => ?_)
  ·
    refine W.seqk fun k5 hk5 => ?_
    refine W.region ?_
    refine L.buildS (ps := [(0, 1), (1, 4), (5, 1), (6, 1), (7, 1), (8, 1), (9, 1)]) hC rfl rfl rfl (fun _ => All.nil) Try.zeroValue56 Try.underlying56 ⟨⟨rfl, Try.sizeOf3⟩, ⟨rfl, Try.sizeOf53⟩, ⟨rfl, Try.sizeOf4⟩, ⟨rfl, Try.sizeOf3⟩, ⟨rfl, Try.sizeOf3⟩, ⟨rfl, Try.sizeOf3⟩, ⟨rfl, Try.sizeOf54⟩, trivial⟩ rfl rfl rfl ?_; clear hC a; intro a hC
    refine L.pu hC rfl rfl (fun _ => All.nil) rfl rfl ?_; clear hC a; intro a hC
    replace hC := hC.fr2
    refine L.st hC rfl rfl rfl rfl Try.sizeOf56 rfl rfl rfl rfl rfl ?_; clear hC a; intro a w hF hC
    refine L.pu hC rfl rfl (fun _ => All.nil) rfl rfl ?_; clear hC a; intro a hC
    refine L.nil ?_
    refine hk5 _ _ ?_; clear hk5; try clear k5
    refine W.ret ?_
    refine retl hC rfl (.agg rfl m0 Try.isAgg56 Try.sizeOf56 rfl (.tmp rfl .nil)) rfl ?_
    replace hC := (hC.drop).nilown (ty := 65) (E := attE)
    exact ⟨_, (by rw [send_a h1]; try rfl), trivial, by rw [send_a h1]; exact hC.toPost (by simp [ownR])⟩
  ·
    rw [okD_yes h1, okD_yes h1, okD_yes h1] at hC
    have h16 := chkA_len (c := c) (s := s) (l := l) (by simpa using h1)
    have ha16 := chkA_att (c := c) (s := s) (l := l) (by simpa using h1)
    refine W.skip ?_
    refine hk3 _ _ ?_; clear hk3; try clear k3
    refine W.seqk fun k6 hk6 => ?_
    refine W.seqk fun k7 hk7 => ?_
    refine W.region ?_
    refine L.pu hC rfl rfl (fun _ => All.nil) rfl rfl ?_; clear hC a; intro a hC
    refine L.len hC rfl rfl rfl (fun _ => All.nil) (rd_form (hC.at m6)) Try.underlying54 rfl rfl ?_; clear hC a; intro a hC
    refine L.pu hC rfl rfl (fun _ => All.nil) rfl rfl ?_; clear hC a; intro a hC
    refine L.nil ?_
    refine hk7 _ _ ?_; clear hk7; try clear k7
    refine W.block ?_
    replace hC := hC.subl (.cons_cons _ (.cons_cons _ (.cons_cons _ (.cons_cons _ (.cons _ (.cons _ (.cons_cons _ .slnil)))))))
    replace hC := hC.fr4
    replace hC := hC.fr4
    replace hC := hC.fr4
    replace hC := hC.fr4
    replace hC := hC.fr4
    refine W.loop (fun (gst : Nat × List Att × Value) a w' => match gst with | ⟨j, l', ov⟩ => (j ≤ m.length) ∧ (l'.length ≤ 16) ∧ (sendF c s l' (m.drop j) = sendF c s l m) ∧ Conf 63 Nob w0 [(24, (none, .int .i64 (j : Int))), (23, (none, .int .i64 (m.length : Int))), (22, (none, mv)), (8, (none, .pointer (some ⟨xb, 0, none⟩))), (6, (none, .pointer (some ⟨rb, 0, none⟩))), (4, (none, .pointer (some ⟨sb, 0, none⟩)))] [blkR xb (askE c ov s) 143, ownR ov 65 attE l', blkR rb (callE Zero'.zero (.slice none 0 0)) 56, blkR sb (csE s) 60, rdR mv attE m] a w') (fun (gst : Nat × List Att × Value) => match gst with | ⟨j, l', ov⟩ => m.length - j) (0, l, ov) ?_ ?_
    · exact ⟨Nat.zero_le _, h16, rfl, hC.keep ⟨rfl, rfl, rfl, rfl, rfl, rfl, trivial⟩⟩
    · rintro ⟨j, l', ov⟩ a w ⟨hj, hl6, hS, hC⟩
      refine W.seqk fun k8 hk8 => ?_
      refine W.region ?_
      refine L.pu hC rfl rfl (fun _ => All.nil) rfl rfl ?_; clear hC a; intro a hC
      refine L.nil ?_
      refine hk8 _ _ ?_; clear hk8; try clear k8
      refine W.seqk fun k9 hk9 => ?_
      refine W.cond hC rfl (fun h2 => ?_) (fun h2 => ?_)
      ·
        have h2 := of_decide_eq_true h2
        refine W.skip ?_
        refine hk9 _ _ ?_; clear hk9; try clear k9
        refine W.seqk fun k10 hk10 => ?_
        refine W.block ?_
        refine W.seqk fun k11 hk11 => ?_
        refine W.region ?_
        refine L.ixr hC rfl rfl rfl rfl m4 (fun _ => All.nil) (fun _ => All.nil) Try.underlying54 Try.sizeOf65 (fun _ => by omega) rfl rfl ?_; clear hC a; intro a hC
        refine L.ldxa hC rfl rfl rfl rfl (fun _ => All.nil) (fun hg => rd_bang hC m4 (by omega) _) Try.isAgg65 Try.sizeOf65 rfl rfl rfl rfl ?_; clear hC a; intro a hC
        refine L.alloc hC rfl rfl Try.zeroValue65 rfl rfl rfl ?_; clear hC a; intro tb a w hF hC
        refine L.st hC rfl rfl rfl rfl Try.sizeOf65 rfl rfl rfl rfl rfl ?_; clear hC a; intro a w hF hC
        refine L.nil ?_
        refine hk11 _ _ ?_; clear hk11; try clear k11
        refine W.seqk fun k12 hk12 => ?_
        refine W.seqk fun k13 hk13 => ?_
        refine W.drawD hC Try.mixed rfl rfl ?_
        apply DRN.cons (.det _ _) rfl
        · intro a w hC
          refine L.pu hC rfl rfl (fun _ => All.nil) rfl rfl ?_; clear hC a; intro a hC
          exact L.nil ⟨⟨_, [], hC⟩, Frm.refl _ _⟩
        apply DRN.cons (.det _ _) rfl
        · intro a w hC
          refine L.pu hC rfl rfl (fun _ => All.nil) rfl rfl ?_; clear hC a; intro a hC
          exact L.nil ⟨⟨_, [], hC⟩, Frm.refl _ _⟩
        apply DRN.cons (.det _ _) rfl
        · intro a w hC
          refine L.fa hC rfl rfl rfl (fun _ => All.nil) Try.underlying143 rfl Try.sizeOf56 rfl rfl rfl ?_; clear hC a; intro a hC
          exact L.nil ⟨⟨_, [], hC⟩, Frm.refl _ _⟩
        apply DRN.cons (.det _ _) rfl
        · intro a w hC
          refine L.fa hC rfl rfl rfl (fun _ => All.nil) Try.underlying56 rfl Try.sizeOf54 rfl rfl rfl ?_; clear hC a; intro a hC
          exact L.nil ⟨⟨_, [], hC⟩, Frm.refl _ _⟩
        apply DRN.cons (.det _ _) rfl
        · intro a w hC
          refine L.ld hC rfl rfl rfl (fun _ => All.nil) m1 Try.isAgg54 rfl rfl rfl ?_; clear hC a; intro a hC
          exact L.nil ⟨⟨_, [], hC⟩, Frm.refl _ _⟩
        apply DRN.cons (.det _ _) rfl
        · intro a w hC
          refine L.len hC rfl rfl rfl (fun _ => All.nil) (own_form (hC.at m2)) Try.underlying54 rfl rfl ?_; clear hC a; intro a hC
          exact L.nil ⟨⟨_, [], hC⟩, Frm.refl _ _⟩
        apply DRN.cons (.det _ _) rfl
        · intro a w hC
          refine L.fa hC rfl rfl rfl (fun _ => All.nil) Try.underlying60 rfl Try.sizeOf3 rfl rfl rfl ?_; clear hC a; intro a hC
          exact L.nil ⟨⟨_, [], hC⟩, Frm.refl _ _⟩
        apply DRN.cons (.det _ _) rfl
        · intro a w hC
          refine L.ld hC rfl rfl rfl (fun _ => All.nil) m4 Try.isAgg3 rfl rfl rfl ?_; clear hC a; intro a hC
          exact L.nil ⟨⟨_, [], hC⟩, Frm.refl _ _⟩
        apply DRN.cons (.det _ _) rfl
        · intro a w hC
          refine L.pu hC rfl rfl (fun _ => All.nil) rfl rfl ?_; clear hC a; intro a hC
          exact L.nil ⟨⟨_, [], hC⟩, Frm.refl _ _⟩
        refine DRN.nil (fun w' hF => ?_)
        intro a w hC hw
        subst hw
        refine hk13 _ _ ?_; clear hk13; try clear k13
        refine W.cond hC rfl (fun h3 => ?_) (fun h3 => ?_)
        ·
          refine W.seqk fun k14 hk14 => ?_
          refine W.region ?_
          refine L.buildS (ps := [(0, 1), (1, 4), (5, 1), (6, 1), (7, 1), (8, 1), (9, 1)]) hC rfl rfl rfl (fun _ => All.nil) Try.zeroValue56 Try.underlying56 ⟨⟨rfl, Try.sizeOf3⟩, ⟨rfl, Try.sizeOf53⟩, ⟨rfl, Try.sizeOf4⟩, ⟨rfl, Try.sizeOf3⟩, ⟨rfl, Try.sizeOf3⟩, ⟨rfl, Try.sizeOf3⟩, ⟨rfl, Try.sizeOf54⟩, trivial⟩ rfl rfl rfl ?_; clear hC a; intro a hC
          replace hC := hC.fr3
          refine L.st hC rfl rfl rfl rfl Try.sizeOf56 rfl rfl rfl rfl rfl ?_; clear hC a; intro a w hF hC
          refine L.pu hC rfl rfl (fun _ => All.nil) rfl rfl ?_; clear hC a; intro a hC
          refine L.nil ?_
          refine hk14 _ _ ?_; clear hk14; try clear k14
          refine W.ret ?_
          refine retl hC rfl (.agg rfl m0 Try.isAgg56 Try.sizeOf56 rfl (.tmp rfl .nil)) rfl ?_
          replace hC := (hC.drop).nilown (ty := 65) (E := attE)
          exact ⟨_, (by rw [send_b h1 hS (by omega) h3]; try rfl), trivial, by rw [send_b h1 hS (by omega) h3]; exact hC.toPost (by simp [ownR])⟩
        ·
          have h3b := of_decide_eq_false h3
          refine W.skip ?_
          refine hk12 _ _ ?_; clear hk12; try clear k12
          refine W.seqk fun k15 hk15 => ?_
          replace hC := hC.fr5
          replace hC := hC.fr5
          replace hC := hC.fr5
          replace hC := hC.fr4
          replace hC := hC.fr4
          replace hC := hC.fr5
          refine W.drawN (fun c' γ => match c' with | 0 => [ownR ov 65 attE l', blkR tb (attE.enc m[j]!) 65, blkR xb (askE c ov s) 143, blkR rb (callE Zero'.zero (.slice none 0 0)) 56, blkR sb (csE s) 60, rdR mv attE m] | 1 => [ownR γ 65 attE (l' ++ [m[j]!]), blkR tb (attE.enc m[j]!) 65, blkR xb (askE c ov s) 143, blkR rb (callE Zero'.zero (.slice none 0 0)) 56, blkR sb (csE s) 60, rdR mv attE m] | _ => [blkR xb (askE c γ s) 143, ownR γ 65 attE (l' ++ [m[j]!]), blkR tb (attE.enc m[j]!) 65, blkR rb (callE Zero'.zero (.slice none 0 0)) 56, blkR sb (csE s) 60, rdR mv attE m]) undef hC Try.mixed rfl rfl ?_
          apply ERN.q (.det _ _) 1 rfl rfl
          · intro c' γ hle
            obtain rfl | rfl := (by omega : c' = 0 ∨ c' = 1)
            · intro a w hC
              refine L.pu hC rfl rfl (fun _ => All.nil) rfl rfl ?_; clear hC a; intro a hC
              exact L.nil ⟨⟨_, [], hC⟩, Frm.refl _ _⟩
            · intro a w hC
              refine L.pu hC rfl rfl (fun _ => All.nil) rfl rfl ?_; clear hC a; intro a hC
              exact L.nil ⟨⟨_, [], hC⟩, Frm.refl _ _⟩
          apply ERN.q (.det _ _) 1 rfl rfl
          · intro c' γ hle
            obtain rfl | rfl := (by omega : c' = 0 ∨ c' = 1)
            · intro a w hC
              refine L.pu hC rfl rfl (fun _ => All.nil) rfl rfl ?_; clear hC a; intro a hC
              exact L.nil ⟨⟨_, [], hC⟩, Frm.refl _ _⟩
            · intro a w hC
              refine L.pu hC rfl rfl (fun _ => All.nil) rfl rfl ?_; clear hC a; intro a hC
              exact L.nil ⟨⟨_, [], hC⟩, Frm.refl _ _⟩
          apply ERN.q (.det _ _) 1 rfl rfl
          · intro c' γ hle
            obtain rfl | rfl := (by omega : c' = 0 ∨ c' = 1)
            · intro a w hC
              refine L.pu hC rfl rfl (fun _ => All.nil) rfl rfl ?_; clear hC a; intro a hC
              exact L.nil ⟨⟨_, [], hC⟩, Frm.refl _ _⟩
            · intro a w hC
              refine L.pu hC rfl rfl (fun _ => All.nil) rfl rfl ?_; clear hC a; intro a hC
              exact L.nil ⟨⟨_, [], hC⟩, Frm.refl _ _⟩
          apply ERN.q (.det _ _) 1 rfl rfl
          · intro c' γ hle
            obtain rfl | rfl := (by omega : c' = 0 ∨ c' = 1)
            · intro a w hC
              refine L.fa hC rfl rfl rfl (fun _ => All.nil) Try.underlying143 rfl Try.sizeOf56 rfl rfl rfl ?_; clear hC a; intro a hC
              exact L.nil ⟨⟨_, [], hC⟩, Frm.refl _ _⟩
            · intro a w hC
              refine L.fa hC rfl rfl rfl (fun _ => All.nil) Try.underlying143 rfl Try.sizeOf56 rfl rfl rfl ?_; clear hC a; intro a hC
              exact L.nil ⟨⟨_, [], hC⟩, Frm.refl _ _⟩
          apply ERN.q (.det _ _) 1 rfl rfl
          · intro c' γ hle
            obtain rfl | rfl := (by omega : c' = 0 ∨ c' = 1)
            · intro a w hC
              refine L.fa hC rfl rfl rfl (fun _ => All.nil) Try.underlying56 rfl Try.sizeOf54 rfl rfl rfl ?_; clear hC a; intro a hC
              exact L.nil ⟨⟨_, [], hC⟩, Frm.refl _ _⟩
            · intro a w hC
              refine L.fa hC rfl rfl rfl (fun _ => All.nil) Try.underlying56 rfl Try.sizeOf54 rfl rfl rfl ?_; clear hC a; intro a hC
              exact L.nil ⟨⟨_, [], hC⟩, Frm.refl _ _⟩
          apply ERN.q (.det _ _) 0 rfl rfl
          · intro c' γ hle
            obtain rfl := (by omega : c' = 0)
            · intro a w hC
              refine L.ld hC rfl rfl rfl (fun _ => All.nil) m2 Try.isAgg54 rfl rfl rfl ?_; clear hC a; intro a hC
              exact L.nil ⟨⟨_, [], hC⟩, Frm.refl _ _⟩
          apply ERN.q (.det _ _) 1 rfl rfl
          · intro c' γ hle
            obtain rfl | rfl := (by omega : c' = 0 ∨ c' = 1)
            · intro a w hC
              refine L.lda hC rfl rfl rfl (fun _ => All.nil) m1 Try.isAgg65 Try.sizeOf65 rfl rfl rfl rfl ?_; clear hC a; intro a hC
              exact L.nil ⟨⟨_, [], hC⟩, Frm.refl _ _⟩
            · intro a w hC
              refine L.lda hC rfl rfl rfl (fun _ => All.nil) m1 Try.isAgg65 Try.sizeOf65 rfl rfl rfl rfl ?_; clear hC a; intro a hC
              exact L.nil ⟨⟨_, [], hC⟩, Frm.refl _ _⟩
          apply ERN.q (.lit _ _ fun v => rdR v attE _) 0 rfl rfl
          · intro c' γ hle
            obtain rfl := (by omega : c' = 0)
            · intro a w hC
              refine L.bsP hC rfl rfl rfl Try.underlying54 Try.infoI65 rfl rfl rfl rfl rfl rfl rfl ?_; clear hC a; intro b2 a w hF hC
              replace hC := hC.litrd (E := attE) [m[j]!] rfl (Nat.le_of_ble_eq_true rfl)
              exact L.nil ⟨⟨_, _, [], fun _ h => h.2, hC⟩, hF⟩
          apply ERN.f true (fun h => rfl) rfl rfl
          · intro γ v7 a w hC
            replace hC := hC.fr1
            refine L.appr hC rfl rfl rfl rfl (hC.at m1 trivial) Try.underlying54 Try.infoI65 rfl (by simp; omega) (by simp; omega) rfl rfl ?_; clear hC a; intro v3 a w hF hC
            exact L.nil ⟨v3, _, (fun h => by cases h), (hC.env.vals 46 (none, v3) rfl), hC.dr1, hF.dr1 (fun _ h => h.2)⟩
          apply ERN.q (.det _ _) 2 rfl rfl
          · intro c' γ hle
            obtain rfl | rfl | rfl := (by omega : c' = 0 ∨ c' = 1 ∨ c' = 2)
            · intro v7 a w hC
              refine L.pu hC rfl rfl (fun _ => All.nil) rfl rfl ?_; clear hC a; intro a hC
              exact L.nil ⟨⟨_, [_], hC⟩, Frm.refl _ _⟩
            · intro v7 a w hC
              refine L.pu hC rfl rfl (fun _ => All.nil) rfl rfl ?_; clear hC a; intro a hC
              exact L.nil ⟨⟨_, [_], hC⟩, Frm.refl _ _⟩
            · intro v7 a w hC
              refine L.pu hC rfl rfl (fun _ => All.nil) rfl rfl ?_; clear hC a; intro a hC
              exact L.nil ⟨⟨_, [_], hC⟩, Frm.refl _ _⟩
          apply ERN.q (.det _ _) 2 rfl rfl
          · intro c' γ hle
            obtain rfl | rfl | rfl := (by omega : c' = 0 ∨ c' = 1 ∨ c' = 2)
            · intro v7 a w hC
              refine L.fa hC rfl rfl rfl (fun _ => All.nil) Try.underlying143 rfl Try.sizeOf56 rfl rfl rfl ?_; clear hC a; intro a hC
              exact L.nil ⟨⟨_, [_], hC⟩, Frm.refl _ _⟩
            · intro v7 a w hC
              refine L.fa hC rfl rfl rfl (fun _ => All.nil) Try.underlying143 rfl Try.sizeOf56 rfl rfl rfl ?_; clear hC a; intro a hC
              exact L.nil ⟨⟨_, [_], hC⟩, Frm.refl _ _⟩
            · intro v7 a w hC
              refine L.fa hC rfl rfl rfl (fun _ => All.nil) Try.underlying143 rfl Try.sizeOf56 rfl rfl rfl ?_; clear hC a; intro a hC
              exact L.nil ⟨⟨_, [_], hC⟩, Frm.refl _ _⟩
          apply ERN.q (.det _ _) 1 rfl rfl
          · intro c' γ hle
            obtain rfl | rfl := (by omega : c' = 0 ∨ c' = 1)
            · intro v7 a w hC
              refine L.fa hC rfl rfl rfl (fun _ => All.nil) Try.underlying56 rfl Try.sizeOf54 rfl rfl rfl ?_; clear hC a; intro a hC
              exact L.nil ⟨⟨_, [_], hC⟩, Frm.refl _ _⟩
            · intro v7 a w hC
              refine L.fa hC rfl rfl rfl (fun _ => All.nil) Try.underlying56 rfl Try.sizeOf54 rfl rfl rfl ?_; clear hC a; intro a hC
              exact L.nil ⟨⟨_, [_], hC⟩, Frm.refl _ _⟩
          apply ERN.f false (fun h => by cases h) rfl rfl
          · intro γ v7 a w hC
            replace hC := hC.fr3
            refine L.st hC rfl rfl rfl rfl Try.sizeOf54 (cells_sl (own_form (hC.at m2))) rfl (one_sl (own_form (hC.at m2))) rfl rfl ?_; clear hC a; intro a w hF hC
            exact L.nil ⟨γ, _, fun _ => rfl, trivial, hC.dr1, ((hF.dr1 (fun _ h => h.2)).perm pf2.symm (List.Perm.refl _))⟩
          refine ERN.nil ?_
          intro γ w' v7 a w hC hw
          subst hw
          replace hC := hC.tail
          refine hk15 _ _ ?_; clear hk15; try clear k15
          refine W.seqk fun k16 hk16 => ?_
          refine W.region ?_
          refine L.fa hC rfl rfl rfl (fun _ => All.nil) Try.underlying65 rfl Try.sizeOf4 rfl rfl rfl ?_; clear hC a; intro a hC
          refine L.ld hC rfl rfl rfl (fun _ => All.nil) m2 Try.isAgg4 rfl rfl rfl ?_; clear hC a; intro a hC
          refine L.pu hC rfl rfl (fun _ => All.nil) rfl rfl ?_; clear hC a; intro a hC
          refine L.pu hC rfl rfl (fun _ => All.nil) rfl rfl ?_; clear hC a; intro a hC
          refine L.call hC rfl rfl Try.call82 rfl (fun hg => by first | (simp only [Gt, Bool.and_eq_true] at hg; simp only [All, List.cons_append, List.nil_append, List.append_nil, List.mem_cons, List.not_mem_nil, or_false, forall_eq_or_imp, forall_eq, Bool.and_eq_true, hg, Bool.not_false, Bool.not_true, and_self]; done) | (simp only [Gt] at hg; simp only [All, List.cons_append, List.nil_append, List.append_nil, List.mem_cons, List.not_mem_nil, or_false, forall_eq_or_imp, forall_eq, hg, and_self])) (fun hg => fine27_ok xb c _ s (l' ++ [m[j]!]) _ (ro_of (hC.at m0)) (own_rd (hC.at m1))) rfl rfl ?_; clear hC a; intro a w hF hC
          refine L.pu hC rfl rfl (fun hg => by first | (simp only [Gt, Bool.and_eq_true] at hg; simp only [All, List.cons_append, List.nil_append, List.append_nil, List.mem_cons, List.not_mem_nil, or_false, forall_eq_or_imp, forall_eq, Bool.and_eq_true, hg, Bool.not_false, Bool.not_true, and_self]; done) | (simp only [Gt] at hg; simp only [All, List.cons_append, List.nil_append, List.append_nil, List.mem_cons, List.not_mem_nil, or_false, forall_eq_or_imp, forall_eq, hg, and_self])) rfl rfl ?_; clear hC a; intro a hC
          refine L.or hC rfl rfl rfl rfl (fun _ => All.nil) (fun _ hp => by first | (simp only [All, List.cons_append, List.nil_append, List.append_nil, List.mem_cons, List.not_mem_nil, or_false, forall_eq_or_imp, forall_eq, Bool.and_eq_true, hp, Bool.not_false, Bool.not_true, and_self]; done) | simp [All, hp]) rfl rfl ?_; clear hC a; intro a hC
          refine L.nil ?_
          refine hk16 _ _ ?_; clear hk16; try clear k16
          refine W.cond hC rfl (fun h4 => ?_) (fun h4 => ?_)
          ·
            refine W.seqk fun k17 hk17 => ?_
            refine W.region ?_
            refine L.buildS (ps := [(0, 1), (1, 4), (5, 1), (6, 1), (7, 1), (8, 1), (9, 1)]) hC rfl rfl rfl (fun _ => All.nil) Try.zeroValue56 Try.underlying56 ⟨⟨rfl, Try.sizeOf3⟩, ⟨rfl, Try.sizeOf53⟩, ⟨rfl, Try.sizeOf4⟩, ⟨rfl, Try.sizeOf3⟩, ⟨rfl, Try.sizeOf3⟩, ⟨rfl, Try.sizeOf3⟩, ⟨rfl, Try.sizeOf54⟩, trivial⟩ rfl rfl rfl ?_; clear hC a; intro a hC
            replace hC := hC.fr3
            refine L.st hC rfl rfl rfl rfl Try.sizeOf56 rfl rfl rfl rfl rfl ?_; clear hC a; intro a w hF hC
            refine L.pu hC rfl rfl (fun _ => All.nil) rfl rfl ?_; clear hC a; intro a hC
            refine L.nil ?_
            refine hk17 _ _ ?_; clear hk17; try clear k17
            refine W.ret ?_
            refine retl hC rfl (.agg rfl m0 Try.isAgg56 Try.sizeOf56 rfl (.tmp rfl .nil)) rfl ?_
            replace hC := (hC.drop).nilown (ty := 65) (E := attE)
            exact ⟨_, (by rw [send_c h1 hS (by omega) h3 h4]; try rfl), trivial, by rw [send_c h1 hS (by omega) h3 h4]; exact hC.toPost (by simp [ownR])⟩
          ·
            refine W.skip ?_
            refine hk10 _ _ ?_; clear hk10; try clear k10
            refine W.region ?_
            refine L.pu hC rfl rfl (fun _ => All.nil) rfl rfl ?_; clear hC a; intro a hC
            refine L.pu hC rfl rfl (fun _ => All.nil) rfl rfl ?_; clear hC a; intro a hC
            refine L.nil ?_
            replace hC := hC.subl (.cons_cons _ (.cons_cons _ (.cons _ (.cons_cons _ (.cons_cons _ (.cons_cons _ .slnil))))))
            replace hC := hC.fr4
            replace hC := hC.fr4
            replace hC := hC.fr4
            replace hC := hC.fr4
            replace hC := hC.fr4
            exact ⟨(j + 1, l' ++ [m[j]!], γ), ⟨by omega, by simp; omega, by rw [← hS]; exact (send_step (by omega) (by assumption) (by assumption)).symm, hC.keep ⟨geti rfl (w64 (by omega)), rfl, rfl, rfl, rfl, rfl, trivial⟩⟩, by first | omega | (dsimp only; omega)⟩
      ·
        have h2 := of_decide_eq_false h2
        refine W.exit ?_
        refine Kb.here ?_
        refine hk6 _ _ ?_; clear hk6; try clear k6
        refine W.seqk fun k18 hk18 => ?_
        refine W.region ?_
        refine L.pu hC rfl rfl (fun _ => All.nil) rfl rfl ?_; clear hC a; intro a hC
        refine L.pu hC rfl rfl (fun _ => All.nil) rfl rfl ?_; clear hC a; intro a hC
        refine L.fa hC rfl rfl rfl (fun _ => All.nil) Try.underlying143 rfl Try.sizeOf56 rfl rfl rfl ?_; clear hC a; intro a hC
        refine L.lda hC rfl rfl rfl (fun _ => All.nil) m0 Try.isAgg56 Try.sizeOf56 rfl rfl rfl rfl ?_; clear hC a; intro a hC
        replace hC := hC.fr2
        refine L.st hC rfl rfl rfl rfl Try.sizeOf56 rfl rfl (by obtain ⟨oA, oc, hov⟩ := own_form (hC.at m2); rw [hov]; rfl) rfl rfl ?_; clear hC a; intro a w hF hC
        refine L.pu hC rfl rfl (fun _ => All.nil) rfl rfl ?_; clear hC a; intro a hC
        refine L.nil ?_
        refine hk18 _ _ ?_; clear hk18; try clear k18
        refine W.ret ?_
        refine retl hC rfl (.agg rfl m0 Try.isAgg56 Try.sizeOf56 rfl (.tmp rfl .nil)) rfl ?_
        replace hC := hC.subl (.cons _ (.cons _ (.cons_cons _ (.cons _ (.cons _ .slnil)))))
        exact ⟨_, (by rw [send_d h1 hS (by omega)]; try rfl), trivial, by rw [send_d h1 hS (by omega)]; exact hC.toPost (by simp [ownR])⟩

theorem Sendr_ok (c : CallH) (v mv : Value) (s : CSet) (l m : List Att) (w0 : World) (hr : (rdR v attE l).ok w0) (hp : (rdR mv attE m).ok w0) : Calls Try.prog 32 #[.agg (callE c v).toArray, .agg (csE s).toArray, mv] w0 fun e w' => ∃ r : Value, e = .returned (.tuple #[.agg (callE (sendR c s l m).1 r).toArray, .int .i64 (sendR c s l m).2.2]) ∧ True ∧ Post Nob [ownR r 65 attE (sendR c s l m).2.1] w0 w' := by
  obtain ⟨vA, vc, hv, _, _⟩ := id hr
  subst hv
  have hlen := rd_lt hr
  have hlp := rd_lt hp
  refine enter (μ := [rdR (.slice vA l.length vc) attE l, rdR mv attE m]) (S := Nob) (vs := [.agg (callE c (.slice vA l.length vc)).toArray, .agg (csE s).toArray, mv]) Try.func32 rfl Try.ntmps32 rfl (Mem.rdd hr hp) (by simp [rdR]) (fun a hC => ?_)
  refine W.seqk fun k1 hk1 => ?_
  refine W.region ?_
  refine L.box hC rfl rfl rfl rfl rfl rfl ?_; clear hC a; intro cb a w hF hC
  refine L.box hC rfl rfl rfl rfl rfl rfl ?_; clear hC a; intro sb a w hF hC
  refine L.alloc hC rfl rfl Try.zeroValue56 rfl rfl rfl ?_; clear hC a; intro rb a w hF hC
  refine L.pu hC rfl rfl (fun _ => All.nil) rfl rfl ?_; clear hC a; intro a hC
  refine L.nil ?_
  refine hk1 _ _ ?_; clear hk1; try clear k1
  refine W.seqk fun k2 hk2 => ?_
  refine W.region ?_
  refine L.lda hC rfl rfl rfl (fun _ => All.nil) m2 Try.isAgg56 Try.sizeOf56 rfl rfl rfl rfl ?_; clear hC a; intro a hC
  refine L.lda hC rfl rfl rfl (fun _ => All.nil) m1 Try.isAgg60 Try.sizeOf60 rfl rfl rfl rfl ?_; clear hC a; intro a hC
  refine L.call hC rfl rfl Try.call39 rfl (fun _ => All.nil) (fun hg => chkr_ok c _ s l _ (hC.at m3)) rfl rfl ?_; clear hC a; intro a w hF hC
  refine L.pu hC rfl rfl (fun _ => All.nil) rfl rfl ?_; clear hC a; intro a hC
  refine L.nil ?_
  refine hk2 _ _ ?_; clear hk2; try clear k2
  refine W.seqk fun k3 hk3 => ?_
  refine W.seqk fun k4 hk4 => ?_
  refine W.region ?_
  refine L.pu hC rfl rfl (fun _ => All.nil) rfl rfl ?_; clear hC a; intro a hC
  refine L.pu hC rfl rfl (fun _ => All.nil) rfl rfl ?_; clear hC a; intro a hC
  refine L.nil ?_
  refine hk4 _ _ ?_; clear hk4; try clear k4
  refine W.cond hC rfl (fun h1 => ?_) (fun h1 => ?_)
  ·
    refine W.seqk fun k5 hk5 => ?_
    refine W.region ?_
    refine L.buildS (ps := [(0, 1), (1, 4), (5, 1), (6, 1), (7, 1), (8, 1), (9, 1)]) hC rfl rfl rfl (fun _ => All.nil) Try.zeroValue56 Try.underlying56 ⟨⟨rfl, Try.sizeOf3⟩, ⟨rfl, Try.sizeOf53⟩, ⟨rfl, Try.sizeOf4⟩, ⟨rfl, Try.sizeOf3⟩, ⟨rfl, Try.sizeOf3⟩, ⟨rfl, Try.sizeOf3⟩, ⟨rfl, Try.sizeOf54⟩, trivial⟩ rfl rfl rfl ?_; clear hC a; intro a hC
    refine L.pu hC rfl rfl (fun _ => All.nil) rfl rfl ?_; clear hC a; intro a hC
    refine L.st hC rfl rfl rfl rfl Try.sizeOf56 rfl rfl rfl rfl rfl ?_; clear hC a; intro a w hF hC
    refine L.pu hC rfl rfl (fun _ => All.nil) rfl rfl ?_; clear hC a; intro a hC
    refine L.nil ?_
    refine hk5 _ _ ?_; clear hk5; try clear k5
    refine W.ret ?_
    refine retl hC rfl (.agg rfl m0 Try.isAgg56 Try.sizeOf56 rfl (.tmp rfl .nil)) rfl ?_
    replace hC := (hC.drop).nilown (ty := 65) (E := attE)
    exact ⟨_, (by rw [send_a h1]; try rfl), trivial, by rw [send_a h1]; exact hC.toPost (by simp [ownR])⟩
  ·
    have h10 : chkA c s l = 0 := by simpa using h1
    have h16 := chkA_len h10
    have ha16 := chkA_att h10
    refine W.skip ?_
    refine hk3 _ _ ?_; clear hk3; try clear k3
    refine W.seqk fun k6 hk6 => ?_
    refine W.region ?_
    refine L.lda hC rfl rfl rfl (fun _ => All.nil) m2 Try.isAgg56 Try.sizeOf56 rfl rfl rfl rfl ?_; clear hC a; intro a hC
    refine L.callg [] hC rfl rfl Try.call30 rfl (Own_ok c _ l _ (hC.at m3) (by omega)) (fun b h => h.elim) rfl rfl ?_; clear hC a; intro ov a w hQ hC
    refine L.alloc hC rfl rfl Try.zeroValue56 rfl rfl rfl ?_; clear hC a; intro nb a w hF hC
    refine L.st hC rfl rfl rfl rfl Try.sizeOf56 rfl rfl (by obtain ⟨oA, oc, hov⟩ := own_form (hC.at m1); rw [hov]; rfl) rfl rfl ?_; clear hC a; intro a w hF hC
    refine L.nil ?_
    refine hk6 _ _ ?_; clear hk6; try clear k6
    refine W.seqk fun k7 hk7 => ?_
    refine W.seqk fun k8 hk8 => ?_
    refine W.region ?_
    refine L.pu hC rfl rfl (fun _ => All.nil) rfl rfl ?_; clear hC a; intro a hC
    refine L.nil ?_
    refine hk8 _ _ ?_; clear hk8; try clear k8
    refine W.block ?_
    replace hC := hC.subl (.cons_cons _ (.cons_cons _ (.cons_cons _ (.cons_cons _ (.cons _ (.cons _ (.cons_cons _ .slnil)))))))
    replace hC := hC.fr4
    replace hC := hC.fr4
    replace hC := hC.fr4
    replace hC := hC.fr4
    replace hC := hC.fr4
    refine W.loop (fun (gst : Nat × List Att × Value) a w' => match gst with | ⟨j, l', ov⟩ => (j ≤ m.length) ∧ (l'.length ≤ 16) ∧ (sendF c s l' (m.drop j) = sendF c s l m) ∧ Conf 55 Nob w0 [(10, (none, .int .i64 (j : Int))), (2, (none, mv)), (9, (none, .pointer (some ⟨nb, 0, none⟩))), (6, (none, .pointer (some ⟨rb, 0, none⟩))), (4, (none, .pointer (some ⟨sb, 0, none⟩)))] [blkR nb (callE c ov) 56, ownR ov 65 attE l', blkR rb (callE Zero'.zero (.slice none 0 0)) 56, blkR sb (csE s) 60, rdR mv attE m] a w') (fun (gst : Nat × List Att × Value) => match gst with | ⟨j, l', ov⟩ => m.length - j) (0, l, ov) ?_ ?_
    · exact ⟨Nat.zero_le _, h16, rfl, hC.keep ⟨rfl, rfl, rfl, rfl, rfl, trivial⟩⟩
    · rintro ⟨j, l', ov⟩ a w ⟨hj, hl6, hS, hC⟩
      refine W.seqk fun k9 hk9 => ?_
      refine W.seqk fun k10 hk10 => ?_
      refine W.region ?_
      refine L.pu hC rfl rfl (fun _ => All.nil) rfl rfl ?_; clear hC a; intro a hC
      refine L.pu hC rfl rfl (fun _ => All.nil) rfl rfl ?_; clear hC a; intro a hC
      refine L.len hC rfl rfl rfl (fun _ => All.nil) (rd_form (hC.at m4)) Try.underlying54 rfl rfl ?_; clear hC a; intro a hC
      refine L.pu hC rfl rfl (fun _ => All.nil) rfl rfl ?_; clear hC a; intro a hC
      refine L.nil ?_
      refine hk10 _ _ ?_; clear hk10; try clear k10
      refine W.cond hC rfl (fun h2 => ?_) (fun h2 => ?_)
      ·
        have h2 := of_decide_eq_true h2
        refine W.skip ?_
        refine hk9 _ _ ?_; clear hk9; try clear k9
        refine W.seqk fun k11 hk11 => ?_
        refine W.block ?_
        refine W.seqk fun k12 hk12 => ?_
        refine W.seqk fun k13 hk13 => ?_
        refine W.region ?_
        refine L.fa hC rfl rfl rfl (fun _ => All.nil) Try.underlying56 rfl Try.sizeOf54 rfl rfl rfl ?_; clear hC a; intro a hC
        refine L.ld hC rfl rfl rfl (fun _ => All.nil) m0 Try.isAgg54 rfl rfl rfl ?_; clear hC a; intro a hC
        refine L.len hC rfl rfl rfl (fun _ => All.nil) (own_form (hC.at m1)) Try.underlying54 rfl rfl ?_; clear hC a; intro a hC
        refine L.fa hC rfl rfl rfl (fun _ => All.nil) Try.underlying60 rfl Try.sizeOf3 rfl rfl rfl ?_; clear hC a; intro a hC
        refine L.ld hC rfl rfl rfl (fun _ => All.nil) m3 Try.isAgg3 rfl rfl rfl ?_; clear hC a; intro a hC
        refine L.pu hC rfl rfl (fun _ => All.nil) rfl rfl ?_; clear hC a; intro a hC
        refine L.nil ?_
        refine hk13 _ _ ?_; clear hk13; try clear k13
        refine W.cond hC rfl (fun h3 => ?_) (fun h3 => ?_)
        ·
          refine W.seqk fun k14 hk14 => ?_
          refine W.region ?_
          refine L.buildS (ps := [(0, 1), (1, 4), (5, 1), (6, 1), (7, 1), (8, 1), (9, 1)]) hC rfl rfl rfl (fun _ => All.nil) Try.zeroValue56 Try.underlying56 ⟨⟨rfl, Try.sizeOf3⟩, ⟨rfl, Try.sizeOf53⟩, ⟨rfl, Try.sizeOf4⟩, ⟨rfl, Try.sizeOf3⟩, ⟨rfl, Try.sizeOf3⟩, ⟨rfl, Try.sizeOf3⟩, ⟨rfl, Try.sizeOf54⟩, trivial⟩ rfl rfl rfl ?_; clear hC a; intro a hC
          replace hC := hC.fr2
          refine L.st hC rfl rfl rfl rfl Try.sizeOf56 rfl rfl rfl rfl rfl ?_; clear hC a; intro a w hF hC
          refine L.pu hC rfl rfl (fun _ => All.nil) rfl rfl ?_; clear hC a; intro a hC
          refine L.nil ?_
          refine hk14 _ _ ?_; clear hk14; try clear k14
          refine W.ret ?_
          refine retl hC rfl (.agg rfl m0 Try.isAgg56 Try.sizeOf56 rfl (.tmp rfl .nil)) rfl ?_
          replace hC := (hC.drop).nilown (ty := 65) (E := attE)
          exact ⟨_, (by rw [send_b h1 hS (by omega) h3]; try rfl), trivial, by rw [send_b h1 hS (by omega) h3]; exact hC.toPost (by simp [ownR])⟩
        ·
          have h3b := of_decide_eq_false h3
          refine W.skip ?_
          refine hk12 _ _ ?_; clear hk12; try clear k12
          refine W.seqk fun k15 hk15 => ?_
          replace hC := hC.fr4
          replace hC := hC.fr4
          replace hC := hC.fr4
          replace hC := hC.fr3
          replace hC := hC.fr4
          refine W.drawN (fun c' γ => match c' with | 0 => [ownR ov 65 attE l', blkR nb (callE c ov) 56, blkR rb (callE Zero'.zero (.slice none 0 0)) 56, blkR sb (csE s) 60, rdR mv attE m] | 1 => [ownR γ 65 attE (l' ++ [m[j]!]), blkR nb (callE c ov) 56, blkR rb (callE Zero'.zero (.slice none 0 0)) 56, blkR sb (csE s) 60, rdR mv attE m] | _ => [blkR nb (callE c γ) 56, ownR γ 65 attE (l' ++ [m[j]!]), blkR rb (callE Zero'.zero (.slice none 0 0)) 56, blkR sb (csE s) 60, rdR mv attE m]) undef hC Try.mixed rfl rfl ?_
          apply ERN.q (.det _ _) 1 rfl rfl
          · intro c' γ hle
            obtain rfl | rfl := (by omega : c' = 0 ∨ c' = 1)
            · intro a w hC
              refine L.fa hC rfl rfl rfl (fun _ => All.nil) Try.underlying56 rfl Try.sizeOf54 rfl rfl rfl ?_; clear hC a; intro a hC
              exact L.nil ⟨⟨_, [], hC⟩, Frm.refl _ _⟩
            · intro a w hC
              refine L.fa hC rfl rfl rfl (fun _ => All.nil) Try.underlying56 rfl Try.sizeOf54 rfl rfl rfl ?_; clear hC a; intro a hC
              exact L.nil ⟨⟨_, [], hC⟩, Frm.refl _ _⟩
          apply ERN.q (.det _ _) 0 rfl rfl
          · intro c' γ hle
            obtain rfl := (by omega : c' = 0)
            · intro a w hC
              refine L.ld hC rfl rfl rfl (fun _ => All.nil) m1 Try.isAgg54 rfl rfl rfl ?_; clear hC a; intro a hC
              exact L.nil ⟨⟨_, [], hC⟩, Frm.refl _ _⟩
          apply ERN.q (.det _ _) 1 rfl rfl
          · intro c' γ hle
            obtain rfl | rfl := (by omega : c' = 0 ∨ c' = 1)
            · intro a w hC
              refine L.pu hC rfl rfl (fun _ => All.nil) rfl rfl ?_; clear hC a; intro a hC
              exact L.nil ⟨⟨_, [], hC⟩, Frm.refl _ _⟩
            · intro a w hC
              refine L.pu hC rfl rfl (fun _ => All.nil) rfl rfl ?_; clear hC a; intro a hC
              exact L.nil ⟨⟨_, [], hC⟩, Frm.refl _ _⟩
          apply ERN.q (.det _ _) 1 rfl rfl
          · intro c' γ hle
            obtain rfl | rfl := (by omega : c' = 0 ∨ c' = 1)
            · intro a w hC
              refine L.pu hC rfl rfl (fun _ => All.nil) rfl rfl ?_; clear hC a; intro a hC
              exact L.nil ⟨⟨_, [], hC⟩, Frm.refl _ _⟩
            · intro a w hC
              refine L.pu hC rfl rfl (fun _ => All.nil) rfl rfl ?_; clear hC a; intro a hC
              exact L.nil ⟨⟨_, [], hC⟩, Frm.refl _ _⟩
          apply ERN.q (.det _ _) 1 rfl rfl
          · intro c' γ hle
            obtain rfl | rfl := (by omega : c' = 0 ∨ c' = 1)
            · intro a w hC
              refine L.ixr hC rfl rfl rfl rfl m4 (fun _ => All.nil) (fun _ => All.nil) Try.underlying54 Try.sizeOf65 (fun _ => by omega) rfl rfl ?_; clear hC a; intro a hC
              exact L.nil ⟨⟨_, [], hC⟩, Frm.refl _ _⟩
            · intro a w hC
              refine L.ixr hC rfl rfl rfl rfl m4 (fun _ => All.nil) (fun _ => All.nil) Try.underlying54 Try.sizeOf65 (fun _ => by omega) rfl rfl ?_; clear hC a; intro a hC
              exact L.nil ⟨⟨_, [], hC⟩, Frm.refl _ _⟩
          apply ERN.q (.det _ _) 1 rfl rfl
          · intro c' γ hle
            obtain rfl | rfl := (by omega : c' = 0 ∨ c' = 1)
            · intro a w hC
              refine L.ldxa hC rfl rfl rfl rfl (fun _ => All.nil) (fun hg => rd_bang hC m4 (by omega) _) Try.isAgg65 Try.sizeOf65 rfl rfl rfl rfl ?_; clear hC a; intro a hC
              exact L.nil ⟨⟨_, [], hC⟩, Frm.refl _ _⟩
            · intro a w hC
              refine L.ldxa hC rfl rfl rfl rfl (fun _ => All.nil) (fun hg => rd_bang hC m4 (by omega) _) Try.isAgg65 Try.sizeOf65 rfl rfl rfl rfl ?_; clear hC a; intro a hC
              exact L.nil ⟨⟨_, [], hC⟩, Frm.refl _ _⟩
          apply ERN.q (.lit _ _ fun v => rdR v attE _) 0 rfl rfl
          · intro c' γ hle
            obtain rfl := (by omega : c' = 0)
            · intro a w hC
              refine L.bsP hC rfl rfl rfl Try.underlying54 Try.infoI65 rfl rfl rfl rfl rfl rfl rfl ?_; clear hC a; intro b3 a w hF hC
              replace hC := hC.litrd (E := attE) [m[j]!] rfl (Nat.le_of_ble_eq_true rfl)
              exact L.nil ⟨⟨_, _, [], fun _ h => h.2, hC⟩, hF⟩
          apply ERN.f true (fun h => rfl) rfl rfl
          · intro γ v6 a w hC
            replace hC := hC.fr1
            refine L.appr hC rfl rfl rfl rfl (hC.at m1 trivial) Try.underlying54 Try.infoI65 rfl (by simp; omega) (by simp; omega) rfl rfl ?_; clear hC a; intro v4 a w hF hC
            exact L.nil ⟨v4, _, (fun h => by cases h), (hC.env.vals 40 (none, v4) rfl), hC.dr1, hF.dr1 (fun _ h => h.2)⟩
          apply ERN.q (.det _ _) 1 rfl rfl
          · intro c' γ hle
            obtain rfl | rfl := (by omega : c' = 0 ∨ c' = 1)
            · intro v6 a w hC
              refine L.fa hC rfl rfl rfl (fun _ => All.nil) Try.underlying56 rfl Try.sizeOf54 rfl rfl rfl ?_; clear hC a; intro a hC
              exact L.nil ⟨⟨_, [_], hC⟩, Frm.refl _ _⟩
            · intro v6 a w hC
              refine L.fa hC rfl rfl rfl (fun _ => All.nil) Try.underlying56 rfl Try.sizeOf54 rfl rfl rfl ?_; clear hC a; intro a hC
              exact L.nil ⟨⟨_, [_], hC⟩, Frm.refl _ _⟩
          apply ERN.f false (fun h => by cases h) rfl rfl
          · intro γ v6 a w hC
            replace hC := hC.fr2
            refine L.st hC rfl rfl rfl rfl Try.sizeOf54 (cells_sl (own_form (hC.at m2))) rfl (one_sl (own_form (hC.at m2))) rfl rfl ?_; clear hC a; intro a w hF hC
            exact L.nil ⟨γ, _, fun _ => rfl, trivial, hC.dr1, ((hF.dr1 (fun _ h => h.2)).perm (List.Perm.swap ..) (List.Perm.refl _))⟩
          refine ERN.nil ?_
          intro γ w' v6 a w hC hw
          subst hw
          replace hC := hC.tail
          refine hk15 _ _ ?_; clear hk15; try clear k15
          refine W.seqk fun k16 hk16 => ?_
          refine W.region ?_
          refine L.pu hC rfl rfl (fun _ => All.nil) rfl rfl ?_; clear hC a; intro a hC
          refine L.pu hC rfl rfl (fun _ => All.nil) rfl rfl ?_; clear hC a; intro a hC
          refine L.ixr hC rfl rfl rfl rfl m4 (fun _ => All.nil) (fun _ => All.nil) Try.underlying54 Try.sizeOf65 (fun _ => by omega) rfl rfl ?_; clear hC a; intro a hC
          refine L.fae hC rfl rfl rfl (fun _ => All.nil) Try.underlying65 rfl Try.sizeOf4 rfl (fun hg => rd_some (hC.at m4) (by omega)) rfl rfl ?_; clear hC a; intro a hC
          refine L.ldx hC rfl rfl rfl rfl (fun _ => All.nil) (fun hg => rd_bang hC m4 (by omega) _) Try.isAgg4 rfl rfl rfl ?_; clear hC a; intro a hC
          refine L.pu hC rfl rfl (fun _ => All.nil) rfl rfl ?_; clear hC a; intro a hC
          refine L.lda hC rfl rfl rfl (fun _ => All.nil) m0 Try.isAgg56 Try.sizeOf56 rfl rfl rfl rfl ?_; clear hC a; intro a hC
          refine L.lda hC rfl rfl rfl (fun _ => All.nil) m3 Try.isAgg60 Try.sizeOf60 rfl rfl rfl rfl ?_; clear hC a; intro a hC
          refine L.call hC rfl rfl Try.call39 rfl (fun hg => by first | (simp only [Gt, Bool.and_eq_true] at hg; simp only [All, List.cons_append, List.nil_append, List.append_nil, List.mem_cons, List.not_mem_nil, or_false, forall_eq_or_imp, forall_eq, Bool.and_eq_true, hg, Bool.not_false, Bool.not_true, and_self]; done) | (simp only [Gt] at hg; simp only [All, List.cons_append, List.nil_append, List.append_nil, List.mem_cons, List.not_mem_nil, or_false, forall_eq_or_imp, forall_eq, hg, and_self])) (fun hg => chkr_ok c _ s (l' ++ [m[j]!]) _ (own_rd (hC.at m1))) rfl rfl ?_; clear hC a; intro a w hF hC
          refine L.pu hC rfl rfl (fun hg => by first | (simp only [Gt, Bool.and_eq_true] at hg; simp only [All, List.cons_append, List.nil_append, List.append_nil, List.mem_cons, List.not_mem_nil, or_false, forall_eq_or_imp, forall_eq, Bool.and_eq_true, hg, Bool.not_false, Bool.not_true, and_self]; done) | (simp only [Gt] at hg; simp only [All, List.cons_append, List.nil_append, List.append_nil, List.mem_cons, List.not_mem_nil, or_false, forall_eq_or_imp, forall_eq, hg, and_self])) rfl rfl ?_; clear hC a; intro a hC
          refine L.or hC rfl rfl rfl rfl (fun _ => All.nil) (fun _ hp => by first | (simp only [All, List.cons_append, List.nil_append, List.append_nil, List.mem_cons, List.not_mem_nil, or_false, forall_eq_or_imp, forall_eq, Bool.and_eq_true, hp, Bool.not_false, Bool.not_true, and_self]; done) | simp [All, hp]) rfl rfl ?_; clear hC a; intro a hC
          refine L.nil ?_
          refine hk16 _ _ ?_; clear hk16; try clear k16
          refine W.cond hC rfl (fun h4 => ?_) (fun h4 => ?_)
          ·
            rw [chk_ne h10] at h4
            refine W.seqk fun k17 hk17 => ?_
            refine W.region ?_
            refine L.buildS (ps := [(0, 1), (1, 4), (5, 1), (6, 1), (7, 1), (8, 1), (9, 1)]) hC rfl rfl rfl (fun _ => All.nil) Try.zeroValue56 Try.underlying56 ⟨⟨rfl, Try.sizeOf3⟩, ⟨rfl, Try.sizeOf53⟩, ⟨rfl, Try.sizeOf4⟩, ⟨rfl, Try.sizeOf3⟩, ⟨rfl, Try.sizeOf3⟩, ⟨rfl, Try.sizeOf3⟩, ⟨rfl, Try.sizeOf54⟩, trivial⟩ rfl rfl rfl ?_; clear hC a; intro a hC
            replace hC := hC.fr2
            refine L.st hC rfl rfl rfl rfl Try.sizeOf56 rfl rfl rfl rfl rfl ?_; clear hC a; intro a w hF hC
            refine L.pu hC rfl rfl (fun _ => All.nil) rfl rfl ?_; clear hC a; intro a hC
            refine L.nil ?_
            refine hk17 _ _ ?_; clear hk17; try clear k17
            refine W.ret ?_
            refine retl hC rfl (.agg rfl m0 Try.isAgg56 Try.sizeOf56 rfl (.tmp rfl .nil)) rfl ?_
            replace hC := (hC.drop).nilown (ty := 65) (E := attE)
            exact ⟨_, (by rw [send_c h1 hS (by omega) h3 h4]; try rfl), trivial, by rw [send_c h1 hS (by omega) h3 h4]; exact hC.toPost (by simp [ownR])⟩
          ·
            rw [chk_ne h10] at h4
            refine W.skip ?_
            refine hk11 _ _ ?_; clear hk11; try clear k11
            refine W.region ?_
            refine L.pu hC rfl rfl (fun _ => All.nil) rfl rfl ?_; clear hC a; intro a hC
            refine L.pu hC rfl rfl (fun _ => All.nil) rfl rfl ?_; clear hC a; intro a hC
            refine L.pu hC rfl rfl (fun _ => All.nil) rfl rfl ?_; clear hC a; intro a hC
            refine L.nil ?_
            replace hC := hC.fr4
            replace hC := hC.fr4
            replace hC := hC.fr4
            replace hC := hC.fr4
            replace hC := hC.fr4
            exact ⟨(j + 1, l' ++ [m[j]!], γ), ⟨by omega, by simp; omega, by rw [← hS]; exact (send_step (by omega) (by assumption) (by assumption)).symm, hC.keep ⟨geti rfl (w64 (by omega)), rfl, rfl, rfl, rfl, trivial⟩⟩, by first | omega | (dsimp only; omega)⟩
      ·
        have h2 := of_decide_eq_false h2
        refine W.exit ?_
        refine Kb.here ?_
        refine hk7 _ _ ?_; clear hk7; try clear k7
        refine W.seqk fun k18 hk18 => ?_
        refine W.region ?_
        refine L.lda hC rfl rfl rfl (fun _ => All.nil) m0 Try.isAgg56 Try.sizeOf56 rfl rfl rfl rfl ?_; clear hC a; intro a hC
        replace hC := hC.fr2
        refine L.st hC rfl rfl rfl rfl Try.sizeOf56 rfl rfl (by obtain ⟨oA, oc, hov⟩ := own_form (hC.at m2); rw [hov]; rfl) rfl rfl ?_; clear hC a; intro a w hF hC
        refine L.pu hC rfl rfl (fun _ => All.nil) rfl rfl ?_; clear hC a; intro a hC
        refine L.nil ?_
        refine hk18 _ _ ?_; clear hk18; try clear k18
        refine W.ret ?_
        refine retl hC rfl (.agg rfl m0 Try.isAgg56 Try.sizeOf56 rfl (.tmp rfl .nil)) rfl ?_
        replace hC := hC.subl (.cons _ (.cons _ (.cons_cons _ (.cons _ (.cons _ .slnil)))))
        exact ⟨_, (by rw [send_d h1 hS (by omega)]; try rfl), trivial, by rw [send_d h1 hS (by omega)]; exact hC.toPost (by simp [ownR])⟩

end Go.Proofs.E
