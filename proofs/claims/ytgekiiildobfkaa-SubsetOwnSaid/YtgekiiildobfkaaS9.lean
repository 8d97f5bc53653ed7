/- The plain law of two clients' subsets. -/
import Derived.Test.YtgekiiildobfkaaS8
set_option linter.unusedVariables false
set_option linter.unusedSimpArgs false
namespace Go.Proofs.E
open Go.RowKit
theorem round_form {n c s : Int} (h : (roundR n c s).2.2 = 0) (hs : s < n) : 1 ≤ n / s ∧ (roundR n c s).1 = c / (n / s) ∧ (roundR n c s).2.1 = c % (n / s) := by
  unfold roundR at h ⊢
  split at h
  · cases h
  · rename_i h3
    rw [Bool.not_eq_true] at h3
    rw [if_neg (nt h3)]
    have h4 : decide (n ≤ s) = false := decide_eq_false (by omega)
    rw [if_neg (nt h4)]
    obtain ⟨e1, e2, e3⟩ := round_val h3 h4
    simp only [Bool.or_eq_false_iff, decide_eq_false_iff_not] at h3
    dsimp only
    rw [e1]
    have h0 : c.tdiv (n / s) = c / (n / s) := Int.tdiv_eq_ediv_of_nonneg (by omega)
    have h5 := Int.ediv_le_self (n / s) (a := c) (by omega)
    have h6 : 0 ≤ c / (n / s) := Int.ediv_nonneg (by omega) (by omega)
    rw [h0, w64 (by omega), Int.tmod_eq_emod_of_nonneg (by omega)]
    exact ⟨e2, rfl, rfl⟩
theorem of_parts {ids : List Int} {client size seed : Int} (h : ((ofR ids client size seed).2 != 0) = false) :
    ((chkD ids != 0) = false) ∧ (((roundR (ids.length : Int) client size).2.2 != 0) = false) ∧ (ofR ids client size seed).1 = handR ids size seed (roundR (ids.length : Int) client size).1 ((roundR (ids.length : Int) client size).2.1 * size).toNat (((roundR (ids.length : Int) client size).2.1 + 1) * size).toNat := by
  unfold ofR at h ⊢
  split at h
  · rename_i h1; rw [h1] at h; cases h
  · rename_i h1
    rw [if_neg h1]
    split at h
    · rename_i h2; rw [h2] at h; cases h
    · rename_i h2
      rw [if_neg h2]
      exact ⟨by simpa using h1, by simpa using h2, rfl⟩
theorem chk_rises {ids : List Int} (h : (chkD ids != 0) = false) : rises (-1) ids = true := by
  have h1 : chkD ids = 0 := by simpa using h
  unfold chkD at h1
  split at h1
  · cases h1
  · split at h1
    · cases h1
    · rename_i h; simpa using h
theorem at_of_mem {o : List Int} {p m : Nat} {x : Int} (h : x ∈ (o.drop p).take m) : ∃ j, p ≤ j ∧ j < p + m ∧ o[j]? = some x := by
  obtain ⟨i, hi⟩ := List.mem_iff_getElem?.1 h
  rw [List.getElem?_take] at hi
  split at hi
  · rw [List.getElem?_drop] at hi
    exact ⟨p + i, by omega, by omega, hi⟩
  · cases hi
theorem hand_apart {ids : List Int} {size seed round : Int} {p q p' q' : Nat} (hl : ids.length ≤ 32) (hr : rises (-1) ids = true) (hs : size < ids.length) (hd : q ≤ p' ∨ q' ≤ p) (hpq : p ≤ q) (hpq' : p' ≤ q') :
    ∀ x ∈ handR ids size seed round p q, x ∉ handR ids size seed round p' q' := by
  have hu := (rises_lt ids _ hr).2
  unfold handR
  have hc : ¬ (ids.length : Int) ≤ size := by omega
  rw [if_neg (by simpa using hc), if_neg (by simpa using hc)]
  have hp := shufR_perm (hints seed [round]) (n := ids.length) (by omega)
  have hm := shuf_mem (hints seed [round]) (n := ids.length) (by omega)
  generalize (shufR (hints seed [round]) (ids.length : Int)).2.1 = o at *
  have hnd : o.Nodup := by
    rw [hp.nodup_iff]
    unfold upI
    exact List.Pairwise.map (fun (i : Nat) => (i : Int)) (fun a b h e => h (Int.ofNat.inj e)) List.nodup_range
  intro x hx hx'
  obtain ⟨i, hi, rfl⟩ := List.mem_map.1 ((sortI_perm _).mem_iff.1 hx)
  obtain ⟨k, hk, hik⟩ := List.mem_map.1 ((sortI_perm _).mem_iff.1 hx')
  obtain ⟨j1, a1, a2, a3⟩ := at_of_mem hi
  obtain ⟨j2, b1, b2, b3⟩ := at_of_mem hk
  have mi := hm i (List.mem_of_getElem? a3)
  have mk := hm k (List.mem_of_getElem? b3)
  have e : i = k := by
    rcases Int.lt_trichotomy i k with h | h | h
    · have := pair_bang hu (i := i.toNat) (j := k.toNat) (by omega) (by omega); omega
    · exact h
    · have := pair_bang hu (i := k.toNat) (j := i.toNat) (by omega) (by omega); omega
  subst e
  have hj : j1 < o.length := (List.getElem?_eq_some_iff.1 a3).1
  have := (List.getElem?_inj hj hnd).1 (a3.trans b3.symm)
  omega
theorem ofs_apart {ids : List Int} {a b size seed : Int} (h1 : ((ofR ids a size seed).2 != 0) = false) (h2 : ((ofR ids b size seed).2 != 0) = false) (hs : size < ids.length) (hab : a ≠ b) (hr : (roundR (ids.length : Int) a size).1 = (roundR (ids.length : Int) b size).1) :
    ∀ x ∈ (ofR ids a size seed).1, x ∉ (ofR ids b size seed).1 := by
  obtain ⟨c1, r1, e1⟩ := of_parts h1
  obtain ⟨c2, r2, e2⟩ := of_parts h2
  obtain ⟨f1, f2, f3, f4, f5, f6⟩ := of_facts c1 r1
  obtain ⟨g1, g2, g3, g4, g5, g6⟩ := of_facts c2 r2
  obtain ⟨k1, k2, k3⟩ := round_form (by simpa using r1) hs
  obtain ⟨l1, l2, l3⟩ := round_form (by simpa using r2) hs
  have hne : (roundR (ids.length : Int) a size).2.1 ≠ (roundR (ids.length : Int) b size).2.1 := by
    intro e
    rw [k2, l2] at hr
    rw [k3, l3] at e
    have m1 := Int.emod_add_mul_ediv a (ids.length / size)
    have m2 := Int.emod_add_mul_ediv b (ids.length / size)
    rw [hr, e] at m1
    omega
  rw [e1, e2, hr]
  generalize (roundR (ids.length : Int) a size).2.1 = u at *
  generalize (roundR (ids.length : Int) b size).2.1 = v at *
  have x1 : (u + 1) * size = u * size + size := by rw [Int.add_mul, Int.one_mul]
  have x2 : (v + 1) * size = v * size + size := by rw [Int.add_mul, Int.one_mul]
  refine hand_apart f1 (chk_rises c1) hs ?_ (by omega) (by omega)
  rcases Int.lt_or_gt_of_ne hne with h | h
  · have := Int.mul_le_mul_of_nonneg_right (show u + 1 ≤ v by omega) (show 0 ≤ size by omega)
    exact .inl (by omega)
  · have := Int.mul_le_mul_of_nonneg_right (show v + 1 ≤ u by omega) (show 0 ≤ size by omega)
    exact .inr (by omega)
theorem apart_has {ids q q2 : List Int} {a b size seed : Int} {j : Nat} (h1 : ((ofR ids a size seed).2 != 0) = false) (h2 : ((ofR ids b size seed).2 != 0) = false) (hs : size < ids.length) (hab : a ≠ b) (hr : (roundR (ids.length : Int) a size).1 = (roundR (ids.length : Int) b size).1)
    (hq : (ofR ids a size seed).1 = q) (hq2 : (ofR ids b size seed).1 = q2) (hj : j < q.length) : (q2.any fun y => y == q[j]!) = false := by
  refine Bool.eq_false_iff.2 fun h => ?_
  obtain ⟨y, hy, he⟩ := List.any_eq_true.1 h
  have he : y = q[j]! := by simpa using he
  subst he
  exact ofs_apart h1 h2 hs hab hr _ (by rw [hq]; exact bang_mem' hj) (by rw [hq2]; exact hy)
end Go.Proofs.E
