/- The plain law of subsets. -/
import Derived.Test.YtgekiiildobfkaaS6
set_option linter.unusedVariables false
set_option linter.unusedSimpArgs false
namespace Go.Proofs.E
open Go.RowKit
theorem rises_lt : ∀ (l : List Int) (last : Int), rises last l = true → (∀ x ∈ l, last < x) ∧ l.Pairwise (fun x y => x < y)
  | [], last, _ => by simp
  | x :: l, last, h => by
    unfold rises at h
    split at h
    · cases h
    · rename_i h1
      rw [decide_eq_true_eq] at h1
      obtain ⟨h2, h3⟩ := rises_lt l x h
      refine ⟨fun y hy => ?_, List.pairwise_cons.2 ⟨h2, h3⟩⟩
      rcases List.mem_cons.1 hy with rfl | hy
      · omega
      · have := h2 y hy; omega
theorem pair_bang {l : List Int} (h : l.Pairwise (fun x y => x < y)) {i j : Nat} (hij : i < j) (hj : j < l.length) : l[i]! < l[j]! := by
  rw [bang (show i < l.length by omega), bang hj]
  exact List.pairwise_iff_getElem.1 h i j (by omega) hj hij
theorem strict {l : List Int} (h1 : l.Pairwise (fun x y => x ≤ y)) (h2 : l.Nodup) : l.Pairwise (fun x y => x < y) := by
  refine (h1.and h2).imp (fun h => ?_)
  have := h.1; have := h.2; omega
/-- What a hand is. -/
theorem hand_facts {ids : List Int} {size seed round : Int} {p q : Nat} (hl : ids.length ≤ 32) (hr : rises (-1) ids = true) (hpq : size < ids.length → p < q ∧ q ≤ ids.length) :
    (∀ x ∈ handR ids size seed round p q, x ∈ ids) ∧ (handR ids size seed round p q).Pairwise (fun x y => x < y) ∧ ((handR ids size seed round p q).length = if (ids.length : Int) ≤ size then ids.length else q - p) := by
  have hs := (rises_lt ids _ hr).2
  unfold handR
  by_cases hc : (ids.length : Int) ≤ size
  · rw [if_pos (decide_eq_true hc), if_pos hc]
    exact ⟨fun x h => h, hs, rfl⟩
  · rw [if_neg (by simpa using hc), if_neg hc]
    obtain ⟨h1, h2⟩ := hpq (by omega)
    have hp := shufR_perm (hints seed [round]) (n := ids.length) (by omega)
    have hm := shuf_mem (hints seed [round]) (n := ids.length) (by omega)
    have hlen := hp.length_eq
    rw [upI_len] at hlen
    generalize (shufR (hints seed [round]) (ids.length : Int)).2.1 = o at *
    have hnd : o.Nodup := by
      rw [hp.nodup_iff]
      unfold upI
      exact List.Pairwise.map (fun (i : Nat) => (i : Int)) (fun a b h e => h (Int.ofNat.inj e)) List.nodup_range
    have hpart : ((o.drop p).take (q - p)).Sublist o := (List.take_sublist _ _).trans (List.drop_sublist _ _)
    have hpm : ∀ x ∈ (o.drop p).take (q - p), 0 ≤ x ∧ x < ids.length := fun x hx => hm x (hpart.subset hx)
    have hpn := hnd.sublist hpart
    have hpl : ((o.drop p).take (q - p)).length = q - p := by rw [List.length_take, List.length_drop]; omega
    generalize (o.drop p).take (q - p) = t at *
    have hmap : (t.map fun i => ids[i.toNat]!).Nodup := by
      refine List.pairwise_map.2 (List.Pairwise.imp_of_mem (fun {x y} hx hy hne hxy => hne ?_) hpn)
      have hx := hpm x hx
      have hy := hpm y hy
      rcases Int.lt_trichotomy x y with h | h | h
      · have := pair_bang hs (i := x.toNat) (j := y.toNat) (by omega) (by omega); omega
      · exact h
      · have := pair_bang hs (i := y.toNat) (j := x.toNat) (by omega) (by omega); omega
    refine ⟨fun x hx => ?_, strict (sortI_sorted _) ((sortI_perm _).nodup_iff.2 hmap), by rw [sortI_len, List.length_map, hpl]⟩
    obtain ⟨i, hi, rfl⟩ := List.mem_map.1 ((sortI_perm _).mem_iff.1 hx)
    have := hpm i hi
    exact bang_mem' (by omega)
end Go.Proofs.E
