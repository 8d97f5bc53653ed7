/- The plain law of queues: what comes of a queue is one. -/
import Derived.Test.YtgekiiildobfkaaT11
set_option linter.unusedVariables false
set_option linter.unusedSimpArgs false
namespace Go.Proofs.E
open Go.RowKit
def le (x y : Int × Int) : Prop := ¬ ordI y x < 0
theorem le_spec (x y : Int × Int) : le x y ↔ (x.1 < y.1 ∨ (x.1 = y.1 ∧ x.2 ≤ y.2)) := by unfold le; rw [ordI_spec]; omega
theorem le_trans {x y z : Int × Int} (h : le x y) (k : le y z) : le x z := by rw [le_spec] at *; omega
theorem le_of_lt {x y : Int × Int} (h : ordI x y < 0) : le x y := by rw [ordI_spec] at h; rw [le_spec]; omega
theorem le_total {x y : Int × Int} : le x y ∨ le y x := by simp only [le_spec]; omega
def Hp (l : List (Int × Int)) : Prop := ∀ k, 0 < k → k < l.length → le l[(k - 1) / 2]! l[k]!
theorem bad_iff (l : List (Int × Int)) : badH l = false ↔ Hp l := by
  unfold badH Hp le
  rw [List.any_eq_false]
  constructor
  · intro h k h0 hk
    have := h k (by simpa using hk)
    unfold badAt at this
    simp only [Bool.not_eq_true, Bool.and_eq_false_iff, decide_eq_false_iff_not] at this
    rcases this with this | this
    · omega
    · exact this
  · intro h k hk
    unfold badAt
    simp only [Bool.not_eq_true, Bool.and_eq_false_iff, decide_eq_false_iff_not]
    by_cases h0 : 0 < k
    · exact .inr (h k h0 (by simpa using hk))
    · exact .inl (by omega)
theorem set_bang (l : List (Int × Int)) (i m : Nat) (x : Int × Int) (hi : i < l.length) : (l.set i x)[m]! = if m = i then x else l[m]! := by
  by_cases h : m = i
  · subst h
    rw [if_pos rfl, bang (by rw [List.length_set]; exact hi)]
    simp
  · rw [if_neg h]
    simp only [List.getElem!_eq_getElem?_getD]
    rw [List.getElem?_set_ne (by omega)]
theorem swp_bang {l : List (Int × Int)} {i k : Nat} (m : Nat) (hi : i < l.length) (hk : k < l.length) : (swp l i k)[m]! = if m = k then l[i]! else if m = i then l[k]! else l[m]! := by
  unfold swp
  rw [set_bang _ _ _ _ (by rw [List.length_set]; exact hk), set_bang _ _ _ _ hi]
theorem swp_perm {l : List (Int × Int)} {i k : Nat} (hi : i < l.length) (hk : k < l.length) : (swp l i k).Perm l := by
  unfold swp
  rw [bang hi, bang hk]
  exact List.set_set_perm hi hk
theorem swp_len (l : List (Int × Int)) (i k : Nat) : (swp l i k).length = l.length := by simp [swp]

/-! ### up -/
def HU (l : List (Int × Int)) (i : Nat) : Prop := ∀ k, 0 < k → k < l.length → (k ≠ i → le l[(k - 1) / 2]! l[k]!) ∧ ((k - 1) / 2 = i → 0 < i → le l[(i - 1) / 2]! l[k]!)
theorem HU_step {l : List (Int × Int)} {i : Nat} (h : HU l i) (h0 : 0 < i) (hi : i < l.length) (hlt : ordI l[i]! l[(i - 1) / 2]! < 0) : HU (swp l i ((i - 1) / 2)) ((i - 1) / 2) := by
  have hp : (i - 1) / 2 < i := by omega
  intro k hk0 hk
  rw [swp_len] at hk
  generalize hpe : (i - 1) / 2 = p at *
  have hb := fun m => swp_bang (l := l) (i := i) (k := p) m hi (by omega)
  have hlt' := le_of_lt hlt
  refine ⟨fun hne => ?_, fun hq h0p => ?_⟩
  · by_cases hki : k = i
    · subst hki
      rw [hpe, hb p, hb k, if_pos rfl, if_neg (by omega), if_pos rfl]
      exact hlt'
    · have h1 := h k hk0 hk
      rw [hb k, if_neg hne, if_neg hki, hb]
      split
      · rename_i e
        exact le_trans hlt' (by have := h1.1 hki; rwa [e] at this)
      · split
        · rename_i e
          have := h1.2 e h0
          rwa [hpe] at this
        · exact h1.1 hki
  · have hr : (p - 1) / 2 < p := by omega
    have hpp := (h p h0p (by omega)).1 (by omega)
    rw [hb ((p - 1) / 2), if_neg (by omega), if_neg (by omega), hb k, if_neg (by omega)]
    split
    · exact hpp
    · rename_i hki
      exact le_trans hpp (by have := (h k hk0 hk).1 hki; rwa [hq] at this)
theorem siftUp_heap : ∀ (i : Nat) (l : List (Int × Int)), HU l i → i < l.length → Hp (siftUp l i) := by
  intro i
  induction i using Nat.strongRecOn with
  | _ i ih =>
    intro l h hi
    rw [siftUp]
    split
    · rename_i h0
      split
      · rename_i hlt
        exact ih _ (by omega) _ (HU_step h h0 hi hlt) (by rw [swp_len]; omega)
      · rename_i hn
        intro k hk0 hk
        by_cases hki : k = i
        · subst hki; exact hn
        · exact (h k hk0 hk).1 hki
    · rename_i h0
      intro k hk0 hk
      exact (h k hk0 hk).1 (by omega)
theorem siftUp_perm : ∀ (i : Nat) (l : List (Int × Int)), i < l.length → (siftUp l i).Perm l := by
  intro i
  induction i using Nat.strongRecOn with
  | _ i ih =>
    intro l hi
    rw [siftUp]
    split
    · split
      · exact (ih _ (by omega) _ (by rw [swp_len]; omega)).trans (swp_perm hi (by omega))
      · exact List.Perm.refl _
    · exact List.Perm.refl _
theorem app_bang {l : List (Int × Int)} {x : Int × Int} {k : Nat} (h : k < l.length) : (l ++ [x])[k]! = l[k]! := by
  simp only [List.getElem!_eq_getElem?_getD, List.getElem?_append_left h]
theorem pushH_heap {l : List (Int × Int)} {x : Int × Int} (h : Hp l) : Hp (pushH l x) := by
  refine siftUp_heap _ _ (fun k hk0 hk => ⟨fun hne => ?_, fun hq h0 => ?_⟩) (by simp)
  · simp at hk
    rw [app_bang (by omega), app_bang (by omega)]
    exact h k hk0 (by omega)
  · simp at hk; omega
theorem pushH_perm (l : List (Int × Int)) (x : Int × Int) : (pushH l x).Perm (l ++ [x]) := siftUp_perm _ _ (by simp)

/-! ### down -/
def HD (l : List (Int × Int)) (i : Nat) : Prop := ∀ k, 0 < k → k < l.length → ((k - 1) / 2 ≠ i → le l[(k - 1) / 2]! l[k]!) ∧ ((k - 1) / 2 = i → 0 < i → le l[(i - 1) / 2]! l[k]!)
theorem kid_par (l : List (Int × Int)) (i : Nat) : (kid l i - 1) / 2 = i := by unfold kid; split <;> omega
theorem kid_min {l : List (Int × Int)} {i k : Nat} (h : 2 * i + 1 < l.length) (hk0 : 0 < k) (hk : k < l.length) (hq : (k - 1) / 2 = i) : le l[kid l i]! l[k]! := by
  have hk2 : k = 2 * i + 1 ∨ k = 2 * i + 1 + 1 := by omega
  unfold kid
  split
  · rename_i hc
    rw [Bool.and_eq_true, decide_eq_true_eq, decide_eq_true_eq] at hc
    rcases hk2 with rfl | rfl
    · exact le_of_lt hc.2
    · rw [le_spec]; omega
  · rename_i hc
    rw [Bool.and_eq_true, decide_eq_true_eq, decide_eq_true_eq] at hc
    rcases hk2 with rfl | rfl
    · rw [le_spec]; omega
    · exact fun hh => hc ⟨hk, hh⟩
theorem HD_step {l : List (Int × Int)} {i : Nat} (h : HD l i) (hc : 2 * i + 1 < l.length) (hlt : ordI l[kid l i]! l[i]! < 0) : HD (swp l i (kid l i)) (kid l i) := by
  have h1 := kid_le l i
  have h2 := kid_lt hc
  have h3 := kid_par l i
  have h4 := fun k => kid_min (k := k) hc
  intro k hk0 hk
  rw [swp_len] at hk
  generalize kid l i = c at *
  have hb := fun m => swp_bang (l := l) (i := i) (k := c) m (by omega) h2
  refine ⟨fun hne => ?_, fun hq _ => ?_⟩
  · by_cases hkc : k = c
    · subst hkc
      rw [h3, hb i, hb k, if_neg (by omega), if_pos rfl, if_pos rfl]
      exact le_of_lt hlt
    · by_cases hki : k = i
      · subst hki
        rw [hb ((k - 1) / 2), if_neg (by omega), if_neg (by omega), hb k, if_neg hkc, if_pos rfl]
        exact (h c (by omega) h2).2 h3 hk0
      · rw [hb k, if_neg hkc, if_neg hki, hb, if_neg hne]
        split
        · rename_i e
          exact h4 k hk0 hk e
        · rename_i e
          exact (h k hk0 hk).1 e
  · rw [h3, hb i, if_neg (by omega), if_pos rfl, hb k, if_neg (by omega), if_neg (by omega)]
    have := (h k hk0 hk).1 (by omega)
    rwa [hq] at this
theorem sinkH_heap (l : List (Int × Int)) (i : Nat) (h : HD l i) : Hp (sinkH l i) := by
  generalize hm : l.length - i = m
  induction m using Nat.strongRecOn generalizing l i with
  | _ m ih =>
    by_cases hc : 2 * i + 1 < l.length
    · by_cases hn : ordI l[kid l i]! l[i]! < 0
      · have h1 := kid_le l i
        have h2 := kid_lt hc
        rw [sinkH_step hc rfl hn]
        exact ih (l.length - kid l i) (by omega) _ _ (HD_step h hc hn) (by rw [swp_len])
      · rw [sinkH_stop hc rfl hn]
        intro k hk0 hk
        by_cases hq : (k - 1) / 2 = i
        · rw [hq]; exact le_trans hn (kid_min hc hk0 hk hq)
        · exact (h k hk0 hk).1 hq
    · rw [sinkH_end hc]
      intro k hk0 hk
      exact (h k hk0 hk).1 (by omega)
theorem sinkH_perm (l : List (Int × Int)) (i : Nat) (hi : i < l.length ∨ l.length ≤ 2 * i + 1) : (sinkH l i).Perm l := by
  generalize hm : l.length - i = m
  induction m using Nat.strongRecOn generalizing l i with
  | _ m ih =>
    by_cases hc : 2 * i + 1 < l.length
    · by_cases hn : ordI l[kid l i]! l[i]! < 0
      · have h1 := kid_le l i
        have h2 := kid_lt hc
        rw [sinkH_step hc rfl hn]
        exact (ih (l.length - kid l i) (by omega) _ _ (by rw [swp_len]; exact .inl h2) (by rw [swp_len])).trans (swp_perm (by omega) h2)
      · rw [sinkH_stop hc rfl hn]
    · rw [sinkH_end hc]
theorem popH_perm {l : List (Int × Int)} (h : 0 < l.length) : (popH l).Perm l.tail := by
  unfold popH
  refine (sinkH_perm _ 0 ?_).trans ?_
  · omega
  · cases l with
    | nil => simp at h
    | cons a t =>
      rcases List.eq_nil_or_concat t with rfl | ⟨s, y, rfl⟩
      · simp
      · have e : (a :: (s ++ [y]))[(a :: (s ++ [y])).length - 1]! = y := by
          rw [bang (by simp)]; simp
        rw [List.concat_eq_append] at *
        rw [e]
        simp only [List.set_cons_zero, List.length_cons, List.length_append, List.length_nil, List.tail_cons]
        have e2 : s.length + (0 + 1) + 1 - 1 = s.length + 1 := by omega
        rw [e2, List.take_succ_cons, List.take_left']
        · exact (List.perm_append_comm (l₁ := [y]) (l₂ := s))
        · rfl
theorem popH_heap {l : List (Int × Int)} (h : Hp l) (h0 : 0 < l.length) : Hp (popH l) := by
  unfold popH
  have hb : ∀ m, 0 < m → m < l.length - 1 → ((l.set 0 l[l.length - 1]!).take (l.length - 1))[m]! = l[m]! := fun m hm hl => by
    simp only [List.getElem!_eq_getElem?_getD]
    rw [List.getElem?_take, if_pos hl, List.getElem?_set_ne (by omega)]
  refine sinkH_heap _ 0 (fun k hk0 hk => ⟨fun hq => ?_, fun _ hh => by omega⟩)
  rw [List.length_take, List.length_set] at hk
  rw [hb _ (by omega) (by omega), hb k hk0 (by omega)]
  exact h k hk0 (by omega)

/-! ### queues -/
structure Qu (l : List (Int × Int)) : Prop where
  len : l.length ≤ 1024
  odd : ∀ x ∈ l, oddT x = false
  ids : (l.map (·.2)).Nodup
  heap : Hp l
theorem chk_iff (l : List (Int × Int)) : chkT l = 0 ↔ Qu l := by
  unfold chkT
  constructor
  · intro h
    split at h
    · cases h
    · rename_i h1
      split at h
      · cases h
      · rename_i h2
        split at h
        · cases h
        · rename_i h3
          split at h
          · cases h
          · rename_i h4
            refine ⟨by simp at h1; omega, fun x hx => ?_, ?_, (bad_iff l).1 (by simpa using h4)⟩
            · have h2' : l.any oddT = false := by simpa using h2
              rw [List.any_eq_false] at h2'
              simpa using h2' x hx
            · unfold dupI at h3
              simpa using h3
  · rintro ⟨h1, h2, h3, h4⟩
    rw [if_neg (by simp; omega), if_neg (by rw [Bool.not_eq_true, List.any_eq_false]; intro x hx; simp [h2 x hx]), if_neg (by simp [dupI, h3]), if_neg (by rw [(bad_iff l).2 h4]; simp)]
theorem Qu.nil : Qu [] := ⟨by simp, by simp, by simp, fun k h1 h2 => by simp at h2⟩
theorem Qu.push {l : List (Int × Int)} (h : Qu l) {x : Int × Int} (h1 : l.length < 1024) (h2 : oddT x = false) (h3 : ∀ y ∈ l, y.2 ≠ x.2) : Qu (pushH l x) := by
  have hp := pushH_perm l x
  refine ⟨by rw [pushH_len]; omega, fun y hy => ?_, ?_, pushH_heap h.heap⟩
  · have := hp.mem_iff.1 hy
    rw [List.mem_append, List.mem_singleton] at this
    rcases this with this | rfl
    · exact h.odd y this
    · exact h2
  · have hm := hp.map (·.2)
    refine hm.nodup_iff.2 ?_
    rw [List.map_append, List.nodup_append]
    refine ⟨h.ids, by simp, fun a ha b hb e => ?_⟩
    obtain ⟨y, hy, rfl⟩ := List.mem_map.1 ha
    simp at hb
    exact h3 y hy (by rw [← hb]; exact e)
theorem Qu.pop {l : List (Int × Int)} (h : Qu l) (h0 : 0 < l.length) : Qu (popH l) := by
  have hp := popH_perm h0
  refine ⟨by rw [popH_len h0]; have := h.len; omega, fun y hy => h.odd y (List.mem_of_mem_tail (hp.mem_iff.1 hy)), ?_, popH_heap h.heap h0⟩
  refine (hp.map (·.2)).nodup_iff.2 ?_
  exact h.ids.sublist ((List.tail_sublist l).map _)
theorem addT_may : ∀ (more h : List (Int × Int)), Qu h → (addT h more).1 = 0 → Qu (addT h more).2
  | [], h, hq, _ => hq
  | t :: more, h, hq, h0 => by
    unfold addT at h0 ⊢
    split at h0
    · cases h0
    · rename_i h1
      rw [if_neg h1]
      split at h0
      · cases h0
      · rename_i h2
        rw [if_neg h2]
        split at h0
        · cases h0
        · rename_i h3
          rw [if_neg h3]
          refine addT_may more _ (hq.push ?_ (by simpa using h2) (fun y hy e => ?_)) h0
          · have := hq.len
            have h1' : ¬ (h.length : Int) = 1024 := by simpa using h1
            omega
          · exact h3 (List.any_eq_true.2 ⟨y, hy, by simpa using e⟩)
theorem add_may (l more : List (Int × Int)) : ((addR l more).1 != 0 || chkT (addR l more).2 == 0) = true := by
  by_cases hc : chkT l = 0
  · rw [addR_good (by simp [hc])]
    by_cases h0 : (addT l more).1 = 0
    · have := (chk_iff _).2 (addT_may more l ((chk_iff l).1 hc) h0)
      simp [this]
    · simp [h0]
  · rw [addR_bad (by simpa using hc)]
    simp [hc]
theorem dueT_may (tick : Int) : ∀ (n : Nat) (l : List (Int × Int)) (ids : List Int), l.length = n → Qu l → Qu (dueT l tick ids).1 := by
  intro n
  induction n with
  | zero =>
    intro l ids hn hq
    rw [dueT_end (fun h => by have := h.1; omega)]
    exact hq
  | succ n ih =>
    intro l ids hn hq
    by_cases hd : Due l tick
    · rw [dueT_step hd]
      exact ih _ _ (by rw [popH_len hd.1]; omega) (hq.pop hd.1)
    · rw [dueT_end hd]; exact hq
theorem due_may (l : List (Int × Int)) (tick : Int) : ((dueR l tick).2.2 != 0 || chkT (dueR l tick).1 == 0) = true := by
  by_cases hc : chkT l = 0
  · rw [dueR_good (by simp [hc])]
    have := (chk_iff _).2 (dueT_may tick _ l [] rfl ((chk_iff l).1 hc))
    simp [this]
  · rw [dueR_bad (by simpa using hc)]
    simp [hc]
theorem canT_may (ids : List Int) : ∀ (l h : List (Int × Int)), Qu h → h.length + l.length ≤ 1024 → (∀ x ∈ l, oddT x = false) → ((h ++ l).map (·.2)).Nodup → Qu (canT h l ids)
  | [], h, hq, _, _, _ => hq
  | t :: l, h, hq, hn, ho, hd => by
    unfold canT
    simp only [List.length_cons] at hn
    split
    · refine canT_may ids l h hq (by omega) (fun x hx => ho x (List.mem_cons_of_mem _ hx)) (hd.sublist ?_)
      exact (List.Sublist.append_left (List.sublist_cons_self t l) h).map _
    · have hp := pushH_perm h t
      refine canT_may ids l _ (hq.push (by omega) (ho t (List.mem_cons_self ..)) (fun y hy e => ?_)) (by rw [pushH_len]; omega) (fun x hx => ho x (List.mem_cons_of_mem _ hx)) ?_
      · rw [List.map_append, List.nodup_append] at hd
        exact hd.2.2 _ (List.mem_map.2 ⟨y, hy, rfl⟩) _ (List.mem_map.2 ⟨t, List.mem_cons_self .., rfl⟩) e
      · have := (hp.append_right l).map (·.2)
        refine this.nodup_iff.2 ?_
        simpa using hd
theorem can_may (l : List (Int × Int)) (ids : List Int) : ((canR l ids).2.2 != 0 || chkT (canR l ids).1 == 0) = true := by
  by_cases hc : chkT l = 0
  · rw [canR_good (by simp [hc])]
    have hq := (chk_iff l).1 hc
    have := (chk_iff _).2 (canT_may ids l [] Qu.nil (by simpa using hq.len) hq.odd (by simpa using hq.ids))
    simp [this]
  · rw [canR_bad (by simpa using hc)]
    simp [hc]
end Go.Proofs.E
