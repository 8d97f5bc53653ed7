/- The plain law of breakers: the program's run is the page's. -/
import Derived.Test.YtgekiiildobfkaaB3
set_option linter.unusedVariables false
set_option linter.unusedSimpArgs false
namespace Go.Proofs.E
open Go.RowKit
theorem sets_same (s : BSet) : setsB s = setsR s := by unfold setsB setsR; simp only [Bool.and_assoc]
theorem sets_iff (s : BSet) : setsR s = true ↔ 1 ≤ s.fails ∧ s.fails ≤ 1000 ∧ 1 ≤ s.opn ∧ s.opn ≤ 1048576 ∧ 1 ≤ s.probes ∧ s.probes ≤ 64 := by
  unfold setsR; simp only [Bool.and_eq_true, decide_eq_true_eq]; omega
theorem oddK_same (x : Act) : oddK x = badK x := by
  rw [Bool.eq_iff_iff]; unfold oddK badK
  simp only [Bool.not_eq_true', Bool.and_eq_false_iff, decide_eq_false_iff_not, Bool.or_eq_true, decide_eq_true_eq]; omega
theorem badT_iff : ∀ (l : List Act) (last : Int), badT last l = false ↔ ∀ i, i < l.length → l[i]!.tick ≤ 536870912 ∧ (if i = 0 then last else l[i - 1]!.tick) ≤ l[i]!.tick
  | [], last => by simp [badT]
  | a :: l, last => by
    have ih := badT_iff l a.tick
    unfold badT
    by_cases h : (decide (a.tick < last) || decide (a.tick > 536870912)) = true
    · rw [if_pos h]
      constructor
      · intro hh; cases hh
      · intro hh
        have h0 := hh 0 (by simp)
        simp at h0
        rw [Bool.or_eq_true, decide_eq_true_eq, decide_eq_true_eq] at h
        omega
    · rw [if_neg h, ih]
      have h1 : last ≤ a.tick ∧ a.tick ≤ 536870912 := by
        rw [Bool.or_eq_true, decide_eq_true_eq, decide_eq_true_eq] at h; omega
      constructor
      · intro hh i hi
        cases i with
        | zero => simp; omega
        | succ i =>
          have := hh i (by simpa using hi)
          simp only [List.length_cons] at hi
          rw [if_neg (by omega)]
          cases i with
          | zero => simpa using this
          | succ i => simpa using this
      · intro hh i hi
        have := hh (i + 1) (by simpa using hi)
        rw [if_neg (by omega)] at this
        cases i with
        | zero => simpa using this
        | succ i => simpa using this
def Ok (x : Act) : Prop := 0 ≤ x.tick ∧ x.tick ≤ 536870912
theorem oddW_iff (x : Act) : oddW x = false ↔ Ok x := by
  unfold oddW Ok; simp
theorem ticks_same (l : List Act) : (l.any oddW || !sortedF lateB l) = badT 0 l := by
  rw [Bool.eq_iff_iff, ← Bool.not_eq_false, ← Bool.not_eq_false]
  refine not_congr ?_
  rw [badT_iff]
  rw [Bool.or_eq_false_iff, List.any_eq_false]
  simp only [Bool.not_eq_false']
  have hmem : (∀ x ∈ l, ¬ oddW x = true) ↔ ∀ i, i < l.length → Ok l[i]! := by
    constructor
    · intro h i hi
      have := h _ (bang_mem hi)
      rw [Bool.not_eq_true] at this
      exact (oddW_iff _).1 this
    · intro h x hx
      obtain ⟨i, hi, rfl⟩ := List.mem_iff_getElem.1 hx
      have := h i hi
      rw [bang hi] at this
      rw [Bool.not_eq_true]
      exact (oddW_iff _).2 this
  rw [hmem]
  constructor
  · rintro ⟨h1, h2⟩ i hi
    have hi1 := h1 i hi
    refine ⟨hi1.2, ?_⟩
    split
    · exact hi1.1
    · rename_i h0
      have hi2 := h1 (i - 1) (by omega)
      unfold sortedF at h2
      rw [List.all_eq_true] at h2
      have := h2 i (by simpa using hi)
      unfold lateB at this
      have h0' : 0 < i := by omega
      simp only [h0', decide_true, Bool.true_and, Bool.not_eq_true', decide_eq_false_iff_not] at this
      unfold Ok at hi1 hi2
      rw [w64 (by omega)] at this
      omega
  · intro h
    have hge : ∀ i, i < l.length → 0 ≤ l[i]!.tick := by
      intro i
      induction i with
      | zero => intro hi; have := (h 0 hi).2; rw [if_pos rfl] at this; exact this
      | succ i ih => intro hi; have := (h (i + 1) hi).2; rw [if_neg (by omega)] at this; have := ih (by omega); simp only [Nat.add_sub_cancel] at *; omega
    refine ⟨fun i hi => ⟨hge i hi, (h i hi).1⟩, sorted_yes (fun m hm h0 => ?_)⟩
    have h1 := (h m hm)
    have h2 := (h (m - 1) (by omega)).1
    have h3 := hge m hm
    have h4 := hge (m - 1) (by omega)
    rw [if_neg (by omega)] at h1
    unfold lateB
    rw [w64 (by omega)]
    omega
/-- What a breaker is over any run. -/
structure Iv (k : Brk) (s : BSet) : Prop where
  mode : 0 ≤ k.mode ∧ k.mode ≤ 2
  fails : 0 ≤ k.fails ∧ k.fails < s.fails
  til : 0 ≤ k.til ∧ k.til ≤ 537919488
  probes : 0 ≤ k.probes ∧ k.probes ≤ s.probes
  wins : 0 ≤ k.wins ∧ k.wins < s.probes
theorem chk_zero {k : Brk} {s : BSet} {t : Int} (hI : Iv k s) (hs : setsR s = true) (ht : 0 ≤ t ∧ t ≤ 536870912) : chkR k s t = 0 := by
  have h := (sets_iff s).1 hs
  obtain ⟨h1, h2, h3, h4, h5⟩ := hI
  unfold chkR
  rw [if_neg, if_neg]
  · simp only [Bool.or_eq_true, decide_eq_true_eq]; omega
  · simp only [hs, Bool.not_true, Bool.false_or, Bool.or_eq_true, decide_eq_true_eq]; omega
theorem imax_comm (a b : Int) : imax a b = imax b a := by unfold imax; split <;> split <;> omega
theorem act_same {k : Brk} {s : BSet} {x : Act} (hI : Iv k s) (hs : setsR s = true) (ht : Ok x) (hk : badK x = false) : actR k s x = actB k s x := by
  have hc := chk_zero hI hs ht
  have hb : (chkR k s x.tick != 0) = false := by rw [hc]; rfl
  unfold actR actB
  by_cases h1 : (x.what == 1) = true
  · rw [if_pos h1, if_pos h1]
    unfold tickR onB
    rw [if_neg (nt hb)]
    split <;> rfl
  · rw [if_neg h1, if_neg h1]
    by_cases h2 : (x.what == 2) = true
    · have h3 : ¬ (x.what == 3) = true := by rw [beq_iff_eq] at h2 ⊢; omega
      have ha : allowsR k s x.tick = allowsB k s := by unfold allowsR allowsB; rw [hc]; simp
      rw [if_pos h2, if_neg h3]
      unfold beginR
      rw [if_neg (nt hb), ha]
      by_cases h4 : (!allowsB k s) = true
      · rw [if_pos h4, if_pos h4]; simp
      · rw [if_neg h4, if_neg h4]
        by_cases h5 : (k.mode == 2) = true
        · rw [if_pos h5, if_pos h5]; simp
        · rw [if_neg h5, if_neg h5]; simp
    · have h3 : (x.what == 3) = true := by
        unfold badK at hk
        rw [Bool.or_eq_false_iff, decide_eq_false_iff_not, decide_eq_false_iff_not] at hk
        rw [beq_iff_eq] at h1 h2 ⊢; omega
      rw [if_neg h2, if_pos h3, if_pos h3]
      have key : ∀ k' : Brk, (endRA k' s x.tick x.probe x.good).1 = endsA k' s x.tick x.probe x.good := fun k' => by
        unfold endRA endsA failsB winsB
        repeat' split
        all_goals rfl
      unfold endRR endsB
      rw [if_neg (nt hb)]
      split
      · rw [key, imax_comm]
      · rw [key]
theorem act_iv {k : Brk} {s : BSet} {x : Act} (hI : Iv k s) (hs : setsR s = true) (ht : Ok x) : Iv (actB k s x).1 s := by
  have h := (sets_iff s).1 hs
  obtain ⟨h1, h2, h3, h4, h5⟩ := hI
  unfold Ok at ht
  have hon : Iv (onB k x.tick) s := by
    unfold onB; split
    · exact ⟨by dsimp only; omega, h2, h3, h4, by dsimp only; omega⟩
    · exact ⟨h1, h2, h3, h4, h5⟩
  have hendsA : ∀ k' : Brk, Iv k' s → Iv (endsA k' s x.tick x.probe x.good) s := fun k' hI' => by
    obtain ⟨g1, g2, g3, g4, g5⟩ := hI'
    have e1 : IntKind.i64.wrap (x.tick + s.opn) = x.tick + s.opn := w64 (by omega)
    have e2 : IntKind.i64.wrap (k'.fails + 1) = k'.fails + 1 := w64 (by omega)
    have e3 : IntKind.i64.wrap (k'.wins + 1) = k'.wins + 1 := w64 (by omega)
    unfold endsA failsB winsB
    rw [e1, e2, e3]
    split
    · exact ⟨g1, by dsimp only; omega, g3, g4, g5⟩
    · split
      · split
        · exact ⟨by dsimp only; omega, by dsimp only; omega, by dsimp only; omega, g4, g5⟩
        · rename_i hlt
          rw [decide_eq_true_eq] at hlt
          exact ⟨g1, by dsimp only; omega, g3, g4, g5⟩
      · split
        · split
          · exact ⟨by dsimp only; omega, by dsimp only; omega, g3, g4, by dsimp only; omega⟩
          · rename_i hlt
            rw [decide_eq_true_eq] at hlt
            exact ⟨g1, g2, g3, g4, by dsimp only; omega⟩
        · split
          · exact ⟨by dsimp only; omega, g2, by dsimp only; omega, g4, by dsimp only; omega⟩
          · exact ⟨g1, g2, g3, g4, g5⟩
  have hends : Iv (endsB k s x.tick x.probe x.good) s := by
    unfold endsB; split
    · refine hendsA _ ⟨h1, h2, h3, ?_, h5⟩
      dsimp only
      rw [w64 (by omega)]
      unfold imax; split <;> omega
    · exact hendsA _ ⟨h1, h2, h3, h4, h5⟩
  unfold actB
  split
  · exact hon
  · split
    · exact hends
    · split
      · exact ⟨h1, h2, h3, h4, h5⟩
      · rename_i ha
        split
        · rename_i hm
          refine ⟨h1, h2, h3, ?_, h5⟩
          dsimp only
          rw [w64 (by omega)]
          unfold allowsB at ha
          rw [beq_iff_eq] at hm
          simp [hm] at ha
          omega
        · exact ⟨h1, h2, h3, h4, h5⟩
theorem loop_same {s : BSet} (hs : setsR s = true) : ∀ (l : List Act) (k : Brk), Iv k s → (∀ x ∈ l, Ok x) → (∀ x ∈ l, badK x = false) → loopP k s l = loopR k s l
  | [], k, _, _, _ => rfl
  | x :: l, k, hI, ht, hk => by
    have e := act_same hI hs (ht x (List.mem_cons_self ..)) (hk x (List.mem_cons_self ..))
    unfold loopP loopR
    rw [e, loop_same hs l _ (act_iv hI hs (ht x (List.mem_cons_self ..))) (fun y hy => ht y (List.mem_cons_of_mem _ hy)) (fun y hy => hk y (List.mem_cons_of_mem _ hy))]
theorem run_same (s : BSet) (l : List Act) : runP s l = runR s l := by
  unfold runP runR
  have e1 : l.any oddK = l.any badK := by congr 1; funext x; exact oddK_same x
  rw [e1]
  split
  · rfl
  · rename_i hk
    split
    · rfl
    · have ht := ticks_same l
      rw [sets_same]
      by_cases hs : setsR s = true
      · rw [hs, Bool.not_true, Bool.false_or, ht]
        split
        · rfl
        · rename_i hb
          rw [if_neg (by decide)]
          rw [Bool.not_eq_true] at hb
          rw [hb, Bool.or_eq_false_iff, List.any_eq_false] at ht
          have hI : Iv ⟨0, 0, 0, 0, 0⟩ s := by
            have h := (sets_iff s).1 hs
            exact ⟨by dsimp only; omega, by dsimp only; omega, by dsimp only; omega, by dsimp only; omega, by dsimp only; omega⟩
          rw [loop_same hs l _ hI (fun x hx => (oddW_iff x).1 (by have := ht.1 x hx; rwa [Bool.not_eq_true] at this)) (fun x hx => by
            rw [List.any_eq_true] at hk
            rw [← Bool.not_eq_true]
            exact fun hh => hk ⟨x, hx, hh⟩)]
      · rw [Bool.not_eq_true] at hs
        rw [hs]
        simp
theorem veqs_bE (k : Brk) : veqs (bE k) (bE k) = true := by simp [veqs, veq, bE]
end Go.Proofs.E
