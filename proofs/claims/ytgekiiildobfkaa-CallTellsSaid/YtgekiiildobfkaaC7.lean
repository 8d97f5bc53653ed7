/- CallSlow: the plain law, and the walk. -/
import Derived.Test.YtgekiiildobfkaaC6
set_option linter.unusedVariables false
set_option linter.unusedSimpArgs false
namespace Go.Proofs.E
open Go.RowKit
def bare (a : Att) : Att := { a with over := false }
theorem bare_default : bare default = default := rfl
theorem get_map {l : List Att} (i : Nat) : (l.map bare)[i]! = bare l[i]! := by
  by_cases h : i < l.length
  · rw [bang (by simpa using h), bang h, List.getElem_map]
  · rw [List.getElem!_eq_getElem?_getD, List.getElem!_eq_getElem?_getD, List.getElem?_map, List.getElem?_eq_none (by omega)]; rfl
theorem oddA_bare (c c' : CallH) (hat : c'.at' = c.at') (ho : c'.once = c.once) {l l' : List Att} (hl : l'.map bare = l.map bare) (i : Nat) {a a' : Att} (ha : bare a' = bare a) : oddA c' l' i a' = oddA c l i a := by
  have hg : ∀ k, bare l'[k]! = bare l[k]! := fun k => by rw [← get_map, hl, get_map]
  have e1 : (bare a').bk = (bare a).bk := by rw [ha]
  have e2 : (bare a').inc = (bare a).inc := by rw [ha]
  have e3 : (bare a').ses = (bare a).ses := by rw [ha]
  have e4 : (bare a').seq = (bare a).seq := by rw [ha]
  have e5 : (bare a').at' = (bare a).at' := by rw [ha]
  have e6 : (bare a').hedge = (bare a).hedge := by rw [ha]
  have p1 : (bare l'[0]!).bk = (bare l[0]!).bk := by rw [hg]
  have p2 : (bare l'[0]!).inc = (bare l[0]!).inc := by rw [hg]
  have p3 : (bare l'[0]!).ses = (bare l[0]!).ses := by rw [hg]
  have p4 : (bare l'[0]!).seq = (bare l[0]!).seq := by rw [hg]
  have q : (bare l'[i - 1]!).at' = (bare l[i - 1]!).at' := by rw [hg]
  simp only [bare] at e1 e2 e3 e4 e5 e6 p1 p2 p3 p4 q
  unfold oddA lastA pinE
  rw [e1, e2, e3, e4, e5, e6, p1, p2, p3, p4, q, hat, ho]
theorem badA_bare (c c' : CallH) (hat : c'.at' = c.at') (ho : c'.once = c.once) {l l' : List Att} (hl : l'.map bare = l.map bare) : badA c' l' = badA c l := by
  have hlen : l'.length = l.length := by simpa using congrArg List.length hl
  unfold badA
  rw [hlen]
  congr 1
  funext i
  exact oddA_bare c c' hat ho hl i (by rw [← get_map, hl, get_map])
theorem over_len : ∀ (pl : List Int) (l : List Att), (overL l pl).length = l.length
  | [], l => rfl
  | i :: pl, l => by
    show (overL _ pl).length = _
    rw [over_len pl, List.length_set]
theorem over_bare : ∀ (pl : List Int) (l : List Att), (overL l pl).map bare = l.map bare
  | [], l => rfl
  | i :: pl, l => by
    show (overL (l.set i.toNat { l[i.toNat]! with over := true }) pl).map bare = _
    rw [over_bare pl, List.map_set]
    by_cases h : i.toNat < l.length
    · have : bare { l[i.toNat]! with over := true } = (l.map bare)[i.toNat]'(by simpa using h) := by
        rw [List.getElem_map, bang h]; rfl
      rw [this, List.set_getElem_self]
    · rw [List.set_eq_of_length_le (by simpa using h)]
theorem over_get : ∀ (pl : List Int) (l : List Att) (k : Nat), k < l.length → (∀ x ∈ pl, 0 ≤ x) → (overL l pl)[k]!.over = (l[k]!.over || decide ((k : Int) ∈ pl))
  | [], l, k, hk, _ => by
    show l[k]!.over = _
    simp
  | i :: pl, l, k, hk, hp => by
    show (overL (l.set i.toNat { l[i.toNat]! with over := true }) pl)[k]!.over = _
    rw [over_get pl _ k (by simpa using hk) (fun x hx => hp x (List.mem_cons_of_mem _ hx))]
    have hi := hp i (List.mem_cons_self ..)
    by_cases h : i.toNat = k
    · subst h
      have hik : ((i.toNat : Nat) : Int) = i := by omega
      rw [bang (by simpa using hk), List.getElem_set_self]
      simp [hik]
    · have hne : ¬ (k : Int) = i := by omega
      rw [bang (by simpa using hk), List.getElem_set_ne h, ← bang hk]
      congr 1
      exact decide_eq_decide.2 (by simp [hne])
theorem mem_outs : ∀ (l : List Att) (j : Nat) (p : Nat × Att), p ∈ outsP j l ↔ ∃ k, k < l.length ∧ p = (j + k, l[k]!) ∧ l[k]!.over = false
  | [], j, p => by simp [outsP]
  | a :: l, j, p => by
    rw [outsP]
    have ih := mem_outs l (j + 1) p
    have hs : ∀ k, (a :: l)[k + 1]! = l[k]! := fun k => by simp
    have h0 : (a :: l)[0]! = a := by simp
    constructor
    · intro h
      have h' : (p = (j, a) ∧ a.over = false) ∨ p ∈ outsP (j + 1) l := by
        split at h
        · rename_i ha
          rcases List.mem_cons.1 h with h | h
          · exact .inl ⟨h, by simpa using ha⟩
          · exact .inr h
        · exact .inr h
      rcases h' with ⟨rfl, ha⟩ | h'
      · exact ⟨0, by simp, by simp, by rw [h0]; exact ha⟩
      · obtain ⟨k, hk, rfl, ho⟩ := ih.1 h'
        exact ⟨k + 1, by simpa using hk, by rw [hs]; simp; omega, by rw [hs]; exact ho⟩
    · rintro ⟨k, hk, rfl, ho⟩
      cases k with
      | zero =>
        rw [h0] at ho ⊢
        rw [if_pos (by simpa using ho)]
        simp
      | succ k =>
        rw [hs] at ho ⊢
        have : (j + (k + 1), l[k]!) ∈ outsP (j + 1) l := ih' l j k hk ho
        split
        · exact List.mem_cons_of_mem _ this
        · exact this
where
  ih' (l : List Att) (j k : Nat) (hk : k + 1 < (default :: l).length) (ho : l[k]!.over = false) : (j + (k + 1), l[k]!) ∈ outsP (j + 1) l :=
    (mem_outs l (j + 1) _).2 ⟨k, by simpa using hk, by simp; omega, ho⟩
theorem shareR_lt (x : Int) {n : Int} (h1 : 1 ≤ n) (h2 : n ≤ 1048576) : 0 ≤ (shareR x n).1 ∧ (shareR x n).1 < n := by
  unfold shareR
  rw [if_neg (by simp; omega)]
  have hu := uwrap_in (x.fdiv (2 ^ (min (32 : Int).toNat 64)) * 2 ^ (min (32 : Int).toNat 64))
  generalize IntKind.u64.wrap (x.fdiv (2 ^ (min (32 : Int).toNat 64)) * 2 ^ (min (32 : Int).toNat 64)) = a at *
  have hn : IntKind.u64.wrap n = n := by rw [uwrap]; omega
  rw [hn]
  have hlt : a * n / 18446744073709551616 < n := by
    apply Int.ediv_lt_of_lt_mul (by decide)
    rw [Int.mul_comm n]
    exact Int.mul_lt_mul_of_pos_right hu.2 (by omega)
  have hge : 0 ≤ a * n / 18446744073709551616 := Int.ediv_nonneg (Int.mul_nonneg hu.1 (by omega)) (by decide)
  dsimp only
  rw [w64 (by omega)]
  exact ⟨hge, hlt⟩
theorem boR_ok {s : Bo} (h : boR s = 0) : 1 ≤ s.base ∧ s.base ≤ s.cap ∧ s.cap ≤ 1048576 ∧ 0 ≤ s.jit ∧ s.jit ≤ 1000 := by
  unfold boR at h
  split at h
  · cases h
  · rename_i h1
    simp only [Bool.not_eq_true, Bool.or_eq_false_iff, decide_eq_false_iff_not] at h1
    omega
theorem moN_in {s : Bo} (h : boR s = 0) : ∀ i, 1 ≤ moN s i ∧ moN s i ≤ s.cap
  | 0 => by have := boR_ok h; show 1 ≤ s.base ∧ s.base ≤ s.cap; omega
  | i + 1 => by
    have := boR_ok h
    have ih := moN_in h i
    show 1 ≤ imin (IntKind.i64.wrap (2 * moN s i)) s.cap ∧ imin (IntKind.i64.wrap (2 * moN s i)) s.cap ≤ s.cap
    rw [w64 (by omega)]
    unfold imin
    split <;> omega
theorem atR_in {s : Bo} (h : boR s = 0) (n : Int) : 1 ≤ atR s n ∧ atR s n ≤ 1048576 := by
  have := boR_ok h
  unfold atR
  split
  · omega
  · have := moN_in h (n - 1).toNat; omega
theorem lessR_in {s : Bo} (h : boR s = 0) {m : Int} (hm : 1 ≤ m ∧ m ≤ 1048576) (d : Int) : 1 ≤ lessR s m d ∧ lessR s m d ≤ 1048576 := by
  have hb := boR_ok h
  have h0 : 0 ≤ m * s.jit := Int.mul_nonneg (by omega) (by omega)
  have h1 : m * s.jit ≤ 1048576 * 1000 := Int.mul_le_mul hm.2 hb.2.2.2.2 (by omega) (by omega)
  unfold lessR
  dsimp only
  rw [w64 (x := m * s.jit) (by omega), Int.tdiv_eq_ediv_of_nonneg h0]
  generalize hq : m * s.jit / 1000 = q
  have hq0 : 0 ≤ q ∧ q ≤ 1048576 := by omega
  rw [w64 (x := q) (by omega), w64 (x := q + 1) (by omega)]
  have hn : 1 ≤ imin (q + 1) 1048576 ∧ imin (q + 1) 1048576 ≤ 1048576 := by unfold imin; split <;> omega
  have hs := shareR_lt d hn.1 hn.2
  rw [w64 (by omega)]
  unfold imax
  split <;> omega
theorem delR_in {s : Bo} (h : boR s = 0) {n : Int} (hn : 1 ≤ n ∧ n ≤ 64) (d : Int) : 1 ≤ (delR s n d).1 ∧ (delR s n d).1 ≤ 1048576 := by
  have e : mostR s n = (atR s n, 0) := by
    unfold mostR
    rw [h, if_neg (by simp), if_neg (by simp; omega)]
  unfold delR
  rw [e, if_neg (by simp)]
  exact lessR_in h (atR_in h n) d
structure Fine (c : CallH) (s : CSet) (l : List Att) : Prop where
  set : setR s = 0
  bo : boR s.bo = 0
  len : l.length ≤ 16
  tmo : 1 ≤ s.tmo ∧ s.tmo ≤ 1048576
  cond : (((((!inR 0 1048576 [c.num] || (ledR c.op != 0)) || !(c.once == (onceR c.op.what).1)) || !inR 0 536870912 [c.at', c.nx]) || !inR c.at' 536870912 [c.dl]) || decide ((l.length : Int) > s.att)) = false
  bad : badA c l = false
  ats : ∀ k, k < l.length → 0 ≤ l[k]!.at' ∧ l[k]!.at' ≤ 536870912
theorem fine_of {c : CallH} {s : CSet} {l : List Att} (h : chkA c s l = 0) : Fine c s l := by
  have hlen := chkA_len h
  unfold chkA at h
  split at h
  · rename_i h1; rw [h] at h1; simp at h1
  · rename_i h1
    split at h
    · cases h
    · rename_i h2
      have h2 : fineA c s l = true := by simpa using h2
      have h1 : setR s = 0 := by simpa using h1
      unfold fineA at h2
      split at h2
      · cases h2
      · rename_i h3
        rw [Bool.not_eq_true] at h3
        have h4 : badA c l = false := by simpa using h2
        have hs := h1
        unfold setR at hs
        split at hs
        · cases hs
        · rename_i h5
          rw [Bool.not_eq_true] at h5
          simp only [Bool.or_eq_false_iff, Bool.not_eq_false'] at h5
          have ht := inR_mem h5.1.2 s.tmo (by simp)
          have hc := h3
          simp only [Bool.or_eq_false_iff, Bool.not_eq_false'] at hc
          have hat := inR_mem hc.1.1.2 c.at' (by simp)
          have hodd : ∀ k, k < l.length → oddA c l k l[k]! = false := fun k hk => by
            unfold badA at h4
            rw [List.any_eq_false] at h4
            simpa using h4 k (by simpa using hk)
          refine ⟨h1, hs, hlen, ht, h3, h4, fun k => ?_⟩
          induction k with
          | zero =>
            intro hk
            have := hodd 0 hk
            unfold oddA lastA at this
            simp only [Bool.or_eq_false_iff, Bool.not_eq_false'] at this
            have h6 := inR_one this.1.1.2
            rw [if_neg (by simp)] at h6
            omega
          | succ k ih =>
            intro hk
            have ih := ih (by omega)
            have := hodd (k + 1) hk
            unfold oddA lastA at this
            simp only [Bool.or_eq_false_iff, Bool.not_eq_false'] at this
            have h6 := inR_one this.1.1.2
            rw [if_pos (by rw [decide_eq_true_eq]; omega)] at h6
            have e : k + 1 - 1 = k := rfl
            rw [e] at h6
            omega
theorem fine_to {c : CallH} {s : CSet} {l : List Att} (h1 : setR s = 0) (h2 : (((((!inR 0 1048576 [c.num] || (ledR c.op != 0)) || !(c.once == (onceR c.op.what).1)) || !inR 0 536870912 [c.at', c.nx]) || !inR c.at' 536870912 [c.dl]) || decide ((l.length : Int) > s.att)) = false) (h3 : badA c l = false) : chkA c s l = 0 := by
  unfold chkA fineA
  rw [if_neg (by rw [h1]; simp), if_neg (nt h2), h3]
  rfl
theorem inR_two {a b x y : Int} : inR a b [x, y] = true ↔ (a ≤ x ∧ x ≤ b) ∧ a ≤ y ∧ y ≤ b := by
  simp only [inR, List.any_cons, List.any_nil, Bool.or_false, Bool.not_eq_true', Bool.or_eq_false_iff, decide_eq_false_iff_not]
  omega
/-- Attempts that are over leave a call that may be one that may be. -/
theorem over_fine {c : CallH} {s : CSet} {l : List Att} {tick d : Int} {pl : List Int} (h : chkA c s l = 0) (ht : 0 ≤ tick ∧ tick ≤ 268435456) (hp : inR 0 (IntKind.i64.wrap ((l.length : Int) - 1)) pl = true) :
    (overR c s l tick d pl).2.2 = 0 ∧ (overR c s l tick d pl).2.1 = overL l pl ∧ chkA (overR c s l tick d pl).1 s (overR c s l tick d pl).2.1 = 0 := by
  have hF := fine_of h
  have h1 : (chkA c s l != 0) = false := by rw [h]; rfl
  have h2 : (!inR 0 268435456 [tick]) = false := by simp [inR]; omega
  have h3 : (!inR 0 (IntKind.i64.wrap ((l.length : Int) - 1)) pl) = false := by rw [hp]; rfl
  have hc := hF.cond
  simp only [Bool.or_eq_false_iff, Bool.not_eq_false'] at hc
  have hlen := over_len pl l
  by_cases h5 : (cntA (overL l pl) == 0 && decide (((overL l pl).length : Int) > 0)) = true
  · rw [over_d h1 h2 h3 rfl h5]
    refine ⟨rfl, rfl, fine_to hF.set ?_ ?_⟩
    · rw [Bool.and_eq_true, decide_eq_true_eq] at h5
      have h16 := hF.len
      have hd := delR_in hF.bo (n := ((overL l pl).length : Int)) (by omega) d
      have hx := inR_two.1 hc.1.1.2
      simp only [Bool.or_eq_false_iff, Bool.not_eq_false']
      refine ⟨⟨⟨hc.1.1.1, inR_two.2 ⟨hx.1, ?_⟩⟩, hc.1.2⟩, by rw [hlen]; exact hc.2⟩
      rw [w64 (by omega)]; omega
    · show badA _ (overL l pl) = false
      exact (badA_bare c _ rfl rfl (over_bare pl l)).trans hF.bad
  · rw [Bool.not_eq_true] at h5
    rw [over_e h1 h2 h3 rfl h5]
    refine ⟨rfl, rfl, fine_to hF.set (by rw [hlen]; exact hF.cond) ?_⟩
    show badA _ (overL l pl) = false
    exact (badA_bare c _ rfl rfl (over_bare pl l)).trans hF.bad
structure SlowLaw (c : CallH) (s : CSet) (l : List Att) (tick d : Int) (L : List Int) : Prop where
  mem : ∀ x ∈ L, 0 ≤ x ∧ x < l.length ∧ x.toNat < l.length
  each : ∀ x ∈ L, (l[x.toNat]!.over || decide (IntKind.i64.wrap (tick - l[x.toNat]!.at') < s.tmo)) = false
  err : (overR c s l tick d L).2.2 = 0
  good : (slowT (overR c s l tick d L).1 s (overR c s l tick d L).2.1 tick).2 = 0
  none : (slowT (overR c s l tick d L).1 s (overR c s l tick d L).2.1 tick).1 = []
theorem slow_bad {c : CallH} {s : CSet} {l : List Att} {tick : Int} : (((slowT c s l tick).2 == 0) || (((slowT c s l tick).1.length : Int) == 0)) = true := by
  unfold slowT
  split
  · simp
  · simp
theorem slow_facts {c : CallH} {s : CSet} {l : List Att} {tick d : Int} {L : List Int} (h : ((((slowT c s l tick).2 != 0) || decide (tick < 0)) || decide (tick > 268435456)) = false) (hL : (slowT c s l tick).1 = L) : SlowLaw c s l tick d L := by
  simp only [Bool.or_eq_false_iff, decide_eq_false_iff_not] at h
  have hchk : chkA c s l = 0 := by
    have h1 := h.1.1
    unfold slowT at h1
    split at h1
    · rename_i h2; rw [h1] at h2; cases h2
    · rename_i h2; simpa using h2
  have hF := fine_of hchk
  have hLr : L = slowR s l tick := by
    rw [← hL]; unfold slowT; rw [if_neg (by rw [hchk]; simp)]
  have hmem : ∀ x, x ∈ L ↔ ∃ k, k < l.length ∧ x = (k : Int) ∧ l[k]!.over = false ∧ IntKind.i64.wrap (l[k]!.at' + s.tmo) ≤ tick := by
    intro x
    rw [hLr]
    unfold slowR
    simp only [List.mem_map, List.mem_filter, mem_outs, slowP, decide_eq_true_eq]
    constructor
    · rintro ⟨p, ⟨⟨k, hk, rfl, ho⟩, hs⟩, rfl⟩
      exact ⟨k, hk, by simp, ho, hs⟩
    · rintro ⟨k, hk, rfl, ho, hs⟩
      exact ⟨(k, l[k]!), ⟨⟨k, hk, by simp, ho⟩, hs⟩, rfl⟩
  have hin : ∀ x ∈ L, 0 ≤ x ∧ x < l.length ∧ x.toNat < l.length := by
    intro x hx
    obtain ⟨k, hk, rfl, _⟩ := (hmem x).1 hx
    omega
  have hlen := hF.len
  have hp : inR 0 (IntKind.i64.wrap ((l.length : Int) - 1)) L = true := by
    simp only [inR, Bool.not_eq_true', List.any_eq_false]
    intro x hx
    have := hin x hx
    rw [w64 (by omega)]
    simp; omega
  obtain ⟨o1, o2, o3⟩ := over_fine (tick := tick) (d := d) hchk (by omega) hp
  have hslow : slowT (overR c s l tick d L).1 s (overR c s l tick d L).2.1 tick = ([], 0) := by
    unfold slowT
    rw [if_neg (by rw [o3]; simp), o2]
    have : slowR s (overL l L) tick = [] := by
      unfold slowR
      rw [List.map_eq_nil_iff, List.filter_eq_nil_iff]
      intro p hpm
      obtain ⟨k, hk, rfl, ho⟩ := (mem_outs _ _ _).1 hpm
      rw [over_len] at hk
      have hg := over_get L l k hk (fun x hx => (hin x hx).1)
      rw [ho] at hg
      have hg := hg.symm
      rw [Bool.or_eq_false_iff, decide_eq_false_iff_not] at hg
      have hb : (bare (overL l L)[k]!).at' = (bare l[k]!).at' := by rw [← get_map, over_bare, get_map]
      have hb : (overL l L)[k]!.at' = l[k]!.at' := hb
      intro hs
      unfold slowP at hs
      rw [decide_eq_true_eq] at hs
      rw [hb] at hs
      exact hg.2 ((hmem _).2 ⟨k, hk, rfl, hg.1, hs⟩)
    rw [this]
  refine ⟨hin, fun x hx => ?_, o1, by rw [hslow], by rw [hslow]⟩
  obtain ⟨k, hk, rfl, ho, hs⟩ := (hmem x).1 hx
  have ha := hF.ats k hk
  have ht := hF.tmo
  rw [w64 (by omega)] at hs
  rw [Int.toNat_natCast, ho, w64 (by omega), Bool.false_or]
  exact decide_eq_false (by omega)
theorem slow27_law (c : CallH) (v : Value) (s : CSet) (l : List Att) (tick d : Int) (w0 : World) (hr : (rdR v attE l).ok w0) : Calls Try.prog 6 #[.agg (callE c v).toArray, .agg (csE s).toArray, .int .i64 tick, .int .u64 d] w0 fun e w' => e = .returned (.bool true) ∧ Frm Nob w0 w' := by
  have hlen := rd_lt hr
  obtain ⟨Ls, hL⟩ : ∃ x, (slowT c s l tick).1 = x := ⟨_, rfl⟩
  refine enter (μ := [rdR v attE l]) (S := Nob) (vs := [.agg (callE c v).toArray, .agg (csE s).toArray, .int .i64 tick, .int .u64 d]) Try.func6 rfl Try.ntmps6 rfl ⟨by simpa using hr, by simp⟩ (by simp [rdR]) (fun a hC => ?_)
  refine W.seqk fun k1 hk1 => ?_
  refine W.region ?_
  refine L.box hC rfl rfl rfl rfl rfl rfl ?_; clear hC a; intro cb a w hF hC
  refine L.box hC rfl rfl rfl rfl rfl rfl ?_; clear hC a; intro sb a w hF hC
  refine L.pu hC rfl rfl (fun _ => All.nil) rfl rfl ?_; clear hC a; intro a hC
  refine L.nil ?_
  refine hk1 _ _ ?_; clear hk1; try clear k1
  refine W.seqk fun k2 hk2 => ?_
  refine W.seqk fun k3 hk3 => ?_
  refine W.region ?_
  refine L.call hC rfl rfl Try.call26 rfl (fun _ => All.nil) (fun hg => alive27_ok _) rfl rfl ?_; clear hC a; intro a w hF hC
  refine L.pu hC rfl rfl (fun _ => All.nil) rfl rfl ?_; clear hC a; intro a hC
  refine L.nil ?_
  refine hk3 _ _ ?_; clear hk3; try clear k3
  refine W.cond hC rfl (fun h1 => ?_) (fun h1 => ?_)
  ·
    exact absurd h1 (by simp)
  ·
    refine W.skip ?_
    refine hk2 _ _ ?_; clear hk2; try clear k2
    refine W.seqk fun k4 hk4 => ?_
    refine W.region ?_
    refine L.lda hC rfl rfl rfl (fun _ => All.nil) m1 Try.isAgg56 Try.sizeOf56 rfl rfl rfl rfl ?_; clear hC a; intro a hC
    refine L.lda hC rfl rfl rfl (fun _ => All.nil) m0 Try.isAgg60 Try.sizeOf60 rfl rfl rfl rfl ?_; clear hC a; intro a hC
    refine L.pu hC rfl rfl (fun _ => All.nil) rfl rfl ?_; clear hC a; intro a hC
    refine L.callg [] hC rfl rfl Try.call27 rfl (Slow_ok c v s l tick _ (hC.at m2)) (fun b h => h.elim) rfl rfl ?_; clear hC a; intro ov a w hQ hC
    rw [hL] at hC
    refine L.pu hC rfl rfl (fun _ => All.nil) rfl rfl ?_; clear hC a; intro a hC
    refine L.pu hC rfl rfl (fun _ => All.nil) rfl rfl ?_; clear hC a; intro a hC
    refine L.pu hC rfl rfl (fun _ => All.nil) rfl rfl ?_; clear hC a; intro a hC
    refine L.pu hC rfl rfl (fun _ => All.nil) rfl rfl ?_; clear hC a; intro a hC
    refine L.pu hC rfl rfl (fun _ => All.nil) rfl rfl ?_; clear hC a; intro a hC
    refine L.nil ?_
    refine hk4 _ _ ?_; clear hk4; try clear k4
    refine W.seqk fun k5 hk5 => ?_
    refine W.seqk fun k6 hk6 => ?_
    refine W.region ?_
    refine L.pu hC rfl rfl (fun _ => All.nil) rfl rfl ?_; clear hC a; intro a hC
    refine L.call hC rfl rfl Try.call28 rfl (fun _ => All.nil) (fun hg => num27_ok _ _) rfl rfl ?_; clear hC a; intro a w hF hC
    refine L.pu hC rfl rfl (fun _ => All.nil) rfl rfl ?_; clear hC a; intro a hC
    refine L.pu hC rfl rfl (fun _ => All.nil) rfl rfl ?_; clear hC a; intro a hC
    refine L.pu hC rfl rfl (fun _ => All.nil) rfl rfl ?_; clear hC a; intro a hC
    refine L.pu hC rfl rfl (fun hg => by first | (simp only [Gt, Bool.and_eq_true] at hg; simp only [All, List.cons_append, List.nil_append, List.append_nil, List.mem_cons, List.not_mem_nil, or_false, forall_eq_or_imp, forall_eq, Bool.and_eq_true, hg, Bool.not_false, Bool.not_true, and_self]; done) | (simp only [Gt] at hg; simp only [All, List.cons_append, List.nil_append, List.append_nil, List.mem_cons, List.not_mem_nil, or_false, forall_eq_or_imp, forall_eq, hg, and_self])) rfl rfl ?_; clear hC a; intro a hC
    refine L.or hC rfl rfl rfl rfl (fun _ => All.nil) (fun _ hp => by first | (simp only [All, List.cons_append, List.nil_append, List.append_nil, List.mem_cons, List.not_mem_nil, or_false, forall_eq_or_imp, forall_eq, Bool.and_eq_true, hp, Bool.not_false, Bool.not_true, and_self]; done) | simp [All, hp]) rfl rfl ?_; clear hC a; intro a hC
    refine L.pu hC rfl rfl (fun _ => All.nil) rfl rfl ?_; clear hC a; intro a hC
    refine L.pu hC rfl rfl (fun _ => All.nil) rfl rfl ?_; clear hC a; intro a hC
    refine L.pu hC rfl rfl (fun hg => by first | (simp only [Gt, Bool.and_eq_true] at hg; simp only [All, List.cons_append, List.nil_append, List.append_nil, List.mem_cons, List.not_mem_nil, or_false, forall_eq_or_imp, forall_eq, Bool.and_eq_true, hg, Bool.not_false, Bool.not_true, and_self]; done) | (simp only [Gt] at hg; simp only [All, List.cons_append, List.nil_append, List.append_nil, List.mem_cons, List.not_mem_nil, or_false, forall_eq_or_imp, forall_eq, hg, and_self])) rfl rfl ?_; clear hC a; intro a hC
    refine L.or hC rfl rfl rfl rfl (fun _ => All.nil) (fun _ hp => by first | (simp only [All, List.cons_append, List.nil_append, List.append_nil, List.mem_cons, List.not_mem_nil, or_false, forall_eq_or_imp, forall_eq, Bool.and_eq_true, hp, Bool.not_false, Bool.not_true, and_self]; done) | simp [All, hp]) rfl rfl ?_; clear hC a; intro a hC
    refine L.nil ?_
    refine hk6 _ _ ?_; clear hk6; try clear k6
    refine W.cond hC rfl (fun h2 => ?_) (fun h2 => ?_)
    ·
      refine W.seqk fun k7 hk7 => ?_
      refine W.region ?_
      refine L.pu hC rfl rfl (fun _ => All.nil) rfl rfl ?_; clear hC a; intro a hC
      refine L.call hC rfl rfl Try.call28 rfl (fun _ => All.nil) (fun hg => num27_ok _ _) rfl rfl ?_; clear hC a; intro a w hF hC
      refine L.pu hC rfl rfl (fun _ => All.nil) rfl rfl ?_; clear hC a; intro a hC
      refine L.pu hC rfl rfl (fun _ => All.nil) rfl rfl ?_; clear hC a; intro a hC
      refine L.pu hC rfl rfl (fun _ => All.nil) rfl rfl ?_; clear hC a; intro a hC
      refine L.len hC rfl rfl rfl (fun hg => by first | (simp only [Gt, Bool.and_eq_true] at hg; simp only [All, List.cons_append, List.nil_append, List.append_nil, List.mem_cons, List.not_mem_nil, or_false, forall_eq_or_imp, forall_eq, Bool.and_eq_true, hg, Bool.not_false, Bool.not_true, and_self]; done) | (simp only [Gt] at hg; simp only [All, List.cons_append, List.nil_append, List.append_nil, List.mem_cons, List.not_mem_nil, or_false, forall_eq_or_imp, forall_eq, hg, and_self])) (own_form (hC.at m0)) Try.underlying37 rfl rfl ?_; clear hC a; intro a hC
      refine L.pu hC rfl rfl (fun hg => by first | (simp only [Gt, Bool.and_eq_true] at hg; simp only [All, List.cons_append, List.nil_append, List.append_nil, List.mem_cons, List.not_mem_nil, or_false, forall_eq_or_imp, forall_eq, Bool.and_eq_true, hg, Bool.not_false, Bool.not_true, and_self]; done) | (simp only [Gt] at hg; simp only [All, List.cons_append, List.nil_append, List.append_nil, List.mem_cons, List.not_mem_nil, or_false, forall_eq_or_imp, forall_eq, hg, and_self])) rfl rfl ?_; clear hC a; intro a hC
      refine L.or hC rfl rfl rfl rfl (fun _ => All.nil) (fun _ hp => by first | (simp only [All, List.cons_append, List.nil_append, List.append_nil, List.mem_cons, List.not_mem_nil, or_false, forall_eq_or_imp, forall_eq, Bool.and_eq_true, hp, Bool.not_false, Bool.not_true, and_self]; done) | simp [All, hp]) rfl rfl ?_; clear hC a; intro a hC
      refine L.pu hC rfl rfl (fun _ => All.nil) rfl rfl ?_; clear hC a; intro a hC
      refine L.nil ?_
      refine hk7 _ _ ?_; clear hk7; try clear k7
      refine W.ret ?_
      refine rets hC rfl (.tmp rfl .nil) ?_
      refine ⟨?_, hC.frm⟩
      refine rb ?_
      rw [← hL]; exact slow_bad
    ·
      have hSl := slow_facts (d := d) h2 hL
      refine W.skip ?_
      refine hk5 _ _ ?_; clear hk5; try clear k5
      refine W.seqk fun k8 hk8 => ?_
      refine W.seqk fun k9 hk9 => ?_
      refine W.region ?_
      refine L.pu hC rfl rfl (fun _ => All.nil) rfl rfl ?_; clear hC a; intro a hC
      refine L.nil ?_
      refine hk9 _ _ ?_; clear hk9; try clear k9
      refine W.block ?_
      have hll := own_lt (hC.at m0)
      replace hC := hC.fr3
      replace hC := hC.fr2
      replace hC := hC.fr3
      replace hC := hC.fr3
      refine W.loop (fun (j : Nat) a w' => (j ≤ Ls.length) ∧ Conf 102 Nob w0 [(11, (none, .int .i64 (j : Int))), (9, (none, ov)), (4, (none, .pointer (some ⟨cb, 0, none⟩))), (5, (none, .pointer (some ⟨sb, 0, none⟩))), (2, (none, .int .i64 tick)), (3, (none, .int .u64 d))] [ownR ov 3 intE Ls, blkR cb (callE c v) 56, blkR sb (csE s) 60, rdR v attE l] a w') (fun (j : Nat) => Ls.length - j) 0 ?_ ?_
      · exact ⟨Nat.zero_le _, hC.keep ⟨rfl, rfl, rfl, rfl, rfl, rfl, trivial⟩⟩
      · rintro j a w ⟨hj, hC⟩
        refine W.seqk fun k10 hk10 => ?_
        refine W.seqk fun k11 hk11 => ?_
        refine W.region ?_
        refine L.pu hC rfl rfl (fun _ => All.nil) rfl rfl ?_; clear hC a; intro a hC
        refine L.pu hC rfl rfl (fun _ => All.nil) rfl rfl ?_; clear hC a; intro a hC
        refine L.len hC rfl rfl rfl (fun _ => All.nil) (own_form (hC.at m0)) Try.underlying37 rfl rfl ?_; clear hC a; intro a hC
        refine L.pu hC rfl rfl (fun _ => All.nil) rfl rfl ?_; clear hC a; intro a hC
        refine L.nil ?_
        refine hk11 _ _ ?_; clear hk11; try clear k11
        refine W.cond hC rfl (fun h3 => ?_) (fun h3 => ?_)
        ·
          have h3 := of_decide_eq_true h3
          have hk := hSl.mem _ (bang_mem (l := Ls) (j := j) (by omega))
          refine W.skip ?_
          refine hk10 _ _ ?_; clear hk10; try clear k10
          refine W.seqk fun k12 hk12 => ?_
          refine W.block ?_
          refine W.seqk fun k13 hk13 => ?_
          refine W.drawD hC Try.mixed rfl rfl ?_
          apply DRN.cons (.det _ _) rfl
          · intro a w hC
            refine L.fa hC rfl rfl rfl (fun _ => All.nil) Try.underlying56 rfl Try.sizeOf54 rfl rfl rfl ?_; clear hC a; intro a hC
            exact L.nil ⟨⟨_, [], hC⟩, Frm.refl _ _⟩
          apply DRN.cons (.det _ _) rfl
          · intro a w hC
            refine L.ld hC rfl rfl rfl (fun _ => All.nil) m1 Try.isAgg54 rfl rfl rfl ?_; clear hC a; intro a hC
            exact L.nil ⟨⟨_, [], hC⟩, Frm.refl _ _⟩
          apply DRN.cons (.det _ _) rfl
          · intro a w hC
            refine L.pu hC rfl rfl (fun _ => All.nil) rfl rfl ?_; clear hC a; intro a hC
            exact L.nil ⟨⟨_, [], hC⟩, Frm.refl _ _⟩
          apply DRN.cons (.det _ _) rfl
          · intro a w hC
            refine L.pu hC rfl rfl (fun _ => All.nil) rfl rfl ?_; clear hC a; intro a hC
            exact L.nil ⟨⟨_, [], hC⟩, Frm.refl _ _⟩
          apply DRN.cons (.det _ _) rfl
          · intro a w hC
            refine L.ixo hC rfl rfl rfl rfl m0 (fun _ => All.nil) (fun _ => All.nil) Try.underlying37 Try.sizeOf3 (fun _ => by omega) rfl rfl ?_; clear hC a; intro a hC
            exact L.nil ⟨⟨_, [], hC⟩, Frm.refl _ _⟩
          apply DRN.cons (.det _ _) rfl
          · intro a w hC
            refine L.ldx hC rfl rfl rfl rfl (fun _ => All.nil) (fun hg => own_bang hC m0 (by omega) _) Try.isAgg3 rfl rfl rfl ?_; clear hC a; intro a hC
            exact L.nil ⟨⟨_, [], hC⟩, Frm.refl _ _⟩
          apply DRN.cons (.det _ _) rfl
          · intro a w hC
            refine L.ixr hC rfl rfl rfl rfl m3 (fun _ => All.nil) (fun _ => All.nil) Try.underlying54 Try.sizeOf65 (fun _ => ⟨hk.1, hk.2.1⟩) rfl rfl ?_; clear hC a; intro a hC
            exact L.nil ⟨⟨_, [], hC⟩, Frm.refl _ _⟩
          apply DRN.cons (.det _ _) rfl
          · intro a w hC
            refine L.fae hC rfl rfl rfl (fun _ => All.nil) Try.underlying65 rfl Try.sizeOf4 rfl (fun hg => rd_some (hC.at m3) (by first | exact hk.2.2 | omega)) rfl rfl ?_; clear hC a; intro a hC
            exact L.nil ⟨⟨_, [], hC⟩, Frm.refl _ _⟩
          apply DRN.cons (.det _ _) rfl
          · intro a w hC
            refine L.ldx hC rfl rfl rfl rfl (fun _ => All.nil) (fun hg => rd_bang hC m3 (by first | exact hk.2.2 | omega) _) Try.isAgg4 rfl rfl rfl ?_; clear hC a; intro a hC
            exact L.nil ⟨⟨_, [], hC⟩, Frm.refl _ _⟩
          apply DRN.cons (.det _ _) rfl
          · intro a w hC
            refine L.pu hC rfl rfl (fun _ => All.nil) rfl rfl ?_; clear hC a; intro a hC
            exact L.nil ⟨⟨_, [], hC⟩, Frm.refl _ _⟩
          apply DRN.cons (.det _ _) rfl
          · intro a w hC
            refine L.pu hC rfl rfl (fun _ => All.nil) rfl rfl ?_; clear hC a; intro a hC
            exact L.nil ⟨⟨_, [], hC⟩, Frm.refl _ _⟩
          apply DRN.cons (.det _ _) rfl
          · intro a w hC
            refine L.fa hC rfl rfl rfl (fun _ => All.nil) Try.underlying56 rfl Try.sizeOf54 rfl rfl rfl ?_; clear hC a; intro a hC
            exact L.nil ⟨⟨_, [], hC⟩, Frm.refl _ _⟩
          apply DRN.cons (.det _ _) rfl
          · intro a w hC
            refine L.ld hC rfl rfl rfl (fun hg => by first | (simp only [Gt, Bool.and_eq_true] at hg; simp only [All, List.cons_append, List.nil_append, List.append_nil, List.mem_cons, List.not_mem_nil, or_false, forall_eq_or_imp, forall_eq, Bool.and_eq_true, hg, Bool.not_false, Bool.not_true, and_self]; done) | (simp only [Gt] at hg; simp only [All, List.cons_append, List.nil_append, List.append_nil, List.mem_cons, List.not_mem_nil, or_false, forall_eq_or_imp, forall_eq, hg, and_self])) m1 Try.isAgg54 rfl rfl rfl ?_; clear hC a; intro a hC
            exact L.nil ⟨⟨_, [], hC⟩, Frm.refl _ _⟩
          apply DRN.cons (.det _ _) rfl
          · intro a w hC
            refine L.pu hC rfl rfl (fun _ => All.nil) rfl rfl ?_; clear hC a; intro a hC
            exact L.nil ⟨⟨_, [], hC⟩, Frm.refl _ _⟩
          apply DRN.cons (.det _ _) rfl
          · intro a w hC
            refine L.pu hC rfl rfl (fun _ => All.nil) rfl rfl ?_; clear hC a; intro a hC
            exact L.nil ⟨⟨_, [], hC⟩, Frm.refl _ _⟩
          apply DRN.cons (.det _ _) rfl
          · intro a w hC
            refine L.ixo hC rfl rfl rfl rfl m0 (fun hg => by first | (simp only [Gt, Bool.and_eq_true] at hg; simp only [All, List.cons_append, List.nil_append, List.append_nil, List.mem_cons, List.not_mem_nil, or_false, forall_eq_or_imp, forall_eq, Bool.and_eq_true, hg, Bool.not_false, Bool.not_true, and_self]; done) | (simp only [Gt] at hg; simp only [All, List.cons_append, List.nil_append, List.append_nil, List.mem_cons, List.not_mem_nil, or_false, forall_eq_or_imp, forall_eq, hg, and_self])) (fun hg => by first | (simp only [Gt, Bool.and_eq_true] at hg; simp only [All, List.cons_append, List.nil_append, List.append_nil, List.mem_cons, List.not_mem_nil, or_false, forall_eq_or_imp, forall_eq, Bool.and_eq_true, hg, Bool.not_false, Bool.not_true, and_self]; done) | (simp only [Gt] at hg; simp only [All, List.cons_append, List.nil_append, List.append_nil, List.mem_cons, List.not_mem_nil, or_false, forall_eq_or_imp, forall_eq, hg, and_self])) Try.underlying37 Try.sizeOf3 (fun _ => by omega) rfl rfl ?_; clear hC a; intro a hC
            exact L.nil ⟨⟨_, [], hC⟩, Frm.refl _ _⟩
          apply DRN.cons (.det _ _) rfl
          · intro a w hC
            refine L.ldx hC rfl rfl rfl rfl (fun hg => by first | (simp only [Gt, Bool.and_eq_true] at hg; simp only [All, List.cons_append, List.nil_append, List.append_nil, List.mem_cons, List.not_mem_nil, or_false, forall_eq_or_imp, forall_eq, Bool.and_eq_true, hg, Bool.not_false, Bool.not_true, and_self]; done) | (simp only [Gt] at hg; simp only [All, List.cons_append, List.nil_append, List.append_nil, List.mem_cons, List.not_mem_nil, or_false, forall_eq_or_imp, forall_eq, hg, and_self])) (fun hg => own_bang hC m0 (by omega) _) Try.isAgg3 rfl rfl rfl ?_; clear hC a; intro a hC
            exact L.nil ⟨⟨_, [], hC⟩, Frm.refl _ _⟩
          apply DRN.cons (.det _ _) rfl
          · intro a w hC
            refine L.ixr hC rfl rfl rfl rfl m3 (fun hg => by first | (simp only [Gt, Bool.and_eq_true] at hg; simp only [All, List.cons_append, List.nil_append, List.append_nil, List.mem_cons, List.not_mem_nil, or_false, forall_eq_or_imp, forall_eq, Bool.and_eq_true, hg, Bool.not_false, Bool.not_true, and_self]; done) | (simp only [Gt] at hg; simp only [All, List.cons_append, List.nil_append, List.append_nil, List.mem_cons, List.not_mem_nil, or_false, forall_eq_or_imp, forall_eq, hg, and_self])) (fun hg => by first | (simp only [Gt, Bool.and_eq_true] at hg; simp only [All, List.cons_append, List.nil_append, List.append_nil, List.mem_cons, List.not_mem_nil, or_false, forall_eq_or_imp, forall_eq, Bool.and_eq_true, hg, Bool.not_false, Bool.not_true, and_self]; done) | (simp only [Gt] at hg; simp only [All, List.cons_append, List.nil_append, List.append_nil, List.mem_cons, List.not_mem_nil, or_false, forall_eq_or_imp, forall_eq, hg, and_self])) Try.underlying54 Try.sizeOf65 (fun _ => ⟨hk.1, hk.2.1⟩) rfl rfl ?_; clear hC a; intro a hC
            exact L.nil ⟨⟨_, [], hC⟩, Frm.refl _ _⟩
          apply DRN.cons (.det _ _) rfl
          · intro a w hC
            refine L.fae hC rfl rfl rfl (fun hg => by first | (simp only [Gt, Bool.and_eq_true] at hg; simp only [All, List.cons_append, List.nil_append, List.append_nil, List.mem_cons, List.not_mem_nil, or_false, forall_eq_or_imp, forall_eq, Bool.and_eq_true, hg, Bool.not_false, Bool.not_true, and_self]; done) | (simp only [Gt] at hg; simp only [All, List.cons_append, List.nil_append, List.append_nil, List.mem_cons, List.not_mem_nil, or_false, forall_eq_or_imp, forall_eq, hg, and_self])) Try.underlying65 rfl Try.sizeOf3 rfl (fun hg => rd_some (hC.at m3) (by first | exact hk.2.2 | omega)) rfl rfl ?_; clear hC a; intro a hC
            exact L.nil ⟨⟨_, [], hC⟩, Frm.refl _ _⟩
          apply DRN.cons (.det _ _) rfl
          · intro a w hC
            refine L.ldx hC rfl rfl rfl rfl (fun hg => by first | (simp only [Gt, Bool.and_eq_true] at hg; simp only [All, List.cons_append, List.nil_append, List.append_nil, List.mem_cons, List.not_mem_nil, or_false, forall_eq_or_imp, forall_eq, Bool.and_eq_true, hg, Bool.not_false, Bool.not_true, and_self]; done) | (simp only [Gt] at hg; simp only [All, List.cons_append, List.nil_append, List.append_nil, List.mem_cons, List.not_mem_nil, or_false, forall_eq_or_imp, forall_eq, hg, and_self])) (fun hg => rd_bang hC m3 (by first | exact hk.2.2 | omega) _) Try.isAgg3 rfl rfl rfl ?_; clear hC a; intro a hC
            exact L.nil ⟨⟨_, [], hC⟩, Frm.refl _ _⟩
          apply DRN.cons (.det _ _) rfl
          · intro a w hC
            refine L.pu hC rfl rfl (fun hg => by first | (simp only [Gt, Bool.and_eq_true] at hg; simp only [All, List.cons_append, List.nil_append, List.append_nil, List.mem_cons, List.not_mem_nil, or_false, forall_eq_or_imp, forall_eq, Bool.and_eq_true, hg, Bool.not_false, Bool.not_true, and_self]; done) | (simp only [Gt] at hg; simp only [All, List.cons_append, List.nil_append, List.append_nil, List.mem_cons, List.not_mem_nil, or_false, forall_eq_or_imp, forall_eq, hg, and_self])) rfl rfl ?_; clear hC a; intro a hC
            exact L.nil ⟨⟨_, [], hC⟩, Frm.refl _ _⟩
          apply DRN.cons (.det _ _) rfl
          · intro a w hC
            refine L.fa hC rfl rfl rfl (fun _ => All.nil) Try.underlying60 rfl Try.sizeOf3 rfl rfl rfl ?_; clear hC a; intro a hC
            exact L.nil ⟨⟨_, [], hC⟩, Frm.refl _ _⟩
          apply DRN.cons (.det _ _) rfl
          · intro a w hC
            refine L.ld hC rfl rfl rfl (fun hg => by first | (simp only [Gt, Bool.and_eq_true] at hg; simp only [All, List.cons_append, List.nil_append, List.append_nil, List.mem_cons, List.not_mem_nil, or_false, forall_eq_or_imp, forall_eq, Bool.and_eq_true, hg, Bool.not_false, Bool.not_true, and_self]; done) | (simp only [Gt] at hg; simp only [All, List.cons_append, List.nil_append, List.append_nil, List.mem_cons, List.not_mem_nil, or_false, forall_eq_or_imp, forall_eq, hg, and_self])) m2 Try.isAgg3 rfl rfl rfl ?_; clear hC a; intro a hC
            exact L.nil ⟨⟨_, [], hC⟩, Frm.refl _ _⟩
          apply DRN.cons (.det _ _) rfl
          · intro a w hC
            refine L.pu hC rfl rfl (fun hg => by first | (simp only [Gt, Bool.and_eq_true] at hg; simp only [All, List.cons_append, List.nil_append, List.append_nil, List.mem_cons, List.not_mem_nil, or_false, forall_eq_or_imp, forall_eq, Bool.and_eq_true, hg, Bool.not_false, Bool.not_true, and_self]; done) | (simp only [Gt] at hg; simp only [All, List.cons_append, List.nil_append, List.append_nil, List.mem_cons, List.not_mem_nil, or_false, forall_eq_or_imp, forall_eq, hg, and_self])) rfl rfl ?_; clear hC a; intro a hC
            exact L.nil ⟨⟨_, [], hC⟩, Frm.refl _ _⟩
          apply DRN.cons (.det _ _) rfl
          · intro a w hC
            refine L.or hC rfl rfl rfl rfl (fun _ => All.nil) (fun _ hp => by first | (simp only [All, List.cons_append, List.nil_append, List.append_nil, List.mem_cons, List.not_mem_nil, or_false, forall_eq_or_imp, forall_eq, Bool.and_eq_true, hp, Bool.not_false, Bool.not_true, and_self]; done) | simp [All, hp]) rfl rfl ?_; clear hC a; intro a hC
            exact L.nil ⟨⟨_, [], hC⟩, Frm.refl _ _⟩
          refine DRN.nil (fun w' hF => ?_)
          intro a w hC hw
          subst hw
          refine hk13 _ _ ?_; clear hk13; try clear k13
          refine W.cond hC rfl (fun h4 => ?_) (fun h4 => ?_)
          ·
            exact absurd h4 (nt (hSl.each _ (bang_mem (l := Ls) (j := j) (by omega))))
          ·
            refine W.skip ?_
            refine hk12 _ _ ?_; clear hk12; try clear k12
            refine W.region ?_
            refine L.pu hC rfl rfl (fun _ => All.nil) rfl rfl ?_; clear hC a; intro a hC
            refine L.pu hC rfl rfl (fun _ => All.nil) rfl rfl ?_; clear hC a; intro a hC
            refine L.pu hC rfl rfl (fun _ => All.nil) rfl rfl ?_; clear hC a; intro a hC
            refine L.nil ?_
            replace hC := hC.fr3
            replace hC := hC.fr3
            replace hC := hC.fr3
            replace hC := hC.fr3
            exact ⟨j + 1, ⟨by omega, hC.keep ⟨geti rfl (w64 (by omega)), rfl, rfl, rfl, rfl, rfl, trivial⟩⟩, by first | omega | (dsimp only; omega)⟩
        ·
          have h3 := of_decide_eq_false h3
          refine W.exit ?_
          refine Kb.here ?_
          refine hk8 _ _ ?_; clear hk8; try clear k8
          refine W.seqk fun k14 hk14 => ?_
          refine W.region ?_
          refine L.lda hC rfl rfl rfl (fun _ => All.nil) m1 Try.isAgg56 Try.sizeOf56 rfl rfl rfl rfl ?_; clear hC a; intro a hC
          refine L.lda hC rfl rfl rfl (fun _ => All.nil) m2 Try.isAgg60 Try.sizeOf60 rfl rfl rfl rfl ?_; clear hC a; intro a hC
          refine L.pu hC rfl rfl (fun _ => All.nil) rfl rfl ?_; clear hC a; intro a hC
          refine L.pu hC rfl rfl (fun _ => All.nil) rfl rfl ?_; clear hC a; intro a hC
          refine L.pu hC rfl rfl (fun _ => All.nil) rfl rfl ?_; clear hC a; intro a hC
          refine L.callg [] hC rfl rfl Try.call29 rfl (Over_ok c v ov s l tick d Ls _ (hC.at m3) (own_rd (hC.at m0))) (fun b h => h.elim) rfl rfl ?_; clear hC a; intro rv a w hQ hC
          refine L.pu hC rfl rfl (fun _ => All.nil) rfl rfl ?_; clear hC a; intro a hC
          refine L.pu hC rfl rfl (fun _ => All.nil) rfl rfl ?_; clear hC a; intro a hC
          refine L.pu hC rfl rfl (fun _ => All.nil) rfl rfl ?_; clear hC a; intro a hC
          refine L.alloc hC rfl rfl Try.zeroValue56 rfl rfl rfl ?_; clear hC a; intro xb a w hF hC
          refine L.st hC rfl rfl rfl rfl Try.sizeOf56 rfl rfl (by obtain ⟨oA, oc, hov⟩ := own_form (hC.at m1); rw [hov]; rfl) rfl rfl ?_; clear hC a; intro a w hF hC
          refine L.pu hC rfl rfl (fun _ => All.nil) rfl rfl ?_; clear hC a; intro a hC
          refine L.nil ?_
          refine hk14 _ _ ?_; clear hk14; try clear k14
          refine W.seqk fun k15 hk15 => ?_
          refine W.region ?_
          refine L.lda hC rfl rfl rfl (fun _ => All.nil) m0 Try.isAgg56 Try.sizeOf56 rfl rfl rfl rfl ?_; clear hC a; intro a hC
          refine L.lda hC rfl rfl rfl (fun _ => All.nil) m4 Try.isAgg60 Try.sizeOf60 rfl rfl rfl rfl ?_; clear hC a; intro a hC
          refine L.pu hC rfl rfl (fun _ => All.nil) rfl rfl ?_; clear hC a; intro a hC
          refine L.callg [] hC rfl rfl Try.call27 rfl (Slow_ok (overR c s l tick d Ls).1 rv s (overR c s l tick d Ls).2.1 tick _ (own_rd (hC.at m1))) (fun b h => h.elim) rfl rfl ?_; clear hC a; intro mv a w hQ hC
          refine L.pu hC rfl rfl (fun _ => All.nil) rfl rfl ?_; clear hC a; intro a hC
          refine L.pu hC rfl rfl (fun _ => All.nil) rfl rfl ?_; clear hC a; intro a hC
          refine L.pu hC rfl rfl (fun _ => All.nil) rfl rfl ?_; clear hC a; intro a hC
          refine L.pu hC rfl rfl (fun _ => All.nil) rfl rfl ?_; clear hC a; intro a hC
          refine L.pu hC rfl rfl (fun _ => All.nil) rfl rfl ?_; clear hC a; intro a hC
          refine L.nil ?_
          refine hk15 _ _ ?_; clear hk15; try clear k15
          refine W.seqk fun k16 hk16 => ?_
          refine W.region ?_
          refine L.pu hC rfl rfl (fun _ => All.nil) rfl rfl ?_; clear hC a; intro a hC
          refine L.call hC rfl rfl Try.call28 rfl (fun _ => All.nil) (fun hg => num27_ok _ _) rfl rfl ?_; clear hC a; intro a w hF hC
          refine L.pu hC rfl rfl (fun _ => All.nil) rfl rfl ?_; clear hC a; intro a hC
          refine L.call hC rfl rfl Try.call28 rfl (fun _ => All.nil) (fun hg => num27_ok _ _) rfl rfl ?_; clear hC a; intro a w hF hC
          refine L.pu hC rfl rfl (fun _ => All.nil) rfl rfl ?_; clear hC a; intro a hC
          refine L.pu hC rfl rfl (fun _ => All.nil) rfl rfl ?_; clear hC a; intro a hC
          refine L.pu hC rfl rfl (fun _ => All.nil) rfl rfl ?_; clear hC a; intro a hC
          refine L.pu hC rfl rfl (fun _ => All.nil) rfl rfl ?_; clear hC a; intro a hC
          refine L.len hC rfl rfl rfl (fun hg => by first | (simp only [Gt, Bool.and_eq_true] at hg; simp only [All, List.cons_append, List.nil_append, List.append_nil, List.mem_cons, List.not_mem_nil, or_false, forall_eq_or_imp, forall_eq, Bool.and_eq_true, hg, Bool.not_false, Bool.not_true, and_self]; done) | (simp only [Gt] at hg; simp only [All, List.cons_append, List.nil_append, List.append_nil, List.mem_cons, List.not_mem_nil, or_false, forall_eq_or_imp, forall_eq, hg, and_self])) (own_form (hC.at m0)) Try.underlying37 rfl rfl ?_; clear hC a; intro a hC
          refine L.pu hC rfl rfl (fun hg => by first | (simp only [Gt, Bool.and_eq_true] at hg; simp only [All, List.cons_append, List.nil_append, List.append_nil, List.mem_cons, List.not_mem_nil, or_false, forall_eq_or_imp, forall_eq, Bool.and_eq_true, hg, Bool.not_false, Bool.not_true, and_self]; done) | (simp only [Gt] at hg; simp only [All, List.cons_append, List.nil_append, List.append_nil, List.mem_cons, List.not_mem_nil, or_false, forall_eq_or_imp, forall_eq, hg, and_self])) rfl rfl ?_; clear hC a; intro a hC
          refine L.and hC rfl rfl rfl rfl (fun _ => All.nil) (fun _ hp => by first | (simp only [All, List.cons_append, List.nil_append, List.append_nil, List.mem_cons, List.not_mem_nil, or_false, forall_eq_or_imp, forall_eq, Bool.and_eq_true, hp, Bool.not_false, Bool.not_true, and_self]; done) | simp [All, hp]) rfl rfl ?_; clear hC a; intro a hC
          refine L.pu hC rfl rfl (fun _ => All.nil) rfl rfl ?_; clear hC a; intro a hC
          refine L.nil ?_
          refine hk16 _ _ ?_; clear hk16; try clear k16
          refine W.ret ?_
          refine rets hC rfl (.tmp rfl .nil) ?_
          refine ⟨?_, hC.frm⟩
          refine rb ?_
          rw [hSl.err, hSl.good, hSl.none]; rfl

end Go.Proofs.E
