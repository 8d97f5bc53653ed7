/- Calls: the attempts that are out. -/
import Derived.Test.YtgekiiildobfkaaC2
set_option linter.unusedVariables false
set_option linter.unusedSimpArgs false
namespace Go.Proofs.E
open Go.RowKit
theorem Conf.restart {n : Nat} {S : Nat → Prop} {w0 : World} {ρ : Env} {μ : List Res} {a : Go.Act} {w : World} (h : Conf n S w0 ρ μ a w) (hn : ∀ r ∈ μ, ∀ b, ¬ r.fp b) : Conf n Nob w ρ μ a w :=
  ⟨h.env, h.mem, Frm.refl _ _, fun r hr b hb => absurd hb (hn r hr b)⟩
theorem gnot {b : Bool} (h : Gt (some (!b))) : b = false := by simpa [Gt] using h
theorem gnot' {b : Bool} (h : ¬ Gt (some (!b))) : b = true := by simpa [Gt] using h
theorem yat {xs : List (List Value)} {i : Nat} {hi : i < xs.length} {vs : List Value} {P : Program} {l : Nat} {w : World} {R : Ending → World → Prop} (h : xs[i] = vs) (hy : YieldAt (FR none) 0 P l xs[i].toArray w R) : YieldAt (FR none) 0 P l vs.toArray w R := h ▸ hy
theorem Mem.ro3 {α : Type _} {b b' : Nat} {us us' : List Value} {t t' : TypeId} {v : Value} {E : Enc α} {l : List α} {w : World} (h1 : (robR b us t).ok w) (h2 : (robR b' us' t').ok w) (h3 : (rdR v E l).ok w) : Mem [robR b us t, robR b' us' t', rdR v E l] w :=
  ⟨by simp [h1, h2, h3], by simp [apart, robR, rdR]⟩
def outsP : Nat → List Att → List (Nat × Att)
  | _, [] => []
  | j, a :: r => if (!a.over) = true then (j, a) :: outsP (j + 1) r else outsP (j + 1) r
def outsE (l : List Att) : List (List Value) := (outsP 0 l).map fun p => [.int .i64 (p.1 : Int), .agg (attE.enc p.2).toArray]
instance : Inhabited (Nat × Att) := ⟨(0, default)⟩
theorem outs_cons {l : List Att} {j : Nat} (hj : j < l.length) : outsP j (l.drop j) = if (!l[j]!.over) = true then (j, l[j]!) :: outsP (j + 1) (l.drop (j + 1)) else outsP (j + 1) (l.drop (j + 1)) := by
  rw [List.drop_eq_getElem_cons hj, bang hj, outsP]
theorem outs_at {l : List Att} {i j : Nat} (h : (outsP 0 l).drop i = outsP j (l.drop j)) (hj : j < l.length) (ho : l[j]!.over = false) :
    i + 1 ≤ (outsP 0 l).length ∧ ∃ hi : i < (outsE l).length, (outsE l)[i] = [.int .i64 (j : Int), .agg (attE.enc l[j]!).toArray] := by
  rw [outs_cons hj, ho, if_pos (by rfl)] at h
  have hi : i < (outsP 0 l).length := by
    rcases Nat.lt_or_ge i (outsP 0 l).length with h' | h'
    · exact h'
    · rw [List.drop_of_length_le h'] at h; cases h
  rw [List.drop_eq_getElem_cons hi] at h
  have h1 := (List.cons.inj h).1
  refine ⟨hi, by simpa [outsE] using hi, ?_⟩
  simp only [outsE, List.getElem_map, h1]
theorem outs_yes {l : List Att} {i j : Nat} (h : (outsP 0 l).drop i = outsP j (l.drop j)) (hj : j < l.length) (ho : l[j]!.over = false) : (outsP 0 l).drop (i + 1) = outsP (j + 1) (l.drop (j + 1)) := by
  rw [outs_cons hj, ho, if_pos (by rfl)] at h
  rw [← List.tail_drop, h]; rfl
theorem outs_no {l : List Att} {i j : Nat} (h : (outsP 0 l).drop i = outsP j (l.drop j)) (hj : j < l.length) (ho : l[j]!.over = true) : (outsP 0 l).drop i = outsP (j + 1) (l.drop (j + 1)) := by
  rw [outs_cons hj, ho, if_neg (by simp)] at h
  exact h
theorem outs_len {l : List Att} {i j : Nat} (h : (outsP 0 l).drop i = outsP j (l.drop j)) (hi : i ≤ (outsP 0 l).length) (hj : l.length ≤ j) : i = (outsE l).length := by
  rw [List.drop_of_length_le hj] at h
  have : (outsP 0 l).length ≤ i := by
    have := congrArg List.length h
    simp [outsP] at this
    omega
  simp [outsE]; omega
theorem outs_bound : ∀ (l : List Att) (j : Nat), (outsP j l).length ≤ l.length
  | [], j => by simp [outsP]
  | a :: l, j => by
    rw [outsP]
    have := outs_bound l (j + 1)
    split <;> simp <;> omega
theorem outs_le (l : List Att) : (outsE l).length ≤ l.length := by simpa [outsE] using outs_bound l 0
theorem outs_get {l : List Att} {i : Nat} (hi : i < (outsE l).length) : (outsE l)[i] = [.int .i64 ((outsP 0 l)[i]!.1 : Int), .agg (attE.enc (outsP 0 l)[i]!.2).toArray] := by
  have hi' : i < (outsP 0 l).length := by simpa [outsE] using hi
  simp only [outsE, List.getElem_map]
  rw [bang hi']
theorem outs_two (l : List Att) : ∀ v ∈ outsE l, v.length = 2 := by
  intro v hv
  simp only [outsE, List.mem_map] at hv
  obtain ⟨p, _, rfl⟩ := hv
  rfl
def cntA (l : List Att) : Int := ((l.filter fun a => !a.over).length : Int)
def hedA (l : List Att) : Int := ((l.filter fun a => !a.over && a.hedge).length : Int)
def hedN (l : List Att) (i : Nat) : Int := ((((outsP 0 l).take i).filter fun p => p.2.hedge).length : Int)
theorem take_one {α : Type _} [Inhabited α] {l : List α} {i : Nat} (hi : i < l.length) : l.take (i + 1) = l.take i ++ [l[i]!] := by
  rw [List.take_add_one, List.getElem?_eq_getElem hi, bang hi]; rfl
theorem hed_no {l : List Att} {i : Nat} (hi : i < (outsP 0 l).length) (h : (outsP 0 l)[i]!.2.hedge = false) : hedN l i = hedN l (i + 1) := by
  unfold hedN
  rw [take_one hi, List.filter_append, List.filter_cons_of_neg (by rw [h]; simp), List.filter_nil, List.append_nil]
theorem hed_yes {l : List Att} {i : Nat} (hi : i < (outsP 0 l).length) (h : (outsP 0 l)[i]!.2.hedge = true) (hb : i < 9223372036854775807) : IntKind.i64.wrap (hedN l i + 1) = hedN l (i + 1) := by
  have hle : (((outsP 0 l).take i).filter fun p => p.2.hedge).length ≤ i := by
    have h1 := List.length_filter_le (fun p : Nat × Att => p.2.hedge) ((outsP 0 l).take i)
    rw [List.length_take] at h1
    omega
  unfold hedN
  rw [take_one hi, List.filter_append, List.filter_cons_of_pos (by exact h), List.filter_nil, List.length_append, w64 (by omega)]
  simp
theorem outs_snd : ∀ (l : List Att) (j : Nat), (outsP j l).map (·.2) = l.filter fun a => !a.over
  | [], j => rfl
  | a :: l, j => by
    rw [outsP, List.filter_cons]
    split
    · rw [List.map_cons, outs_snd l (j + 1)]
    · rw [outs_snd l (j + 1)]
theorem outs_cnt (l : List Att) : ((outsE l).length : Int) = cntA l := by
  unfold cntA outsE
  rw [← outs_snd l 0]; simp
theorem hedN_all (l : List Att) : hedN l (outsE l).length = hedA l := by
  unfold hedN hedA
  have h1 : (outsE l).length = (outsP 0 l).length := by simp [outsE]
  rw [h1, List.take_length]
  have h2 : (l.filter fun a => !a.over && a.hedge) = ((outsP 0 l).map (·.2)).filter fun a => a.hedge := by
    rw [outs_snd, List.filter_filter]
    refine List.filter_congr (fun a _ => ?_)
    rw [Bool.and_comm]
  rw [h2, List.filter_map, List.length_map]
  rfl
theorem out_ok (mb : Nat) (w0 : World) : Calls Try.prog 78 #[.pointer (some ⟨mb, 0, none⟩)] w0 fun e w' => ∃ ob : Nat, e = .returned (.func (.func 122) #[] #[.pointer (some ⟨ob, 0, none⟩)]) ∧ True ∧ Post Nob [blkR ob [.pointer (some ⟨mb, 0, none⟩)] 136] w0 w' := by
  refine enter (μ := []) (S := Nob) (vs := [.pointer (some ⟨mb, 0, none⟩)]) Try.func78 rfl Try.ntmps78 rfl (Mem.nil _) (by simp) (fun a hC => ?_)
  refine W.seqk fun k1 hk1 => ?_
  refine W.region ?_
  refine L.box hC rfl rfl rfl rfl rfl rfl ?_; clear hC a; intro ob a w hF hC
  refine L.pu hC rfl rfl (fun _ => All.nil) rfl rfl ?_; clear hC a; intro a hC
  refine L.nil ?_
  refine hk1 _ _ ?_; clear hk1; try clear k1
  refine W.seqk fun k2 hk2 => ?_
  refine W.region ?_
  refine L.pu hC rfl rfl (fun _ => All.nil) rfl rfl ?_; clear hC a; intro a hC
  refine L.pu hC rfl rfl (fun _ => All.nil) rfl rfl ?_; clear hC a; intro a hC
  refine L.nil ?_
  refine hk2 _ _ ?_; clear hk2; try clear k2
  refine W.ret ?_
  refine rets hC rfl (.tmp rfl .nil) ?_
  exact ⟨_, rfl, trivial, hC.toPost (by simp [blkR])⟩

theorem out_iter (mb ob : Nat) (c : CallH) (v : Value) (s : CSet) (l : List Att) : Iter Try.prog 122 #[.pointer (some ⟨ob, 0, none⟩)] (outsE l) (fun W => Mem [robR ob [.pointer (some ⟨mb, 0, none⟩)] 136, robR mb (askE c v s) 143, rdR v attE l] W) := by
  intro l0 J Jx W hJ hJx hI hY h0
  rw [show (#[.func (.yield l0) #[] #[]] ++ #[.pointer (some ⟨ob, 0, none⟩)] : Array Value) = #[.func (.yield l0) #[] #[], .pointer (some ⟨ob, 0, none⟩)] from rfl]
  have hlen := rd_lt ((hI _ _ h0).at m2)
  refine enterI (μ := [robR ob [.pointer (some ⟨mb, 0, none⟩)] 136, robR mb (askE c v s) 143, rdR v attE l]) (S := Nob) (vs := [.func (.yield l0) #[] #[], .pointer (some ⟨ob, 0, none⟩)]) Try.func122 rfl Try.ntmps122 rfl (hI _ _ h0) (by simp [robR, rdR]) (fun a hC => ?_)
  refine WI.seqk fun k1 hk1 => ?_
  refine WI.reg rfl ?_
  refine L.ldr hC rfl rfl rfl (fun _ => All.nil) m0 Try.isAgg136 rfl rfl rfl ?_; clear hC a; intro a hC
  refine L.pu hC rfl rfl (fun _ => All.nil) rfl rfl ?_; clear hC a; intro a hC
  refine L.fa hC rfl rfl rfl (fun _ => All.nil) Try.underlying143 rfl Try.sizeOf56 rfl rfl rfl ?_; clear hC a; intro a hC
  refine L.fa hC rfl rfl rfl (fun _ => All.nil) Try.underlying56 rfl Try.sizeOf54 rfl rfl rfl ?_; clear hC a; intro a hC
  refine L.ldr hC rfl rfl rfl (fun _ => All.nil) m1 Try.isAgg54 rfl rfl rfl ?_; clear hC a; intro a hC
  refine L.len hC rfl rfl rfl (fun _ => All.nil) (rd_form (hC.at m2)) Try.underlying54 rfl rfl ?_; clear hC a; intro a hC
  refine L.pu hC rfl rfl (fun _ => All.nil) rfl rfl ?_; clear hC a; intro a hC
  refine L.nil ⟨hC.env.defers, ?_⟩
  refine hk1 _ _ _ ?_; clear hk1; try clear k1
  refine WI.block ?_
  replace hC := hC.fr2
  replace hC := hC.fr2
  replace hC := hC.fr2
  refine WI.loop (fun (gst : Nat × Nat) ds a w' => match gst with | ⟨j, i⟩ => ds = [] ∧ (j ≤ l.length) ∧ (i ≤ (outsP 0 l).length) ∧ ((outsP 0 l).drop i = outsP j (l.drop j)) ∧ (J i w') ∧ Conf 27 Nob w' [(11, (none, .int .i64 (j : Int))), (10, (none, .int .i64 (l.length : Int))), (9, (none, v)), (0, (none, .func (.yield l0) #[] #[]))] [robR ob [.pointer (some ⟨mb, 0, none⟩)] 136, robR mb (askE c v s) 143, rdR v attE l] a w') (fun (gst : Nat × Nat) => match gst with | ⟨j, i⟩ => l.length - j) (0, 0) ?_ hC.env.defers ?_
  · exact ⟨rfl, Nat.zero_le _, Nat.zero_le _, rfl, h0, hC.keep ⟨rfl, rfl, rfl, rfl, trivial⟩⟩
  · rintro ⟨j, i⟩ ds a w ⟨rfl, hjl, hil, hd, hj, hC⟩
    refine WI.seqk fun k2 hk2 => ?_
    refine WI.reg rfl ?_
    refine L.pu hC rfl rfl (fun _ => All.nil) rfl rfl ?_; clear hC a; intro a hC
    refine L.nil ⟨hC.env.defers, ?_⟩
    refine hk2 _ _ _ ?_; clear hk2; try clear k2
    refine WI.seqk fun k3 hk3 => ?_
    refine WI.cond hC rfl (fun h1 => ?_) (fun h1 => ?_)
    ·
      have h1 := of_decide_eq_true h1
      refine WI.skip hC.env.defers ?_
      refine hk3 _ _ _ ?_; clear hk3; try clear k3
      refine WI.seqk fun k4 hk4 => ?_
      refine WI.block ?_
      refine WI.seqk fun k5 hk5 => ?_
      refine WI.reg rfl ?_
      refine L.pu hC rfl rfl (fun _ => All.nil) rfl rfl ?_; clear hC a; intro a hC
      refine L.ixr hC rfl rfl rfl rfl m2 (fun _ => All.nil) (fun _ => All.nil) Try.underlying54 Try.sizeOf65 (fun _ => by omega) rfl rfl ?_; clear hC a; intro a hC
      refine L.ldxa hC rfl rfl rfl rfl (fun _ => All.nil) (fun hg => rd_bang hC m2 (by omega) _) Try.isAgg65 Try.sizeOf65 rfl rfl rfl rfl ?_; clear hC a; intro a hC
      refine L.alloc hC rfl rfl Try.zeroValue65 rfl rfl rfl ?_; clear hC a; intro ab a w hF hC
      refine L.pu hC rfl rfl (fun _ => All.nil) rfl rfl ?_; clear hC a; intro a hC
      refine L.st hC rfl rfl rfl rfl Try.sizeOf65 rfl rfl rfl rfl rfl ?_; clear hC a; intro a w hF hC
      refine L.nil ⟨hC.env.defers, ?_⟩
      refine hk5 _ _ _ ?_; clear hk5; try clear k5
      refine WI.seqk fun k6 hk6 => ?_
      refine WI.region ?_
      refine LI.preN 7 rfl ?_
      refine L.fa hC rfl rfl rfl (fun _ => All.nil) Try.underlying65 rfl Try.sizeOf4 rfl rfl rfl ?_; clear hC a; intro a hC
      refine L.ld hC rfl rfl rfl (fun _ => All.nil) m0 Try.isAgg4 rfl rfl rfl ?_; clear hC a; intro a hC
      refine L.pu hC rfl rfl (fun _ => All.nil) rfl rfl ?_; clear hC a; intro a hC
      refine L.pu hC rfl rfl (fun _ => All.nil) rfl rfl ?_; clear hC a; intro a hC
      refine L.pu hC rfl rfl (fun _ => All.nil) rfl rfl ?_; clear hC a; intro a hC
      refine L.pu hC rfl rfl (fun _ => All.nil) rfl rfl ?_; clear hC a; intro a hC
      refine L.lda hC rfl rfl rfl (fun _ => All.nil) m0 Try.isAgg65 Try.sizeOf65 rfl rfl rfl rfl ?_; clear hC a; intro a hC
      refine L.nil ⟨hC.env.defers, ?_⟩
      refine LI.yield hC rfl rfl rfl (fun hg => by first | (simp only [Gt, Bool.and_eq_true] at hg; simp only [All, List.cons_append, List.nil_append, List.append_nil, List.mem_cons, List.not_mem_nil, or_false, forall_eq_or_imp, forall_eq, Bool.and_eq_true, hg, Bool.not_false, Bool.not_true, and_self]; done) | (simp only [Gt] at hg; simp only [All, List.cons_append, List.nil_append, List.append_nil, List.mem_cons, List.not_mem_nil, or_false, forall_eq_or_imp, forall_eq, hg, and_self])) rfl (fun hg => by first | (simp only [Gt, Bool.and_eq_true] at hg; simp only [All, List.cons_append, List.nil_append, List.append_nil, List.mem_cons, List.not_mem_nil, or_false, forall_eq_or_imp, forall_eq, Bool.and_eq_true, hg, Bool.not_false, Bool.not_true, and_self]; done) | (simp only [Gt] at hg; simp only [All, List.cons_append, List.nil_append, List.append_nil, List.mem_cons, List.not_mem_nil, or_false, forall_eq_or_imp, forall_eq, hg, and_self])) rfl rfl (fun hg => (outs_at hd (show j < l.length by omega) (gnot hg)).2.elim fun hi hxe => yat hxe (hY i hi _ (hJ _ _ _ hj hC.frm))) (fun hg e w hR => ?_) (fun hg a hE => ?_)
      · rcases hR with ⟨rfl, hj⟩ | ⟨rfl, hx⟩
        ·
          refine ⟨true, rfl, fun a hE => ?_⟩
          have hov := gnot hg
          have hC : Conf 27 Nob w _ [robR ob [.pointer (some ⟨mb, 0, none⟩)] 136, robR mb (askE c v s) 143, rdR v attE l] a w := ⟨hE, hI _ _ hj, Frm.refl _ _, by simp [robR, rdR]⟩
          clear hE
          refine LI.preN 2 rfl ?_
          refine L.pu hC rfl rfl (fun hg => by first | (simp only [Gt, Bool.and_eq_true] at hg; simp only [All, List.cons_append, List.nil_append, List.append_nil, List.mem_cons, List.not_mem_nil, or_false, forall_eq_or_imp, forall_eq, Bool.and_eq_true, hg, Bool.not_false, Bool.not_true, and_self]; done) | (simp only [Gt] at hg; simp only [All, List.cons_append, List.nil_append, List.append_nil, List.mem_cons, List.not_mem_nil, or_false, forall_eq_or_imp, forall_eq, hg, and_self])) rfl rfl ?_; clear hC a; intro a hC
          refine L.and hC rfl rfl rfl rfl (fun _ => All.nil) (fun _ hp => by first | (simp only [All, List.cons_append, List.nil_append, List.append_nil, List.mem_cons, List.not_mem_nil, or_false, forall_eq_or_imp, forall_eq, Bool.and_eq_true, hp, Bool.not_false, Bool.not_true, and_self]; done) | simp [All, hp]) rfl rfl ?_; clear hC a; intro a hC
          refine L.nil ⟨hC.env.defers, ?_⟩
          refine LI.nil hC.env.defers ?_
          refine hk6 _ _ _ ?_; clear hk6; try clear k6
          refine WI.cond hC rfl (fun h2 => ?_) (fun h2 => ?_)
          ·
            exact absurd h2 (by simp)
          ·
            refine WI.skip hC.env.defers ?_
            refine hk4 _ _ _ ?_; clear hk4; try clear k4
            refine WI.reg rfl ?_
            refine L.pu hC rfl rfl (fun _ => All.nil) rfl rfl ?_; clear hC a; intro a hC
            refine L.pu hC rfl rfl (fun _ => All.nil) rfl rfl ?_; clear hC a; intro a hC
            refine L.nil ⟨hC.env.defers, ?_⟩
            replace hj := hJ _ _ _ hj hC.frm
            replace hC := hC.fr2
            replace hC := hC.fr2
            replace hC := hC.fr2
            replace hC := hC.restart (by simp [robR, rdR])
            exact ⟨(j + 1, i + 1), ⟨rfl, by omega, by first | exact (outs_at hd (by omega) hov).1 | exact hil, by first | exact outs_yes hd (by omega) hov | exact outs_no hd (by omega) hov, hj, hC.keep ⟨geti rfl (w64 (by omega)), rfl, rfl, rfl, trivial⟩⟩, by first | omega | (dsimp only; omega)⟩
        ·
          refine ⟨false, rfl, fun a hE => ?_⟩
          have hC : Conf 27 Nob w _ [] a w := ⟨hE, Mem.nil _, Frm.refl _ _, by simp⟩
          clear hE
          refine LI.preN 2 rfl ?_
          refine L.pu hC rfl rfl (fun hg => by first | (simp only [Gt, Bool.and_eq_true] at hg; simp only [All, List.cons_append, List.nil_append, List.append_nil, List.mem_cons, List.not_mem_nil, or_false, forall_eq_or_imp, forall_eq, Bool.and_eq_true, hg, Bool.not_false, Bool.not_true, and_self]; done) | (simp only [Gt] at hg; simp only [All, List.cons_append, List.nil_append, List.append_nil, List.mem_cons, List.not_mem_nil, or_false, forall_eq_or_imp, forall_eq, hg, and_self])) rfl rfl ?_; clear hC a; intro a hC
          refine L.and hC rfl rfl rfl rfl (fun _ => All.nil) (fun _ hp => by first | (simp only [All, List.cons_append, List.nil_append, List.append_nil, List.mem_cons, List.not_mem_nil, or_false, forall_eq_or_imp, forall_eq, Bool.and_eq_true, hp, Bool.not_false, Bool.not_true, and_self]; done) | simp [All, hp]) rfl rfl ?_; clear hC a; intro a hC
          refine L.nil ⟨hC.env.defers, ?_⟩
          refine LI.nil hC.env.defers ?_
          refine hk6 _ _ _ ?_; clear hk6; try clear k6
          refine WI.cond hC rfl (fun h3 => ?_) (fun h3 => ?_)
          ·
            refine WI.ret hC.env.defers ?_
            refine leave0 ?_
            refine ret0 hC rfl ?_
            exact ⟨⟨_, rfl⟩, .inr hx⟩
          ·
            exact absurd h3 (by rw [gnot hg]; simp)
      ·
        have hov := gnot' hg
        replace hC : Conf 27 _ _ _ _ a _ := ⟨hE, hC.mem, hC.frm, hC.own⟩
        clear hE
        refine LI.preN 2 rfl ?_
        refine L.pu hC rfl rfl (fun hg => by first | (simp only [Gt, Bool.and_eq_true] at hg; simp only [All, List.cons_append, List.nil_append, List.append_nil, List.mem_cons, List.not_mem_nil, or_false, forall_eq_or_imp, forall_eq, Bool.and_eq_true, hg, Bool.not_false, Bool.not_true, and_self]; done) | (simp only [Gt] at hg; simp only [All, List.cons_append, List.nil_append, List.append_nil, List.mem_cons, List.not_mem_nil, or_false, forall_eq_or_imp, forall_eq, hg, and_self])) rfl rfl ?_; clear hC a; intro a hC
        refine L.and hC rfl rfl rfl rfl (fun _ => All.nil) (fun _ hp => by first | (simp only [All, List.cons_append, List.nil_append, List.append_nil, List.mem_cons, List.not_mem_nil, or_false, forall_eq_or_imp, forall_eq, Bool.and_eq_true, hp, Bool.not_false, Bool.not_true, and_self]; done) | simp [All, hp]) rfl rfl ?_; clear hC a; intro a hC
        refine L.nil ⟨hC.env.defers, ?_⟩
        refine LI.nil hC.env.defers ?_
        refine hk6 _ _ _ ?_; clear hk6; try clear k6
        refine WI.cond hC rfl (fun h4 => ?_) (fun h4 => ?_)
        ·
          exact absurd h4 (by rw [gnot' hg]; simp)
        ·
          refine WI.skip hC.env.defers ?_
          refine hk4 _ _ _ ?_; clear hk4; try clear k4
          refine WI.reg rfl ?_
          refine L.pu hC rfl rfl (fun _ => All.nil) rfl rfl ?_; clear hC a; intro a hC
          refine L.pu hC rfl rfl (fun _ => All.nil) rfl rfl ?_; clear hC a; intro a hC
          refine L.nil ⟨hC.env.defers, ?_⟩
          replace hj := hJ _ _ _ hj hC.frm
          replace hC := hC.subl (.cons _ (.cons_cons _ (.cons_cons _ (.cons_cons _ .slnil))))
          replace hC := hC.fr2
          replace hC := hC.fr2
          replace hC := hC.fr2
          replace hC := hC.restart (by simp [robR, rdR])
          exact ⟨(j + 1, i), ⟨rfl, by omega, by first | exact (outs_at hd (by omega) hov).1 | exact hil, by first | exact outs_yes hd (by omega) hov | exact outs_no hd (by omega) hov, hj, hC.keep ⟨geti rfl (w64 (by omega)), rfl, rfl, rfl, trivial⟩⟩, by first | omega | (dsimp only; omega)⟩
    ·
      have h1 := of_decide_eq_false h1
      refine WI.exit hC.env.defers ?_
      refine KbI.here ?_
      refine leave0 ?_
      refine ret0 hC rfl ?_
      refine ⟨⟨_, rfl⟩, .inl ?_⟩
      have e : i = (outsE l).length := outs_len hd hil (by omega)
      rw [← e]; exact hj

theorem counts_ok (mb : Nat) (c : CallH) (v : Value) (s : CSet) (l : List Att) (w0 : World) (hm : (robR mb (askE c v s) 143).ok w0) (hr : (rdR v attE l).ok w0) : Calls Try.prog 80 #[.pointer (some ⟨mb, 0, none⟩)] w0 fun e w' => e = .returned (.tuple #[.int .i64 (cntA l), .int .i64 (hedA l)]) ∧ Frm Nob w0 w' := by
  have hlen := rd_lt hr
  have hol := outs_le l
  refine (callsIn_wide (n := 0)).1 ?_
  show CallsIn (FR none) 0 _ _ _ _ _
  refine enterI (μ := [robR mb (askE c v s) 143, rdR v attE l]) (S := Nob) (vs := [.pointer (some ⟨mb, 0, none⟩)]) Try.func80 rfl Try.ntmps80 rfl (Mem.ro1 hm hr) (by simp [robR, rdR]) (fun a hC => ?_)
  refine WI.seqk fun k1 hk1 => ?_
  refine WI.reg rfl ?_
  refine L.alloc hC rfl rfl Try.zeroValue3 rfl rfl rfl ?_; clear hC a; intro nb a w hF hC
  refine L.alloc hC rfl rfl Try.zeroValue3 rfl rfl rfl ?_; clear hC a; intro hb a w hF hC
  refine L.nil ⟨hC.env.defers, ?_⟩
  refine hk1 _ _ _ ?_; clear hk1; try clear k1
  refine WI.seqk fun k2 hk2 => ?_
  refine WI.seqk fun k3 hk3 => ?_
  refine WI.reg rfl ?_
  refine L.pu hC rfl rfl (fun _ => All.nil) rfl rfl ?_; clear hC a; intro a hC
  refine L.callg [] hC rfl rfl Try.call78 rfl (out_ok mb _) (fun b h => h.elim) rfl rfl ?_; clear hC a; intro ob a w hQ hC
  refine L.nil ⟨hC.env.defers, ?_⟩
  refine hk3 _ _ _ ?_; clear hk3; try clear k3
  refine WI.block ?_
  replace hC := hC.fr4
  replace hC := hC.fr4
  replace hC := hC.fr4
  replace hC := hC.fr4
  replace hC := hC.fr4
  refine WI.range (Y := Nat) (Z := Empty) (fun i (_ : Unit) => [blkR ob [.pointer (some ⟨mb, 0, none⟩)] 136, blkR hb [.int .i64 (hedN l i)] 3, blkR nb [.int .i64 (i : Int)] 3, robR mb (askE c v s) 143, rdR v attE l]) (fun _ _ => True) (fun i _ y => [(5, (none, .pointer (some ⟨y, 0, none⟩))), (3, (none, .pointer (some ⟨hb, 0, none⟩))), (2, (none, .pointer (some ⟨nb, 0, none⟩)))]) (fun i _ y => [blkR y (attE.enc (outsP 0 l)[i]!.2) 65, blkR ob [.pointer (some ⟨mb, 0, none⟩)] 136, blkR hb [.int .i64 (hedN l i)] 3, blkR nb [.int .i64 (i : Int)] 3, robR mb (askE c v s) 143, rdR v attE l]) (fun _ z => nomatch z) () hC trivial rfl Try.call122 (out_iter mb ob c v s l) (fun i x W hm => Mem.ro3 (ro_of (hm.at m0)) (hm.at m3) (hm.at m4)) (outs_two l) (by decide) ?_ ?_ ?_ ?_
  · intro i x yl S' W a R hi hq hC
    have hxe := outs_get hi
    rw [hxe] at hC
    replace hC : Conf 18 S' W (pars [8, 9] [.int .i64 ((outsP 0 l)[i]!.1 : Int), .agg (attE.enc (outsP 0 l)[i]!.2).toArray] _) [blkR ob [.pointer (some ⟨mb, 0, none⟩)] 136, blkR hb [.int .i64 (hedN l i)] 3, blkR nb [.int .i64 (i : Int)] 3, robR mb (askE c v s) 143, rdR v attE l, R] a W := hC
    refine WI.reg rfl ?_
    refine L.alloc hC rfl rfl Try.zeroValue65 rfl rfl rfl ?_; clear hC a; intro ab a w hF hC
    refine L.st hC rfl rfl rfl rfl Try.sizeOf65 rfl rfl rfl rfl rfl ?_; clear hC a; intro a w hF hC
    refine L.nil ⟨hC.env.defers, ?_⟩
    replace hC := hC.fr6
    replace hC := hC.fr6
    replace hC := hC.fr6
    replace hC := hC.fr6
    replace hC := hC.fr6
    replace hC := hC.fr6
    replace hC := hC.fr6
    replace hC := hC.hd (r' := blkR ab (attE.enc (outsP 0 l)[i]!.2) 65) rfl
    exact ⟨rfl, ab, hC.keep ⟨rfl, rfl, rfl, trivial⟩⟩
  · intro i x y yl S' W W1 a R hi hq hC
    replace hC : Conf 18 S' W [(5, (none, .pointer (some ⟨y, 0, none⟩))), (3, (none, .pointer (some ⟨hb, 0, none⟩))), (2, (none, .pointer (some ⟨nb, 0, none⟩)))] [blkR y (attE.enc (outsP 0 l)[i]!.2) 65, blkR ob [.pointer (some ⟨mb, 0, none⟩)] 136, blkR hb [.int .i64 (hedN l i)] 3, blkR nb [.int .i64 (i : Int)] 3, robR mb (askE c v s) 143, rdR v attE l, R] a W1 := hC
    have hil : i < (outsP 0 l).length := by simpa [outsE] using hi
    refine WI.block ?_
    refine WI.seqk fun k4 hk4 => ?_
    refine WI.reg rfl ?_
    refine L.ld hC rfl rfl rfl (fun _ => All.nil) m3 Try.isAgg3 rfl rfl rfl ?_; clear hC a; intro a hC
    refine L.pu hC rfl rfl (fun _ => All.nil) rfl rfl ?_; clear hC a; intro a hC
    replace hC := hC.fr3
    refine L.st hC rfl rfl rfl rfl Try.sizeOf3 rfl rfl rfl rfl rfl ?_; clear hC a; intro a w hF hC
    refine L.nil ⟨hC.env.defers, ?_⟩
    refine hk4 _ _ _ ?_; clear hk4; try clear k4
    refine WI.seqk fun k5 hk5 => ?_
    refine WI.reg rfl ?_
    refine L.fa hC rfl rfl rfl (fun _ => All.nil) Try.underlying65 rfl Try.sizeOf4 rfl rfl rfl ?_; clear hC a; intro a hC
    refine L.ld hC rfl rfl rfl (fun _ => All.nil) m1 Try.isAgg4 rfl rfl rfl ?_; clear hC a; intro a hC
    refine L.nil ⟨hC.env.defers, ?_⟩
    refine hk5 _ _ _ ?_; clear hk5; try clear k5
    refine WI.cond hC rfl (fun h1 => ?_) (fun h1 => ?_)
    ·
      refine WI.reg rfl ?_
      refine L.ld hC rfl rfl rfl (fun _ => All.nil) m3 Try.isAgg3 rfl rfl rfl ?_; clear hC a; intro a hC
      refine L.pu hC rfl rfl (fun _ => All.nil) rfl rfl ?_; clear hC a; intro a hC
      replace hC := hC.fr3
      refine L.st hC rfl rfl rfl rfl Try.sizeOf3 rfl rfl rfl rfl rfl ?_; clear hC a; intro a w hF hC
      refine L.nil ⟨hC.env.defers, ?_⟩
      replace hC := hC.fr1
      replace hC := hC.hd (r' := blkR nb [.int .i64 ((i + 1 : Nat) : Int)] 3) (congrArg (fun x => blkR nb [.int .i64 x] 3) (show IntKind.i64.wrap ((i : Int) + 1) = ((i + 1 : Nat) : Int) by rw [w64 (by omega)]; rfl))
      replace hC := hC.fr1
      replace hC := hC.hd (r' := blkR hb [.int .i64 (hedN l (i + 1))] 3) (congrArg (fun x => blkR hb [.int .i64 x] 3) (hed_yes hil h1 (by omega)))
      replace hC := hC.subl (.cons_cons _ (.cons_cons _ (.cons _ (.cons_cons _ (.cons_cons _ (.cons_cons _ (.cons_cons _ .slnil)))))))
      replace hC := hC.fr5
      replace hC := hC.fr5
      replace hC := hC.fr5
      replace hC := hC.fr4
      replace hC := hC.fr4
      replace hC := hC.fr5
      exact ⟨rfl, (), _, trivial, hC⟩
    ·
      refine WI.skip hC.env.defers ?_
      replace hC := hC.hd (r' := blkR nb [.int .i64 ((i + 1 : Nat) : Int)] 3) (congrArg (fun x => blkR nb [.int .i64 x] 3) (show IntKind.i64.wrap ((i : Int) + 1) = ((i + 1 : Nat) : Int) by rw [w64 (by omega)]; rfl))
      replace hC := hC.fr3
      replace hC := hC.hd (r' := blkR hb [.int .i64 (hedN l (i + 1))] 3) (congrArg (fun x => blkR hb [.int .i64 x] 3) (hed_no hil h1))
      replace hC := hC.subl (.cons_cons _ (.cons_cons _ (.cons _ (.cons_cons _ (.cons_cons _ (.cons_cons _ (.cons_cons _ .slnil)))))))
      replace hC := hC.fr5
      replace hC := hC.fr5
      replace hC := hC.fr5
      replace hC := hC.fr4
      replace hC := hC.fr4
      replace hC := hC.fr5
      exact ⟨rfl, (), _, trivial, hC⟩
  · clear hC; intro D x w hD hq hC
    replace hC : Conf 18 Nob w0 _ [blkR ob [.pointer (some ⟨mb, 0, none⟩)] 136, blkR hb [.int .i64 (hedN l (outsE l).length)] 3, blkR nb [.int .i64 ((outsE l).length : Int)] 3, robR mb (askE c v s) 143, rdR v attE l, markR D] a w := hC
    refine hk2 _ _ _ ?_; clear hk2; try clear k2
    refine WI.seqk fun k6 hk6 => ?_
    replace hC := hC.fr5
    replace hC := hC.fr5
    replace hC := hC.fr5
    replace hC := hC.fr3
    replace hC := hC.fr4
    replace hC := hC.fr5
    refine WI.drawN rfl (fun c' _ => match c' with | 0 => [blkR nb [.int .i64 ((outsE l).length : Int)] 3, blkR hb [.int .i64 (hedN l (outsE l).length)] 3, blkR ob [.pointer (some ⟨mb, 0, none⟩)] 136, robR mb (askE c v s) 143, rdR v attE l, markR D] | 1 => [blkR nb [.int .i64 ((outsE l).length : Int)] 3, blkR hb [.int .i64 (hedN l (outsE l).length)] 3, blkR ob [.pointer (some ⟨mb, 0, none⟩)] 136, robR mb (askE c v s) 143, rdR v attE l, markR D] | _ => [blkR hb [.int .i64 (hedN l (outsE l).length)] 3, blkR nb [.int .i64 ((outsE l).length : Int)] 3, blkR ob [.pointer (some ⟨mb, 0, none⟩)] 136, robR mb (askE c v s) 143, rdR v attE l, markR D]) undef hC Try.mixed rfl rfl ?_
    apply ERN.q (.det _ _) 0 rfl rfl
    · intro c' γ hle
      obtain rfl := (by omega : c' = 0)
      · intro a w hC
        refine L.ld hC rfl rfl rfl (fun _ => All.nil) m0 Try.isAgg3 rfl rfl rfl ?_; clear hC a; intro a hC
        exact L.nil ⟨⟨_, [], hC⟩, Frm.refl _ _⟩
    apply ERN.q (.det _ _) 1 rfl rfl
    · intro c' γ hle
      obtain rfl | rfl := (by omega : c' = 0 ∨ c' = 1)
      · intro a w hC
        refine L.ld hC rfl rfl rfl (fun _ => All.nil) m1 Try.isAgg3 rfl rfl rfl ?_; clear hC a; intro a hC
        exact L.nil ⟨⟨_, [], hC⟩, Frm.refl _ _⟩
      · intro a w hC
        refine L.ld hC rfl rfl rfl (fun _ => All.nil) m1 Try.isAgg3 rfl rfl rfl ?_; clear hC a; intro a hC
        exact L.nil ⟨⟨_, [], hC⟩, Frm.refl _ _⟩
    apply ERN.f false (fun h => by cases h) rfl rfl
    · intro γ a w hC
      refine L.st hC rfl rfl rfl rfl Try.sizeOf3 rfl rfl rfl rfl rfl ?_; clear hC a; intro a w hF hC
      exact L.nil ⟨γ, _, fun _ => rfl, trivial, hC, hF⟩
    apply ERN.f false (fun h => by cases h) rfl rfl
    · intro γ a w hC
      replace hC := hC.fr1
      refine L.st hC rfl rfl rfl rfl Try.sizeOf3 rfl rfl rfl rfl rfl ?_; clear hC a; intro a w hF hC
      exact L.nil ⟨γ, _, fun _ => rfl, trivial, hC, (hF.perm (List.Perm.swap ..) (List.Perm.refl _))⟩
    refine ERN.nil ?_
    intro γ w' a w hC hw
    subst hw
    refine ⟨hC.env.defers, ?_⟩
    refine hk6 _ _ _ ?_; clear hk6; try clear k6
    refine WI.ret hC.env.defers ?_
    replace hC := hC.fr5
    refine leave1' hC hD (fun w hC => ?_)
    refine retl hC rfl (.one rfl m1 Try.isAgg3 (.one rfl m0 Try.isAgg3 .nil)) rfl ?_
    refine ⟨?_, hC.frm⟩
    rw [hedN_all, outs_cnt]
  · clear hC; intro D jc z w hD hc hC
    exact z.elim

end Go.Proofs.E
