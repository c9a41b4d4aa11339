/- Packed: AlFit, AlPos, AlOf, AlRun, AlSearch -/
import Derived.Test.YtlagablcopmhkaaKRowRuns15
set_option linter.unusedVariables false
set_option linter.unusedSimpArgs false
/- nfa: make, at every node. -/
namespace Go.Proofs.Ytlagablcopmhkaa
open Go.RowKit

set_option maxRecDepth 100000 in
set_option maxHeartbeats 2000000 in
theorem make_of {bm : Nat} {sv fv : Value} {M M' : MS} {p : Pt} {k : Nat} {s : BitVec 256} {mn mx : Int} {subs : List Node} {f : FuncId} {first cap : List V} (hk : (kindsV bm)[k]? = some (.f (.func f) first cap)) (hk7 : k < 7)
    (eg : ∀ (args : Array Value) (w : World), (callFunc f args).run Try.prog w = .ok (.enter f args) w)
    (hc : AC Try.prog f (first ++ ([.a (nodeV (.mk k s mn mx subs))] ++ cap)) (mk3 bm sv fv M) fun r L' => ∃ sv' fv', r = .a p.V ∧ L' = mk3 bm sv' fv' M') :
    AC Try.prog 61 [.ptr bm 0, .a (nodeV (.mk k s mn mx subs))] (mk3 bm sv fv M) fun r L' => ∃ sv' fv', r = .a p.V ∧ L' = mk3 bm sv' fv' M' := by
  refine ac_body _ Try.func61 rfl Try.ntmps61 Try.results61 rfl ?_
  refine aw_seq (aw_region ?_)
  refine aos_cons rfl (aop_box_a rfl rfl rfl rfl ?_)
  intro b3
  refine aos_cons rfl (aop_alloc rfl rfl ?_)
  intro b4
  refine aos_nil (aw_seq ?_)
  refine aw_le (sl' := [(0, V.ptr bm 0), (3, V.ptr b3 0), (4, V.ptr b4 0)]) (.eqs rfl) ?_
  refine aw_drawH 6 [5, 6, 7, 8, 9, 10] (by kernel_rfl) (by kernel_rfl) rfl (by kernel_rfl) ?_; refine drawh_q [] rfl rfl rfl (by kernel_rfl) (aq_plain rfl (by exact qd rfl rfl ⟨rfl, rfl⟩)) ?_; refine drawh_q [5] rfl rfl rfl (by kernel_rfl) (aq_plain rfl (aop_call0 rfl rfl rfl (fun _ _ => by kernel_rfl) (kinds_a bm) (.refl _) ⟨rfl, rfl⟩)) ?_; refine drawh_q [] rfl rfl rfl (by kernel_rfl) (aq_plain rfl (by exact aop_fieldAddr rfl rfl rfl ⟨rfl, rfl⟩)) ?_; refine drawh_q [7] rfl rfl rfl (by kernel_rfl) (aq_plain rfl (by exact gl rfl rfl rfl (by repeat first | exact .z | apply At.s) (by rfl) ⟨rfl, rfl⟩)) ?_; refine drawh_q [6, 8] rfl rfl rfl (by kernel_rfl) (aq_plain rfl (aop_indexAgg rfl rfl rfl rfl k rfl hk7 hk ⟨rfl, rfl⟩)) ?_; refine drawh_q [] rfl rfl rfl (by kernel_rfl) (aq_plain rfl (by exact aop_load_all (i := 1) rfl rfl rfl rfl ⟨rfl, rfl⟩ rfl ⟨rfl, rfl⟩)) ?_; refine drawh_nil (.refl _) ?_; intro β
  refine aos_cons rfl (aop_call rfl rfl rfl eg (List.perm_append_comm (l₁ := [_, _])) hc (.refl _) ?_)
  rintro r L' ⟨sv', fv', rfl, rfl⟩
  show AOs _ _ _ _ ((_, _) :: _) (_ :: _) _
  refine aos_cons rfl (aop_store_all (i := 3) rfl rfl rfl rfl rfl rfl rfl rfl ?_)
  show AOs _ _ _ _ ((_, _) :: _) (_ :: _) _
  (repeat (first | refine aos_nil ?_ | refine aw_ret ?_))
  exact fpost (.inr rfl) (.a p.V) (.refl _ _) (res_cell (i := 3) rfl rfl rfl) (L2 := mk3 bm sv' fv' M') (.cons_cons _ (.cons_cons _ (.cons_cons _ (List.nil_sublist _)))) ⟨sv', fv', rfl, rfl⟩

theorem mem_pre : ∀ {x y : Node}, y ∈ x.subs → ∀ z ∈ pre y, z ∈ pre x
  | .mk k s mn mx l, y, hy, z, hz => by
    rw [pre]
    refine List.mem_cons_of_mem _ ?_
    have : ∀ l : List Node, y ∈ l → z ∈ preL l := by
      intro l
      induction l with
      | nil => intro h; cases h
      | cons a l ih =>
        intro h
        rw [preL]
        rcases List.mem_cons.1 h with rfl | h
        · exact List.mem_append_left _ hz
        · exact List.mem_append_right _ (ih h)
    exact this l hy
theorem allRight_sub {x y : Node} (h : allRight x = true) (hy : y ∈ x.subs) : allRight y = true := by
  rw [allRight, List.all_eq_true] at *
  exact fun z hz => h z (mem_pre hy z hz)
theorem allRight_own {x : Node} (h : allRight x = true) : rightB x = true := by
  rw [allRight, List.all_eq_true] at h
  refine h x ?_
  cases x
  rw [pre]
  exact List.mem_cons_self
theorem cnt_sub {x y : Node} (hy : y ∈ x.subs) : cnt y < cnt x := by
  obtain ⟨i, hi⟩ := List.mem_iff_getElem?.1 hy
  have := cnt_at hi
  rw [cnt_eq x]; omega
theorem boundsB_le {mn mx : Int} (h : boundsB mn mx = true) : 0 ≤ mn ∧ mn ≤ 16 ∧ -1 ≤ mx ∧ mx ≤ 16 := by
  unfold boundsB at h
  split at h
  · cases h
  · simp at h; omega

theorem make_a : ∀ (n : Nat) (x : Node), cnt x ≤ n → n ≤ 10000 → allRight x = true → MakeC x
  | 0, x, h, _, _ => by have := cnt_pos x; omega
  | n + 1, x, hc, hn, hr => by
    have ih : ∀ y ∈ x.subs, MakeC y := fun y hy => make_a n y (by have := cnt_sub hy; omega) (by omega) (allRight_sub hr hy)
    have ho := allRight_own hr
    have hlen : x.subs.length ≤ 1000000 := by have := cntL_length x.subs; rw [cnt_eq] at hc; omega
    obtain ⟨k, s, mn, mx, subs⟩ := x
    simp only [Node.subs] at ih hlen
    intro bm sv fv M hM hle
    have ho : (if (k ≠ 2 ∧ s ≠ 0) ∨ (k ≠ 5 ∧ (mn ≠ 0 ∨ mx ≠ 0)) ∨ (k < 3 ∧ 0 < subs.length) then false
      else if k = 1 then true
      else if k = 2 then !zeroB s
      else if k = 3 then decide (1 < subs.length) && !hasK 1 subs && !hasK 3 subs
      else if k = 4 then decide (1 < subs.length) && !hasK 4 subs
      else if k = 5 then decide (subs.length = 1) && boundsB mn mx && !hasK 1 subs
      else decide (k = 6) && decide (subs.length = 1)) = true := ho
    by_cases hbad : (k ≠ 2 ∧ s ≠ 0) ∨ (k ≠ 5 ∧ (mn ≠ 0 ∨ mx ≠ 0)) ∨ (k < 3 ∧ 0 < subs.length)
    · rw [if_pos hbad] at ho; cases ho
    rw [if_neg hbad] at ho
    by_cases e : k = 1
    · subst e
      rw [mkN] at hle ⊢
      exact make_of (p := ⟨0, 0, true⟩) (M' := M) rfl (by decide) (fun _ _ => by kernel_rfl) ((kinds2_a _).fr (F := mk3 bm sv fv M) (.refl _) fun r L1' h => by
        obtain ⟨rfl, rfl⟩ := h
        exact ⟨_, .refl _, sv, fv, rfl, rfl⟩)
    rw [if_neg e] at ho
    by_cases e : k = 2
    · subst e
      rw [mkN] at hle ⊢
      have hle2 : M.sets.length < 448 := by simp at hle; omega
      exact make_of rfl (by decide) (fun _ _ => by kernel_rfl) (kinds3_a hle2 hM)
    rw [if_neg e] at ho
    by_cases e : k = 3
    · subst e
      rw [mkN] at hle ⊢
      exact make_of rfl (by decide) (fun _ _ => by kernel_rfl) (kinds4_a ih hM hle hlen)
    rw [if_neg e] at ho
    by_cases e : k = 4
    · subst e
      rw [mkN] at hle ⊢
      exact make_of rfl (by decide) (fun _ _ => by kernel_rfl) (kinds5_a ih hM hle hlen)
    rw [if_neg e] at ho
    by_cases e : k = 5
    · subst e
      rw [if_pos rfl] at ho
      simp only [Bool.and_eq_true, decide_eq_true_eq] at ho
      obtain ⟨⟨h1, h2⟩, _⟩ := ho
      obtain ⟨y, rfl⟩ : ∃ y, subs = [y] := List.length_eq_one_iff.1 h1
      have hb := boundsB_le h2
      rw [mkN] at hle ⊢
      exact make_of rfl (by decide) (fun _ _ => by kernel_rfl) (repeat_a (ih y List.mem_cons_self) hM (by omega) hle)
    · rw [if_neg e] at ho
      simp only [Bool.and_eq_true, decide_eq_true_eq] at ho
      obtain ⟨h1, h2⟩ := ho
      subst h1
      obtain ⟨y, rfl⟩ : ∃ y, subs = [y] := List.length_eq_one_iff.1 h2
      rw [mkN] at hle ⊢
      exact make_of rfl (by decide) (fun _ _ => by kernel_rfl) (kinds6_a (ih y List.mem_cons_self) hM hle)
end Go.Proofs.Ytlagablcopmhkaa
/- nfa: how many positions the maker makes. -/
namespace Go.Proofs.Ytlagablcopmhkaa
open Go.RowKit

theorem boundsB_more {mn mx : Int} (h : boundsB mn mx = true) : 0 ≤ mn ∧ mn ≤ 16 ∧ (mx = -1 ∨ (1 ≤ mx ∧ mx ≤ 16 ∧ mn ≤ mx)) := by
  unfold boundsB at h
  split at h
  · cases h
  · simp at h; omega
theorem manyR_eq {mn mx : Int} (h : boundsB mn mx = true) : ((manyR mn mx : Nat) : Int) = timesN mn mx ∧ 1 ≤ timesN mn mx ∧ timesN mn mx ≤ 16 := by
  have := boundsB_more h
  unfold manyR timesN
  split <;> omega
theorem repUp_pos {g : MS → MS × Pt} {p : Nat} (hg : ∀ M, (g M).1.sets.length = M.sets.length + p) (mn mx : Int) (many : Nat) (s : MS × Pt) : ∀ k, (repUp g mn mx many k s).1.sets.length = s.1.sets.length + k * p
  | 0 => by simp [repUp]
  | k + 1 => by
    have ih := repUp_pos hg mn mx many s k
    have h : (repUp g mn mx many (k + 1) s).1.sets.length = (g (repUp g mn mx many k s).1).1.sets.length := by
      rw [repUp]
      unfold repRound MS.thenS
      simp only
      split <;> rfl
    rw [h, hg, ih, Nat.succ_mul, Nat.add_assoc]
theorem rightB_cases {k : Nat} {s : BitVec 256} {mn mx : Int} {subs : List Node} (h : rightB (.mk k s mn mx subs) = true) :
    (k = 1 ∧ subs = []) ∨ (k = 2 ∧ subs = [] ∧ s ≠ 0) ∨ k = 3 ∨ k = 4 ∨ (k = 5 ∧ (∃ y, subs = [y]) ∧ boundsB mn mx = true) ∨ (k = 6 ∧ ∃ y, subs = [y]) := by
  have ho : (if (k ≠ 2 ∧ s ≠ 0) ∨ (k ≠ 5 ∧ (mn ≠ 0 ∨ mx ≠ 0)) ∨ (k < 3 ∧ 0 < subs.length) then false
      else if k = 1 then true
      else if k = 2 then !zeroB s
      else if k = 3 then decide (1 < subs.length) && !hasK 1 subs && !hasK 3 subs
      else if k = 4 then decide (1 < subs.length) && !hasK 4 subs
      else if k = 5 then decide (subs.length = 1) && boundsB mn mx && !hasK 1 subs
      else decide (k = 6) && decide (subs.length = 1)) = true := h
  by_cases hbad : (k ≠ 2 ∧ s ≠ 0) ∨ (k ≠ 5 ∧ (mn ≠ 0 ∨ mx ≠ 0)) ∨ (k < 3 ∧ 0 < subs.length)
  · rw [if_pos hbad] at ho; cases ho
  rw [if_neg hbad] at ho
  have hnil : k < 3 → subs = [] := fun hk => List.length_eq_zero_iff.1 (by
    by_cases h0 : 0 < subs.length
    · exact absurd (.inr (.inr ⟨hk, h0⟩)) hbad
    · omega)
  by_cases e : k = 1
  · exact .inl ⟨e, hnil (by omega)⟩
  rw [if_neg e] at ho
  by_cases e : k = 2
  · rw [if_pos e] at ho
    exact .inr (.inl ⟨e, hnil (by omega), zeroB_false (by simpa using ho)⟩)
  rw [if_neg e] at ho
  by_cases e : k = 3
  · exact .inr (.inr (.inl e))
  rw [if_neg e] at ho
  by_cases e : k = 4
  · exact .inr (.inr (.inr (.inl e)))
  rw [if_neg e] at ho
  by_cases e : k = 5
  · rw [if_pos e] at ho
    simp only [Bool.and_eq_true, decide_eq_true_eq] at ho
    exact .inr (.inr (.inr (.inr (.inl ⟨e, List.length_eq_one_iff.1 ho.1.1, ho.1.2⟩))))
  · rw [if_neg e] at ho
    simp only [Bool.and_eq_true, decide_eq_true_eq] at ho
    exact .inr (.inr (.inr (.inr (.inr ⟨ho.1, List.length_eq_one_iff.1 ho.2⟩))))
theorem posN_le_posL {l : List Node} {y : Node} (h : y ∈ l) : posN y ≤ posL l := by
  induction l with
  | nil => cases h
  | cons x l ih =>
    have h1 := posN_bd x
    have h2 := posL_bd l
    rw [posL]
    rcases List.mem_cons.1 h with rfl | h
    · omega
    · have := ih h; omega

theorem mkN_pos : ∀ (n : Nat) (x : Node), cnt x ≤ n → allRight x = true → posN x ≤ 10000 → ∀ M, ((mkN x M).1.sets.length : Int) = M.sets.length + posN x
  | 0, x, h, _, _ => by have := cnt_pos x; omega
  | n + 1, x, hc, hr, hp => by
    have hP := posN_eq
    have ih : ∀ y ∈ x.subs, posN y ≤ 10000 → ∀ M, ((mkN y M).1.sets.length : Int) = M.sets.length + posN y := fun y hy => mkN_pos n y (by have := cnt_sub hy; omega) (allRight_sub hr hy)
    have ho := allRight_own hr
    obtain ⟨k, s, mn, mx, subs⟩ := x
    simp only [Node.subs] at ih
    have hpos := posN_eq k s mn mx subs
    rw [Hid] at hpos
    have hbd := posL_bd subs
    have hcat : ∀ l : List Node, (∀ y ∈ l, ∀ M, ((mkN y M).1.sets.length : Int) = M.sets.length + posN y) → ∀ st, ((mkCat l st).1.sets.length : Int) = st.1.sets.length + posL l := by
      intro l
      induction l with
      | nil => intro _ st; simp [mkCat, posL]
      | cons y l ihl =>
        intro h st
        rw [mkCat, ihl (fun z hz => h z (List.mem_cons_of_mem _ hz)), posL]
        have := h y List.mem_cons_self st.1
        show ((mkN y st.1).1.sets.length : Int) + posL l = _
        omega
    have halt : ∀ l : List Node, (∀ y ∈ l, ∀ M, ((mkN y M).1.sets.length : Int) = M.sets.length + posN y) → ∀ st, ((mkAlt l st).1.sets.length : Int) = st.1.sets.length + posL l := by
      intro l
      induction l with
      | nil => intro _ st; simp [mkAlt, posL]
      | cons y l ihl =>
        intro h st
        rw [mkAlt, ihl (fun z hz => h z (List.mem_cons_of_mem _ hz)), posL]
        have := h y List.mem_cons_self st.1
        show ((mkN y st.1).1.sets.length : Int) + posL l = _
        omega
    intro M
    rcases rightB_cases ho with ⟨rfl, rfl⟩ | ⟨rfl, rfl, _⟩ | rfl | rfl | ⟨rfl, ⟨y, rfl⟩, hb⟩ | ⟨rfl, y, rfl⟩
    · simp [posL] at hpos
      rw [mkN, hpos]; simp; omega
    · simp [posL] at hpos
      rw [mkN, hpos]; simp; omega
    · simp at hpos
      have e : posN (.mk 3 s mn mx subs) = posL subs := by omega
      have hs : ∀ y ∈ subs, ∀ M, ((mkN y M).1.sets.length : Int) = M.sets.length + posN y := fun y hy => ih y hy (by have := posN_le_posL hy; omega)
      rw [e, mkN]
      simp only [Nat.reduceEqDiff, if_false, if_true]
      exact hcat subs hs _
    · simp at hpos
      have e : posN (.mk 4 s mn mx subs) = posL subs := by omega
      have hs : ∀ y ∈ subs, ∀ M, ((mkN y M).1.sets.length : Int) = M.sets.length + posN y := fun y hy => ih y hy (by have := posN_le_posL hy; omega)
      rw [e, mkN]
      simp only [Nat.reduceEqDiff, if_false, if_true]
      exact halt subs hs _
    · obtain ⟨h1, h2, h3⟩ := manyR_eq hb
      have hy := posN_bd y
      simp only [posL, Nat.reduceEqDiff, if_false, if_true, Int.zero_add, Int.add_zero] at hpos
      rw [show min (timesN mn mx) 10001 = timesN mn mx by omega] at hpos
      have hmul := Int.mul_le_mul_of_nonneg_left h2 hy.1
      have e : posN (.mk 5 s mn mx [y]) = posN y * timesN mn mx := by omega
      obtain ⟨p, hpn⟩ := Int.eq_ofNat_of_zero_le hy.1
      have hs := ih y List.mem_cons_self (by omega)
      rw [e, mkN]
      simp only [Nat.reduceEqDiff, if_false, if_true]
      have h5 := repUp_pos (g := fun M => mkHd [y] M) (p := p) (fun M => by have := hs M; show (mkN y M).1.sets.length = _; omega) mn mx (manyR mn mx) (M, ⟨0, 0, true⟩) (manyR mn mx)
      rw [h5, ← h1, hpn]
      push_cast
      rw [Int.mul_comm]
    · simp [posL] at hpos
      have hy := posN_bd y
      have e : posN (.mk 6 s mn mx [y]) = posN y := by omega
      rw [e, mkN]
      simp only [Nat.reduceEqDiff, if_false, if_true]
      exact ih y List.mem_cons_self (by omega) M
end Go.Proofs.Ytlagablcopmhkaa
/- nfa: Of. -/
namespace Go.Proofs.Ytlagablcopmhkaa
open Go.RowKit

section
variable {P : Program} {n : Nat} {o : Oper} {sl : Sl} {L : List Ch} {K : Sl → List Ch → Prop}
/-- a call that looks at a chunk, and leaves all as it is -/
theorem aop_callL {f : FuncId} {g : Operand} {ag : Array Operand} {ts : Array TypeId} {first cap args : List V} {c : V} {ch : Ch} (i : Nat) (ho : o.op = .call { callee := .value g, args := ag, argTypes := ts }) (hd : dstOk n o.dst = true) (hg : ev sl g = .f (.func f) first cap)
    (eg : ∀ (args : Array Value) (w : World), (callFunc f args).run P w = .ok (.enter f args) w) (hi : L[i]? = some ch) (hc : AC P f args [ch] fun r L' => r = c ∧ L' = [ch]) (ha : ArgsLe (first ++ (ag.toList.map (ev sl) ++ cap)) args)
    (hK : K (put sl o.dst c) L) : AOp P n o sl L K := by
  intro w S a hs nx Q hnx
  refine aop_call (K := fun sl' L' => sl' = put sl o.dst c ∧ L' = [ch] ++ L.eraseIdx i) ho hd hg eg (perm_at hi .emp).1 hc ha (by rintro r L' ⟨rfl, rfl⟩; exact ⟨rfl, rfl⟩) w S a hs nx Q ?_
  rintro sl' L' S' a' w' ⟨rfl, rfl⟩ hs' hf hv
  have hp : ([ch] ++ L.eraseIdx i).Perm L := (perm_at hi .emp).1.symm
  exact hnx _ _ S' a' w' hK ⟨hs'.hp.perm hp, hs'.size, hs'.sl, hs'.df.move ((Fr.refl w' S' _).perm (.refl _) hp)⟩ (hf.perm (.refl _) hp) hv
end

/-- a row is a slice -/
theorem aw_rowShape {P : Program} {n : Nat} {ro : Option Nat} {sl : Sl} {L : List Ch} {Q : Exit → Sl → List Ch → Prop} {c : Code} {v : Value} {e : TypeId} {k m : Nat} {cs : List V} (j : Nat) (hj : L[j]? = some (.row v e k m cs)) (h : ∀ p q r, v = .slice p q r → AW P n ro c sl L Q) : AW P n ro c sl L Q := fun w S a B hs hb Qr hQr => by
  obtain ⟨us, hown, _⟩ := (hs.hp.mem hj).1
  rcases hown.2 with ⟨rfl, _⟩ | ⟨g, cap, cur, rfl, _⟩
  · exact h _ _ _ rfl w S a B hs hb Qr hQr
  · exact h _ _ _ rfl w S a B hs hb Qr hQr
theorem R.node {w : World} {S : Nat → Prop} {x : Node} {v : Value} (h : R w S (.a (nodeV x)) v) : ∃ sv, v = .agg (nodeC x sv) ∧ RepL w S x.subs sv := by
  cases h with
  | a us hl hr =>
    have hh : RL w S (nodeV x) us := ⟨hl, hr⟩
    obtain ⟨k, s, mn, mx, subs⟩ := x
    obtain ⟨u0, r0, rfl, h0, t0⟩ := hh.uncons
    obtain ⟨u1, r1, rfl, h1, t1⟩ := t0.uncons
    obtain ⟨u2, r2, rfl, h2, t2⟩ := t1.uncons
    obtain ⟨u3, r3, rfl, h3, t3⟩ := t2.uncons
    obtain ⟨u4, r4, rfl, h4, t4⟩ := t3.uncons
    obtain ⟨u5, r5, rfl, h5, t5⟩ := t4.uncons
    obtain ⟨u6, r6, rfl, h6, t6⟩ := t5.uncons
    obtain ⟨u7, r7, rfl, h7, t7⟩ := t6.uncons
    obtain rfl := t7.unnil
    obtain rfl := h0.unv
    obtain rfl := h1.unv
    obtain rfl := h2.unv
    obtain rfl := h3.unv
    obtain rfl := h4.unv
    obtain rfl := h5.unv
    obtain rfl := h6.unv
    exact ⟨u7, rfl, h7.und⟩
theorem clean_a (x : Node) : AC Try.prog 59 [.a (nodeV x)] [] fun r L' => r = .b (cleanB x) ∧ L' = [] :=
  ac_real fun w S vs hr => by
    obtain ⟨v, rfl, h⟩ := hr.one
    obtain ⟨sv, rfl, hn⟩ := h.node
    exact (clean_any x sv w hn).mono fun e w' ⟨h1, h2⟩ => ⟨_, h1, .v _, h2⟩
theorem size_a (x : Node) : AC Try.prog 60 [.a (nodeV x)] [] fun r L' => r = .i (sizeN x) ∧ L' = [] :=
  ac_real fun w S vs hr => by
    obtain ⟨v, rfl, h⟩ := hr.one
    obtain ⟨sv, rfl, hn⟩ := h.node
    exact (size_any x sv w hn).mono fun e w' ⟨h1, h2⟩ => ⟨_, h1, .v _, h2⟩
theorem positions_a (x : Node) : AC Try.prog 37 [.a (nodeV x)] [] fun r L' => r = .i (positionsN x) ∧ L' = [] :=
  ac_real fun w S vs hr => by
    obtain ⟨v, rfl, h⟩ := hr.one
    obtain ⟨sv, rfl, hn⟩ := h.node
    exact (positions2_any x sv w hn).mono fun e w' ⟨h1, h2⟩ => ⟨_, h1, .v _, h2⟩

/-- what Of makes of a tree -/
def ofA (x : Node) : Auto := let r := mkN x ⟨[], []⟩; ⟨r.1.sets, r.1.fol.map fun m => ints (bitsL m), ints (bitsL r.2.f), ints (bitsL r.2.l), r.2.e⟩
theorem setsV_isD (l : List (BitVec 256)) : (setsV l).all V.isD = true := by
  rw [List.all_eq_true]
  intro c hc
  obtain ⟨s, _, hs⟩ := List.mem_flatMap.1 hc
  obtain ⟨v, _, rfl⟩ := List.mem_map.1 hs
  rfl
theorem setsV_toD (l : List (BitVec 256)) : (setsV l).map V.toD = (setsU l).map .v := by
  induction l with
  | nil => rfl
  | cons s l ih =>
    rw [setsV, List.flatMap_cons, List.map_append, show (List.flatMap setV l).map V.toD = (setsU l).map .v from ih, setsU, List.map_append]
    rfl
/-- the lists behind the positions -/
def folL (l : List Nat) : List V := l.map fun m => V.d (dI (ints (bitsL m)))
theorem folL_isD (l : List Nat) : (folL l).all V.isD = true := by simp [folL, V.isD]
theorem folL_toD (l : List Nat) : (folL l).map V.toD = (l.map fun m => ints (bitsL m)).map dI := by simp [folL, V.toD]
theorem folL_succ {l : List Nat} {i m : Nat} (h : l[i]? = some m) : folL (l.take (i + 1)) = folL (l.take i) ++ [V.d (dI (ints (bitsL m)))] := by
  rw [take_succ_of h]; simp [folL]

set_option maxRecDepth 100000 in
set_option maxHeartbeats 4000000 in
theorem of_good (x : Node) (h0 : x.kind ≠ 0) (hc : cleanB x = true) (hs : sizeN x ≤ 120) (hp : positionsN x ≤ 400) :
    AC Try.prog 14 [.a (nodeV x)] [] fun r L' => r = .t [.a (cellsA (ofA x)), .i 0] ∧ L' = [] := by
  have hcnt : cnt x ≤ 10000 := by
    unfold cleanB at hc
    simp at hc
    exact lightB_true hc.1
  have har : allRight x = true := by
    unfold cleanB at hc
    simp at hc
    exact hc.2
  have hpn : posN x ≤ 400 := by rw [positionsN, if_pos hcnt] at hp; exact hp
  have hlen := mkN_pos 10000 x hcnt har (by omega) ⟨[], []⟩
  have hle : (mkN x ⟨[], []⟩).1.sets.length ≤ 400 := by simp at hlen; omega
  obtain ⟨_, hok⟩ := mkN_ok x ⟨[], []⟩ rfl
  have hfl : (mkN x ⟨[], []⟩).1.fol.length ≤ 400 := by rw [hok.len]; exact hle
  have hmk := fun bm => make_a 10000 x hcnt (Nat.le_refl _) har bm (.slice none 0 0) (.slice none 0 0) ⟨[], []⟩ rfl (by omega)
  have ho : ofA x = ⟨(mkN x ⟨[], []⟩).1.sets, (mkN x ⟨[], []⟩).1.fol.map fun m => ints (bitsL m), ints (bitsL (mkN x ⟨[], []⟩).2.f), ints (bitsL (mkN x ⟨[], []⟩).2.l), (mkN x ⟨[], []⟩).2.e⟩ := rfl
  clear hlen hpn har hcnt hok hle
  generalize mkN x ⟨[], []⟩ = r at *
  obtain ⟨M, ⟨pf, pl, pe⟩⟩ := r
  have hk0 : decide ((x.kind : Int) = 0) = false := by simpa using h0
  have hs1 : decide ((120 : Int) < (sizeN x : Int)) = false := by simp; omega
  have hp1 : decide ((400 : Int) < positionsN x) = false := by simp; omega
  have hcl := clean_a x
  rw [hc] at hcl
  have hsz := size_a x
  have hps := positions_a x
  obtain ⟨k, s, mn, mx, subs⟩ := x
  simp only [Node.kind] at hk0
  refine ac_body _ Try.func14 rfl Try.ntmps14 Try.results14 rfl ?_
  refine aw_seq (aw_region ?_)
  refine aos_cons rfl (aop_box_a rfl rfl rfl rfl ?_)
  intro b1
  refine aos_cons rfl (aop_alloc rfl rfl ?_)
  intro b2
  show AOs _ _ _ _ ((_, _) :: _) (_ :: _) _
  (repeat (first | ((first | refine aos_cons rfl ?_ | refine aos_yes rfl rfl rfl ?_); refine aop_call0 rfl rfl rfl (fun _ _ => by kernel_rfl) (hcl) (.refl _) ?_; show AOs _ _ _ _ ((_, _) :: _) _ _) | ((first | refine aos_cons rfl ?_ | refine aos_yes rfl rfl rfl ?_); refine aop_call0 rfl rfl rfl (fun _ _ => by kernel_rfl) (hsz) (.refl _) ?_; show AOs _ _ _ _ ((_, _) :: _) _ _) | ((first | refine aos_cons rfl ?_ | refine aos_yes rfl rfl rfl ?_); refine aop_call0 rfl rfl rfl (fun _ _ => by kernel_rfl) (hps) (.refl _) ?_; show AOs _ _ _ _ ((_, _) :: _) _ _) | refine aos_nil ?_ | refine aos_no rfl rfl rfl rfl rfl ?_ | ((first | refine aos_cons rfl ?_ | refine aos_yes rfl rfl rfl ?_); (first | refine qd rfl rfl ?_ | refine gl rfl rfl rfl (by repeat first | exact .z | apply At.s) (by rfl) ?_ | refine gla rfl rfl rfl (by repeat first | exact .z | apply At.s) (by rfl) ?_ | refine aop_fieldAddr rfl rfl rfl ?_ | refine gc rfl rfl rfl rfl rfl _ (by assumption) ?_ | refine aop_build rfl rfl _ rfl ?_); show AOs _ _ _ _ ((_, _) :: _) _ _) | refine aw_seq ?_ | refine aw_region ?_ | refine aw_skip ?_ | refine aw_cond false rfl ?_))
  refine aos_cons rfl (aop_box_a rfl rfl rfl rfl ?_)
  intro bm
  show AOs _ _ _ _ ((_, _) :: _) (_ :: _) _
  (repeat (first | refine aos_nil ?_ | ((refine aos_cons rfl ?_); (first | refine qd rfl rfl ?_ | refine gla rfl rfl rfl (by repeat first | exact .z | apply At.s) (by rfl) ?_); show AOs _ _ _ _ ((_, _) :: _) _ _) | refine aw_seq ?_ | refine aw_region ?_))
  refine aos_le (.trans (.addNil 38 4) (.addNil 100 7)) ?_ rfl
  (repeat (first | fail))
  refine aos_cons rfl (aop_call rfl rfl rfl (fun _ _ => by kernel_rfl) (L1 := mk3 bm (.slice none 0 0) (.slice none 0 0) ⟨[], []⟩) (F := [.box b2 26 [V.nil, V.nil, V.nil, V.nil, V.b false], .box b1 41 (nodeV (.mk k s mn mx subs))]) (.refl _) (hmk bm) (.refl _) ?_)
  rintro r L' ⟨sv, fv, rfl, rfl⟩
  show AOs _ _ _ _ ((_, _) :: _) (_ :: _) _
  refine aos_cons rfl (aop_alloc rfl rfl ?_)
  intro b5
  show AOs _ _ _ _ ((_, _) :: _) (_ :: _) _
  refine aos_cons rfl (aop_store_all (i := 0) rfl rfl rfl rfl rfl rfl rfl rfl ?_)
  show AOs _ _ _ _ ((_, _) :: _) (_ :: _) _
  refine aos_nil (aw_seq ?_)
  refine aw_le (sl' := [(4, V.ptr bm 0), (5, V.ptr b5 0), (2, V.ptr b2 0)]) (.eqs rfl) ?_
  refine aw_rowShape 2 rfl fun s1 s2 s3 hsv => ?_
  refine aw_rowShape 1 rfl fun f1 f2 f3 hfv => ?_
  subst hsv hfv
  refine aw_drawH 12 [37, 38, 39, 40, 41, 42, 43, 44, 45, 46, 47, 6] (by kernel_rfl) (by kernel_rfl) rfl (by kernel_rfl) ?_; refine drawh_q [] rfl rfl rfl (by kernel_rfl) (aq_plain rfl (by exact qd rfl rfl ⟨rfl, rfl⟩)) ?_; refine drawh_q [37] rfl rfl rfl (by kernel_rfl) (aq_plain rfl (by exact qd rfl rfl ⟨rfl, rfl⟩)) ?_; refine drawh_q [38] rfl rfl rfl (by kernel_rfl) (aq_plain rfl (by exact aop_fieldAddr rfl rfl rfl ⟨rfl, rfl⟩)) ?_; refine drawh_q [39] rfl rfl rfl (by kernel_rfl) (aq_plain rfl (by exact gl rfl rfl rfl (by repeat first | exact .z | apply At.s) (by rfl) ⟨rfl, rfl⟩)) ?_; refine drawh_q [] rfl rfl rfl (by kernel_rfl) (aq_plain rfl (by exact aop_fieldAddr rfl rfl rfl ⟨rfl, rfl⟩)) ?_; refine drawh_q [41] rfl rfl rfl (by kernel_rfl) (aq_plain rfl (by exact aop_callL 0 rfl rfl rfl (fun _ _ => by kernel_rfl) rfl (list_a (b := b5) (m := pf) (ch := .box b5 102 (partV pf pl pe)) ⟨[], bitsV pl ++ [V.b pe], rfl, rfl, rfl⟩) (.refl _) ⟨rfl, rfl⟩)) ?_; refine drawh_q [] rfl rfl rfl (by kernel_rfl) (aq_plain rfl (by exact aop_fieldAddr rfl rfl rfl ⟨rfl, rfl⟩)) ?_; refine drawh_q [42, 43] rfl rfl rfl (by kernel_rfl) (aq_plain rfl (by exact aop_callL 0 rfl rfl rfl (fun _ _ => by kernel_rfl) rfl (list_a (b := b5) (m := pl) (ch := .box b5 102 (partV pf pl pe)) ⟨bitsV pf, [V.b pe], rfl, rfl, rfl⟩) (.refl _) ⟨rfl, rfl⟩)) ?_; refine drawh_q [] rfl rfl rfl (by kernel_rfl) (aq_plain rfl (by exact aop_fieldAddr rfl rfl rfl ⟨rfl, rfl⟩)) ?_; refine drawh_q [45] rfl rfl rfl (by kernel_rfl) (aq_plain rfl (by exact gl rfl rfl rfl (by repeat first | exact .z | apply At.s) (by rfl) ⟨rfl, rfl⟩)) ?_; refine drawh_q [40, 42, 44, 46] rfl rfl rfl (by kernel_rfl) (aq_plain rfl (by exact aop_build rfl rfl [V.v (.slice s1 s2 s3), V.nil, V.d (dI (ints (bitsL pf))), V.d (dI (ints (bitsL pl))), V.b pe] rfl ⟨rfl, rfl⟩)) ?_; refine drawh_al rfl rfl rfl rfl ?_; refine drawh_nil (.refl _) ?_; intro β
  refine aos_cons rfl (aop_store_all (i := 0) rfl rfl rfl rfl rfl rfl rfl rfl ?_)
  show AOs _ _ _ _ ((_, _) :: _) (_ :: _) _
  (repeat (first | refine aos_nil ?_ | ((refine aos_cons rfl ?_); (first | refine qd rfl rfl ?_ | refine gl rfl rfl rfl (by repeat first | exact .z | apply At.s) (by rfl) ?_ | refine aop_fieldAddr rfl rfl rfl ?_ | refine gn rfl rfl rfl (by repeat first | exact .z | apply At.s) ?_); show AOs _ _ _ _ ((_, _) :: _) _ _) | refine aw_seq ?_ | refine aw_region ?_ | refine aw_block ?_))
  obtain ⟨b6, hb6⟩ : ∃ b6, b6 = (β 11).1 := ⟨_, rfl⟩
  refine aw_le (.addNil 24 1) ?_
  refine aw_for (ι := Nat × Value) (fun i => [(2, V.ptr b2 0), (6, V.ptr b6 0), (51, V.v (.slice f1 f2 f3)), (52, V.i M.fol.length), (53, V.i i.1)])
    (fun i => [.row i.2 24 1 i.1 (folL (M.fol.take i.1)), .box b6 26 [V.v (.slice s1 s2 s3), V.v i.2, V.d (dI (ints (bitsL pf))), V.d (dI (ints (bitsL pl))), V.b pe], .row (.slice f1 f2 f3) 100 7 M.fol.length (folV M.fol), .row (.slice s1 s2 s3) 38 4 M.sets.length (setsV M.sets), .box b2 26 [V.nil, V.nil, V.nil, V.nil, V.b false]])
    (fun i => i.1 ≤ M.fol.length) (fun i => M.fol.length - i.1) (0, .slice none 0 0) (Nat.zero_le _) ?_ ?_
  · subst hb6
    exact .trans (.sub (.cons_cons _ (.cons_cons _ (.cons _ (.cons_cons _ (.cons_cons _ (.cons _ (.cons_cons _ (.cons _ (.refl _)))))))))) (.eqs' rfl rfl)
  clear hb6
  rintro ⟨i, vo⟩ hi
  have hfl2 : M.fol.length ≤ 400 := hfl
  have hi : i ≤ M.fol.length := hi
  show AW _ _ _ _ [(2, V.ptr b2 0), (6, V.ptr b6 0), (51, V.v (.slice f1 f2 f3)), (52, V.i M.fol.length), (53, V.i i)] [.row vo 24 1 i (folL (M.fol.take i)), .box b6 26 [V.v (.slice s1 s2 s3), V.v vo, V.d (dI (ints (bitsL pf))), V.d (dI (ints (bitsL pl))), V.b pe], .row (.slice f1 f2 f3) 100 7 M.fol.length (folV M.fol), .row (.slice s1 s2 s3) 38 4 M.sets.length (setsV M.sets), .box b2 26 [V.nil, V.nil, V.nil, V.nil, V.b false]] _
  by_cases hlt : i < M.fol.length
  · have hd : decide ((i : Int) < (M.fol.length : Int)) = true := by simp; omega
    obtain ⟨m, hm⟩ := some_at hlt
    (repeat (first | refine aos_nil ?_ | ((refine aos_cons rfl ?_); (refine gc rfl rfl rfl rfl rfl _ (by assumption) ?_); show AOs _ _ _ _ ((_, _) :: _) _ _) | refine aw_seq ?_ | refine aw_region ?_ | refine aw_block ?_ | refine aw_skip ?_ | refine aw_cond true rfl ?_))
    refine aos_cons rfl (aop_index_row (j := 2) rfl rfl rfl rfl rfl i rfl hlt fun g hg => ?_)
    show AOs _ _ _ _ ((_, _) :: _) (_ :: _) _
    (refine aos_cons rfl ?_); refine aop_load_bits (i := 2) (m := m) (folV (M.fol.take i)) (folV (M.fol.drop (i + 1))) rfl rfl rfl rfl ⟨hg, (folV_at hm).symm⟩ (by rw [folV_length, List.length_take]; omega) ?_; show AOs _ _ _ _ ((_, _) :: _) _ _
    refine aos_cons rfl (aop_alloc rfl rfl ?_)
    intro b8
    show AOs _ _ _ _ ((_, _) :: _) (_ :: _) _
    refine aos_cons rfl (aop_store_all (i := 0) rfl rfl rfl rfl rfl rfl rfl rfl ?_)
    show AOs _ _ _ _ ((_, _) :: _) (_ :: _) _
    refine aos_nil ?_
    refine aw_rowShape 1 rfl fun o1 o2 o3 hvo => ?_
    subst hvo
    refine aw_le (sl' := [(2, V.ptr b2 0), (6, V.ptr b6 0), (8, V.ptr b8 0), (51, V.v (.slice f1 f2 f3)), (52, V.i M.fol.length), (53, V.i i)]) (.eqs rfl) ?_
    refine aw_drawH 4 [57, 58, 59, 60] (by kernel_rfl) (by kernel_rfl) rfl (by kernel_rfl) ?_; refine drawh_q [] rfl rfl rfl (by kernel_rfl) (aq_plain rfl (aop_fieldAddr rfl rfl rfl ⟨rfl, rfl⟩)) ?_; refine drawh_q [57] rfl rfl rfl (by kernel_rfl) (aq_plain rfl (by exact gl rfl rfl rfl (by repeat first | exact .z | apply At.s) (by rfl) ⟨rfl, rfl⟩)) ?_; refine drawh_q [] rfl rfl rfl (by kernel_rfl) (aq_plain rfl (aop_callL 0 rfl rfl rfl (fun _ _ => by kernel_rfl) rfl (list_a (b := b8) (m := m) (ch := .box b8 100 (bitsV m)) ⟨[], [], rfl, rfl, by simp⟩) (.refl _) ⟨rfl, rfl⟩)) ?_; refine drawh_q [59] rfl rfl rfl (by kernel_rfl) (aq_plain rfl (aop_buildSlice rfl rfl _ rfl rfl (by decide) (by decide) ⟨rfl, rfl⟩)) ?_; refine drawh_nil (.refl _) ?_; intro β
    refine aos_cons rfl (aop_append (j := 1) (m := i) (q := 1) (k := 1) (bytes := 24) rfl rfl rfl rfl rfl rfl (by omega) (by omega) fun v' => ?_)
    refine aos_cons rfl (aop_rowOne 1 rfl fun hone => aop_fieldAddr rfl rfl rfl ?_)
    refine aos_cons rfl (aop_store1 (i := 2) rfl rfl rfl rfl rfl rfl hone ?_)
    show AOs _ _ _ _ ((_, _) :: _) (_ :: _) _
    (repeat (first | refine aos_nil ?_ | ((refine aos_cons rfl ?_); (first | refine qd rfl rfl ?_ | refine ga rfl rfl rfl rfl rfl (by omega) (by omega) ?_); show AOs _ _ _ _ ((_, _) :: _) _ _) | refine aw_region ?_))
    refine ⟨(i + 1, v'), by show i + 1 ≤ _; omega, by show M.fol.length - (i + 1) < M.fol.length - i; omega, .trans (.sub (.cons _ (.refl _))) (.eqs' rfl ?_)⟩
    show _ = [Ch.row v' 24 1 (i + 1) (folL (M.fol.take (i + 1))), _, _, _, _]
    rw [folL_succ hm]
    rfl
  · have hd : decide ((i : Int) < (M.fol.length : Int)) = false := by simp; omega
    obtain rfl : i = M.fol.length := by omega
    refine aw_rowShape 0 rfl fun o1 o2 o3 hvo => ?_
    subst hvo
    (repeat (first | refine aos_nil ?_ | ((refine aos_cons rfl ?_); (first | refine qd rfl rfl ?_ | refine gla rfl rfl rfl (by repeat first | exact .z | apply At.s) (by rfl) ?_ | refine gc rfl rfl rfl rfl rfl _ (by assumption) ?_ | refine gsa rfl rfl rfl rfl (by repeat first | exact .z | apply At.s) rfl (by rfl) rfl ?_); show AOs _ _ _ _ ((_, _) :: _) _ _) | refine aw_seq ?_ | refine aw_region ?_ | refine aw_exit ?_ | refine aw_ret ?_ | refine aw_cond false rfl ?_))
    rw [List.take_length]
    have hfr : cellsA (ofA (.mk k s mn mx subs)) = [.d (.s M.sets.length 4 ((setsV M.sets).map V.toD)), .d (.s M.fol.length 1 ((folL M.fol).map V.toD)), .d (dI (ints (bitsL pf))), .d (dI (ints (bitsL pl))), .b pe] := by
      rw [ho, cellsA, setsV_toD, folL_toD, dSets, dLists, List.length_map]
    refine fpost (.inr rfl) _ (.trans (.freezeIn (j := 3) (i := 4) (o := 0) rfl rfl rfl (setsV_isD _)) (.freezeIn (j := 0) (i := 4) (o := 1) rfl rfl rfl (folL_isD _))) (res_cell_tmp (i := 4) rfl rfl rfl) (List.nil_sublist _) ⟨?_, rfl⟩
    rw [hfr]
    rfl
end Go.Proofs.Ytlagablcopmhkaa
/- nfa: run, and what stands on it. -/
namespace Go.Proofs.Ytlagablcopmhkaa
open Go.RowKit

/-- bytes -/
def dB (l : List Nat) : D := .s l.length 1 (l.map fun (x : Nat) => D.v (.int .u8 (x : Int)))

theorem runIn_bits {a : Auto} {c n : Nat} : ∀ (l : List Int) (m : Nat), (∀ q ∈ l, 0 ≤ q ∧ q < (n : Int)) → ∀ t, (stepIn a c l m).testBit t = true → m.testBit t = true ∨ t < n
  | [], m, _, t, h => .inl h
  | q :: l, m, hl, t, h => by
    rw [stepIn] at h
    rcases runIn_bits l _ (fun q hq => hl q (List.mem_cons_of_mem _ hq)) t h with h | h
    · split at h
      · rw [Nat.testBit_or, Bool.or_eq_true] at h
        rcases h with h | h
        · exact .inl h
        · rw [Nat.testBit_two_pow] at h
          have := hl q List.mem_cons_self
          simp at h
          exact .inr (by omega)
      · exact .inl h
    · exact .inr h
theorem runFrom_bd {a : Auto} (hP : RightP a) {p : Int} : ∀ q ∈ fromA a p, 0 ≤ q ∧ q < (a.sets.length : Int) := by
  intro q hq
  unfold fromA at hq
  split at hq
  · exact hP.first q hq
  · rw [List.getD_eq_getElem?_getD] at hq
    cases hf : a.follow[p.toNat]? with
    | none => rw [hf] at hq; cases hq
    | some f => rw [hf] at hq; exact hP.each f (List.mem_of_getElem? hf) q hq
theorem runOut_bits {a : Auto} (hP : RightP a) {c : Nat} : ∀ (l : List Int) (m : Nat) (t : Nat), (stepOut a c l m).testBit t = true → m.testBit t = true ∨ t < a.sets.length
  | [], m, t, h => .inl h
  | p :: l, m, t, h => by
    rw [stepOut] at h
    rcases runOut_bits hP l _ t h with h | h
    · exact runIn_bits _ m (runFrom_bd hP) t h
    · exact .inr h
theorem runMem_bitsL {m t : Nat} (h : t ∈ bitsL m) : m.testBit t = true := by
  have := (List.mem_filter.1 (show t ∈ (List.range 448).filter (fun k => m.testBit k) from h)).2
  exact this
theorem runStep_bd {a : Auto} (hP : RightP a) {l : List Int} {c : Nat} : ∀ q ∈ stepA a l c, 0 ≤ q ∧ q < (a.sets.length : Int) := by
  intro q hq
  obtain ⟨t, ht, rfl⟩ := List.mem_map.1 (show q ∈ (bitsL (stepOut a c l 0)).map Int.ofNat from hq)
  rcases runOut_bits hP l 0 t (runMem_bitsL ht) with h | h
  · simp at h
  · exact ⟨Int.natCast_nonneg t, Int.ofNat_lt.2 h⟩

/-- the states behind the first n bytes -/
def runS (a : Auto) (again : Bool) (bs : List Nat) (n : Nat) : List Int := (bs.take n).foldl (fun l c => bif again then -1 :: stepA a l c else stepA a l c) [-1]
theorem runS_succ {a : Auto} {again : Bool} {bs : List Nat} {n c : Nat} (h : bs[n]? = some c) : runS a again bs (n + 1) = bif again then -1 :: stepA a (runS a again bs n) c else stepA a (runS a again bs n) c := by
  unfold runS; rw [take_succ_of h, List.foldl_append]; rfl
theorem runS_bd {a : Auto} (hP : RightP a) {again : Bool} {bs : List Nat} : ∀ n, n ≤ bs.length → ∀ p ∈ runS a again bs n, -1 ≤ p ∧ p < (a.sets.length : Int)
  | 0, _, p, hp => by
    obtain rfl := List.mem_singleton.1 (show p ∈ [-1] from hp)
    omega
  | n + 1, hn, p, hp => by
    obtain ⟨c, hc⟩ := some_at (show n < bs.length by omega)
    rw [runS_succ hc] at hp
    have hs : ∀ p ∈ stepA a (runS a again bs n) c, -1 ≤ p ∧ p < (a.sets.length : Int) := fun p hp => by have := runStep_bd hP p hp; omega
    cases again
    · exact hs p hp
    · rcases List.mem_cons.1 hp with rfl | hp
      · omega
      · exact hs p hp
theorem runStep_len (a : Auto) (l : List Int) (c : Nat) : (stepA a l c).length ≤ 448 := by
  unfold stepA ints
  rw [List.length_map]
  have := List.length_filter_le (fun k => (stepOut a c l 0).testBit k) (List.range 448)
  rw [List.length_range] at this
  exact this

theorem step0_a {a : Auto} {l : List Int} {c : Nat} (hP : RightP a) (hl : ∀ p ∈ l, -1 ≤ p ∧ p < (a.sets.length : Int)) (hc : c < 256) : AC Try.prog 79 [.a (cellsA a), .d (dI l), .v (.int .u8 c)] [] fun r L' => r = .d (dI (stepA a l c)) ∧ L' = [] :=
  ac_real fun w S vs hr => by
    obtain ⟨v, v', v2, rfl, h, h', h2⟩ := hr.three
    obtain ⟨v0, v1, v2, v3, rfl, hA⟩ := h.auto
    obtain rfl := h2.unv
    exact (stepA_any a _ _ _ _ l _ c w hA h'.und hP hl hc).mono fun e w' ⟨v, h1, h3, h4⟩ => ⟨_, h1, h3.toR, h4⟩
theorem accepts0_a {a : Auto} {l : List Int} (hP : RightP a) (hl : ∀ p ∈ l, -1 ≤ p ∧ p < 448) : AC Try.prog 68 [.a (cellsA a), .d (dI l)] [] fun r L' => r = .b (accA a l) ∧ L' = [] :=
  ac_real fun w S vs hr => by
    obtain ⟨v, v', rfl, h, h'⟩ := hr.two
    obtain ⟨v0, v1, v2, v3, rfl, hA⟩ := h.auto
    exact (acceptsA_any a _ _ _ _ l _ w hA h'.und hP hl).mono fun e w' ⟨h1, h2⟩ => ⟨_, h1, .v _, h2⟩

theorem dI_one (l : List Int) : (l.map fun x => D.v (.int .i64 x)).all D.one = true := by
  rw [List.all_eq_true]
  intro x hx
  obtain ⟨y, _, rfl⟩ := List.mem_map.1 hx
  rfl
theorem dI_cons (x : Int) (l : List Int) : D.s (1 + l.length) 1 (([V.i x] ++ (l.map fun x => D.v (.int .i64 x)).map V.d).map V.toD) = dI (x :: l) := by
  unfold dI
  rw [List.length_cons, Nat.add_comm 1, List.map_append, List.map_map]
  simp [V.toD]
theorem Le.freezeAs {n : Nat} {sl : Sl} {L : List Ch} (s : Nat) {j m k : Nat} {v : Value} {e : TypeId} {cs : List V} (d : D) (hj : L[j]? = some (.row v e k m cs)) (hs : look sl s = .v v) (hD : cs.all V.isD = true) (he : D.s m k (cs.map V.toD) = d) : Le n sl L ((s, .d d) :: sl) (L.set j .emp) := he ▸ .freeze s hj hs hD

set_option maxRecDepth 100000 in
set_option maxHeartbeats 2000000 in
theorem run_a {a : Auto} {bs : List Nat} {again : Bool} {f : FuncId} {first cap : List V} (I : Nat → List Ch → Prop) (hr : rightA a = true) (hbs : ∀ c ∈ bs, c < 256) (hlen : bs.length ≤ 4096)
    (eg : ∀ (args : Array Value) (w : World), (callFunc f args).run Try.prog w = .ok (.enter f args) w)
    (hI : ∀ n L, n ≤ bs.length → I n L → AC Try.prog f (first ++ ([.i n, .d (dI (runS a again bs n))] ++ cap)) L fun r L' => r = .t [] ∧ I (n + 1) L') {L0 : List Ch} (h0 : I 0 L0) :
    AC Try.prog 80 [.a (cellsA a), .d (dB bs), .b again, .f (.func f) first cap] L0 fun r L' => r = .i 0 ∧ I (bs.length + 1) L' := by
  have hP := rightP hr
  have hrt := right_a a
  rw [hr] at hrt
  have hl1 : decide ((4096 : Int) < (bs.length : Int)) = false := by simp; omega
  have hc0 := hI 0 L0 (Nat.zero_le _) h0
  refine ac_body _ Try.func80 rfl Try.ntmps80 Try.results80 rfl ?_
  refine aw_seq (aw_region ?_)
  refine aos_cons rfl (aop_box_a rfl rfl rfl rfl ?_)
  intro b4
  show AOs _ _ _ _ ((_, _) :: _) (_ :: _) _
  (repeat (first | ((refine aos_cons rfl ?_); refine aop_call0 rfl rfl rfl (fun _ _ => by kernel_rfl) (hrt) (.refl _) ?_; show AOs _ _ _ _ ((_, _) :: _) _ _) | ((refine aos_cons rfl ?_); refine aop_buildSlice (len := 1) (k := 1) rfl rfl [V.i (-1)] rfl rfl (by decide) (by decide) ?_; show AOs _ _ _ _ ((_, _) :: _) _ _) | refine aos_nil ?_ | ((refine aos_cons rfl ?_); (first | refine qd rfl rfl ?_ | refine qf rfl rfl ?_ | refine gla rfl rfl rfl (by repeat first | exact .z | apply At.s) (by rfl) ?_ | refine gc rfl rfl rfl rfl rfl _ (by assumption) ?_ | refine gn0 rfl rfl rfl ?_); show AOs _ _ _ _ ((_, _) :: _) _ _) | refine aw_seq ?_ | refine aw_region ?_ | refine aw_block ?_ | refine aw_skip ?_ | refine aw_cond false rfl ?_))
  refine aos_cons rfl (aop_call rfl rfl rfl eg (List.perm_append_comm (l₁ := [_])) hc0 (.refl _) ?_)
  rintro r L' ⟨rfl, h1⟩
  show AOs _ _ _ _ ((_, _) :: _) _ _
  (repeat (first | refine aos_nil ?_ | ((refine aos_cons rfl ?_); (first | refine qd rfl rfl ?_ | refine gn0 rfl rfl rfl ?_); show AOs _ _ _ _ ((_, _) :: _) _ _) | refine aw_seq ?_ | refine aw_region ?_ | refine aw_block ?_))
  refine aw_for (ι := Nat × List Ch) (fun i => [(1, V.d (dB bs)), (2, V.b again), (3, V.f (.func f) first cap), (4, V.ptr b4 0), (9, V.d (dI (runS a again bs i.1))), (24, V.d (dB bs)), (25, V.i bs.length), (26, V.i i.1)]) (fun i => i.2 ++ [.box b4 26 (cellsA a)])
    (fun i => i.1 ≤ bs.length ∧ I (i.1 + 1) i.2) (fun i => bs.length - i.1) (0, L') ⟨Nat.zero_le _, h1⟩ (.eqs' rfl rfl) ?_
  rintro ⟨i, L⟩ ⟨hi, hIL⟩
  have hi : i ≤ bs.length := hi
  have hIL : I (i + 1) L := hIL
  by_cases hlt : i < bs.length
  · have hd : decide ((i : Int) < (bs.length : Int)) = true := by simp; omega
    obtain ⟨c, hc⟩ := some_at hlt
    have hc256 := hbs c (List.mem_of_getElem? hc)
    have hst := step0_a hP (runS_bd (again := again) hP i hi) hc256
    have hld : (bs.map fun (x : Nat) => D.v (.int .u8 (x : Int)))[i * 1]? = some (.v (.int .u8 c)) := by simp [hc]
    have hcall := hI (i + 1) L hlt hIL
    have hnx := runS_succ (a := a) (again := again) hc
    have hsl := runStep_len a (runS a again bs i) c
    show AW _ _ _ _ [(1, V.d (dB bs)), (2, V.b again), (3, V.f (.func f) first cap), (4, V.ptr b4 0), (9, V.d (dI (runS a again bs i))), (24, V.d (dB bs)), (25, V.i bs.length), (26, V.i i)] (L ++ [.box b4 26 (cellsA a)]) _
    refine aw_le (.perm List.perm_append_comm) ?_
    show AW _ _ _ _ ((_, _) :: _) (_ :: L) _
    (repeat (first | ((refine aos_cons rfl ?_); refine aop_load_e rfl rfl rfl hld ?_; show AOs _ _ _ _ ((_, _) :: _) _ _) | ((refine aos_cons rfl ?_); refine aop_call0 rfl rfl rfl (fun _ _ => by kernel_rfl) (hst) (.refl _) ?_; show AOs _ _ _ _ ((_, _) :: _) _ _) | refine aos_nil ?_ | ((refine aos_cons rfl ?_); (first | refine qd rfl rfl ?_ | refine gla rfl rfl rfl (by repeat first | exact .z | apply At.s) (by rfl) ?_ | refine gc rfl rfl rfl rfl rfl _ (by assumption) ?_ | refine aop_index rfl rfl rfl rfl _ rfl (by omega) ?_); show AOs _ _ _ _ ((_, _) :: _) _ _) | refine aw_seq ?_ | refine aw_region ?_ | refine aw_block ?_ | refine aw_skip ?_ | refine aw_cond true rfl ?_))
    rw [hnx] at hcall
    rw [show ((i + 1 : Nat) : Int) = (i : Int) + 1 from rfl] at hcall
    cases again
    · (repeat (first | ((refine aos_cons rfl ?_); (first | refine qd rfl rfl ?_ | refine qf rfl rfl ?_ | refine ga rfl rfl rfl rfl rfl (by omega) (by omega) ?_); show AOs _ _ _ _ ((_, _) :: _) _ _) | refine aw_region ?_ | refine aw_skip ?_ | refine aw_cond false rfl ?_))
      refine aos_cons rfl (aop_call rfl rfl rfl eg (List.perm_append_comm (l₁ := [_])) hcall (.refl _) ?_)
      rintro r L' ⟨rfl, h1⟩
      show AOs _ _ _ _ ((_, _) :: _) _ _
      (repeat (first | refine aos_nil ?_ | ((refine aos_cons rfl ?_); (first | refine qd rfl rfl ?_ | refine ga rfl rfl rfl rfl rfl (by omega) (by omega) ?_); show AOs _ _ _ _ ((_, _) :: _) _ _) | refine aw_region ?_))
      exact ⟨(i + 1, L'), ⟨hlt, h1⟩, by show bs.length - (i + 1) < bs.length - i; omega, .eqs' (by dsimp only [List.map]; rw [hnx]; rfl) rfl⟩
    · (repeat (first | refine aw_region ?_ | refine aw_cond true rfl ?_))
      refine aos_cons rfl (aop_buildRow (len := 1) (k := 1) rfl rfl [V.i (-1)] rfl (by decide) (by decide) fun v => ?_)
      show AOs _ _ _ _ ((_, _) :: _) (_ :: _) _
      (repeat (((refine aos_cons rfl ?_); (refine qd rfl rfl ?_); show AOs _ _ _ _ ((_, _) :: _) _ _)))
      refine aos_cons rfl (aop_append (j := 0) (m := 1) (q := (stepA a (runS a true bs i) c).length) (k := 1) (bytes := 8) rfl rfl rfl rfl rfl (dI_one _) (by omega) (by omega) fun v' => ?_)
      show AOs _ _ _ _ ((_, _) :: _) (_ :: _) _
      refine aos_le (.freezeAs 38 (j := 0) (dI (-1 :: stepA a (runS a true bs i) c)) rfl rfl (by simp [V.isD]) (dI_cons _ _)) ?_ rfl
      show AOs _ _ _ _ ((_, _) :: _) (_ :: _) _
      (repeat (first | refine aos_nil ?_ | ((refine aos_cons rfl ?_); (first | refine qd rfl rfl ?_ | refine qf rfl rfl ?_ | refine ga rfl rfl rfl rfl rfl (by omega) (by omega) ?_); show AOs _ _ _ _ ((_, _) :: _) _ _) | refine aw_region ?_))
      refine aos_cons rfl (aop_call rfl rfl rfl eg (F := [.emp, .box b4 26 (cellsA a)]) (List.perm_append_comm (l₁ := [_, _])) hcall (.refl _) ?_)
      rintro r L' ⟨rfl, h1⟩
      show AOs _ _ _ _ ((_, _) :: _) _ _
      (repeat (first | refine aos_nil ?_ | ((refine aos_cons rfl ?_); (first | refine qd rfl rfl ?_ | refine ga rfl rfl rfl rfl rfl (by omega) (by omega) ?_); show AOs _ _ _ _ ((_, _) :: _) _ _) | refine aw_region ?_))
      exact ⟨(i + 1, L'), ⟨hlt, h1⟩, by show bs.length - (i + 1) < bs.length - i; omega, .trans (.sub (.append (.refl _) (.cons _ (.refl _)))) (.eqs' (by dsimp only [List.map]; rw [hnx]; rfl) rfl)⟩
  · have hd : decide ((i : Int) < (bs.length : Int)) = false := by simp; omega
    obtain rfl : i = bs.length := by omega
    (repeat (first | refine aos_nil ?_ | ((refine aos_cons rfl ?_); (first | refine qd rfl rfl ?_ | refine gc rfl rfl rfl rfl rfl _ (by assumption) ?_); show AOs _ _ _ _ ((_, _) :: _) _ _) | refine aw_seq ?_ | refine aw_region ?_ | refine aw_exit ?_ | refine aw_ret ?_ | refine aw_cond false rfl ?_))
    exact fpost (.inr rfl) (.i 0) (.refl _ _) (res_tmp 8) (List.sublist_append_left _ _) ⟨rfl, hIL⟩
end Go.Proofs.Ytlagablcopmhkaa
/- nfa: Run, Matches, Search. -/
namespace Go.Proofs.Ytlagablcopmhkaa
open Go.RowKit

set_option maxRecDepth 100000 in
theorem run1_a {b6 : Nat} {n : Nat} {l : List Int} {c : V} : AC Try.prog 81 [.i n, .d (dI l), .ptr b6 0] [.box b6 24 [c]] fun r L' => r = .t [] ∧ L' = [.box b6 24 [.d (dI l)]] := by
  refine ac_body _ Try.func81 rfl Try.ntmps81 Try.results81 rfl ?_
  (repeat (first | refine aos_nil ?_ | ((refine aos_cons rfl ?_); (first | refine qd rfl rfl ?_ | refine gs rfl rfl rfl rfl (by repeat first | exact .z | apply At.s) (by rfl) rfl ?_); show AOs _ _ _ _ ((_, _) :: _) _ _) | refine aw_region ?_))
  exact fpost (.inl rfl) (.t []) (.refl _ _) res_none (.refl _) ⟨rfl, rfl⟩
set_option maxRecDepth 100000 in
theorem Run_a {a : Auto} {bs : List Nat} (hr : rightA a = true) (hbs : ∀ c ∈ bs, c < 256) (hlen : bs.length ≤ 4096) : AC Try.prog 29 [.a (cellsA a), .d (dB bs)] [] fun r L' => r = .t [.d (dI (runS a false bs bs.length)), .i 0] ∧ L' = [] := by
  refine ac_body _ Try.func29 rfl Try.ntmps29 Try.results29 rfl ?_
  refine aw_seq (aw_region ?_)
  refine aos_cons rfl (aop_box_a rfl rfl rfl rfl ?_)
  intro b2
  show AOs _ _ _ _ ((_, _) :: _) (_ :: _) _
  (repeat (first | refine aos_nil ?_ | ((refine aos_cons rfl ?_); (refine qd rfl rfl ?_); show AOs _ _ _ _ ((_, _) :: _) _ _) | refine aw_seq ?_ | refine aw_region ?_))
  refine aos_cons rfl (aop_alloc rfl rfl ?_)
  intro b6
  show AOs _ _ _ _ ((_, _) :: _) (_ :: _) _
  (repeat (first | refine aos_nil ?_ | ((refine aos_cons rfl ?_); (first | refine qd rfl rfl ?_ | refine qf rfl rfl ?_ | refine gla rfl rfl rfl (by repeat first | exact .z | apply At.s) (by rfl) ?_); show AOs _ _ _ _ ((_, _) :: _) _ _) | refine aw_seq ?_ | refine aw_region ?_))
  refine aos_cons rfl (aop_call rfl rfl rfl (fun _ _ => by kernel_rfl) (L1 := [.box b6 24 [V.nil]]) (.refl _) (run_a (a := a) (bs := bs) (again := false) (f := 81) (first := []) (cap := [.ptr b6 0]) (fun n L => ∃ c, L = [.box b6 24 [c]] ∧ ∀ m, n = m + 1 → c = .d (dI (runS a false bs m))) hr hbs hlen (fun _ _ => by kernel_rfl) ?_ ⟨_, rfl, fun m h => by cases h⟩) (.refl _) ?_)
  · rintro n L hn ⟨c, rfl, _⟩
    exact run1_a.mono fun r L' ⟨h1, h2⟩ => ⟨h1, _, h2, fun m h => by cases h; rfl⟩
  rintro r L' ⟨rfl, c, rfl, hc⟩
  obtain rfl := hc _ rfl
  show AOs _ _ _ _ ((_, _) :: _) (_ :: _) _
  (repeat (first | refine aos_nil ?_ | ((refine aos_cons rfl ?_); (first | refine qd rfl rfl ?_ | refine gl rfl rfl rfl (by repeat first | exact .z | apply At.s) (by rfl) ?_); show AOs _ _ _ _ ((_, _) :: _) _ _) | refine aw_seq ?_ | refine aw_region ?_ | refine aw_ret ?_))
  exact fpost (.inr rfl) _ (.refl _ _) (res_tmp2 4 5) (List.nil_sublist _) ⟨rfl, rfl⟩

theorem accA_448 {a : Auto} (hP : RightP a) {again : Bool} {bs : List Nat} {n : Nat} (hn : n ≤ bs.length) : ∀ p ∈ runS a again bs n, -1 ≤ p ∧ p < 448 := fun p hp => by
  have := runS_bd hP n hn p hp
  have := hP.len
  omega
set_option maxRecDepth 100000 in
theorem Matches_a {a : Auto} {bs : List Nat} (hr : rightA a = true) (hbs : ∀ c ∈ bs, c < 256) (hlen : bs.length ≤ 4096) : AC Try.prog 18 [.a (cellsA a), .d (dB bs)] [] fun r L' => r = .t [.b (accA a (runS a false bs bs.length)), .i 0] ∧ L' = [] := by
  have hP := rightP hr
  have h1 := Run_a hr hbs hlen
  have h2 := accepts0_a hP (accA_448 hP (again := false) (bs := bs) (Nat.le_refl _))
  refine ac_body _ Try.func18 rfl Try.ntmps18 Try.results18 rfl ?_
  refine aw_seq (aw_region ?_)
  refine aos_cons rfl (aop_box_a rfl rfl rfl rfl ?_)
  intro b2
  show AOs _ _ _ _ ((_, _) :: _) (_ :: _) _
  (repeat (first | ((first | refine aos_cons rfl ?_ | refine aos_yes rfl rfl rfl ?_); refine aop_call0 rfl rfl rfl (fun _ _ => by kernel_rfl) (h1) (.refl _) ?_; show AOs _ _ _ _ ((_, _) :: _) _ _) | ((first | refine aos_cons rfl ?_ | refine aos_yes rfl rfl rfl ?_); refine aop_call0 rfl rfl rfl (fun _ _ => by kernel_rfl) (h2) (.refl _) ?_; show AOs _ _ _ _ ((_, _) :: _) _ _) | refine aos_nil ?_ | ((first | refine aos_cons rfl ?_ | refine aos_yes rfl rfl rfl ?_); (first | refine qd rfl rfl ?_ | refine qt rfl rfl ?_ | refine gla rfl rfl rfl (by repeat first | exact .z | apply At.s) (by rfl) ?_ | refine gc rfl rfl rfl rfl rfl _ (by rfl) ?_); show AOs _ _ _ _ ((_, _) :: _) _ _) | refine aw_seq ?_ | refine aw_region ?_ | refine aw_ret ?_))
  exact fpost (.inr rfl) _ (.refl _ _) (res_tmp2 4 5) (List.nil_sublist _) ⟨rfl, rfl⟩

/-- a row of numbers -/
def intsR (l : List Int) : List V := l.map V.i
theorem intsR_isD (l : List Int) : (intsR l).all V.isD = true := by simp [intsR, V.isD]
theorem intsR_dI (l : List Int) : D.s l.length 1 ((intsR l).map V.toD) = dI l := by simp [dI, intsR, V.toD]
/-- at which prefixes it accepts -/
def searchL (a : Auto) (bs : List Nat) (n : Nat) : List Int := ints ((List.range n).filter fun k => accA a (runS a true bs k))
theorem searchL_succ (a : Auto) (bs : List Nat) (n : Nat) : searchL a bs (n + 1) = if accA a (runS a true bs n) then searchL a bs n ++ [(n : Int)] else searchL a bs n := by
  unfold searchL ints
  rw [List.range_succ, List.filter_append]
  split
  · rename_i h; simp [h]
  · rename_i h; simp [h]
theorem searchL_len (a : Auto) (bs : List Nat) (n : Nat) : (searchL a bs n).length ≤ n := by
  unfold searchL ints
  rw [List.length_map]
  have := List.length_filter_le (fun k => accA a (runS a true bs k)) (List.range n)
  rwa [List.length_range] at this

set_option maxRecDepth 100000 in
set_option maxHeartbeats 1000000 in
theorem search1_a {a : Auto} {b2 b6 n : Nat} {l xs : List Int} {v : Value} (hP : RightP a) (hl : ∀ p ∈ l, -1 ≤ p ∧ p < 448) (hx : xs.length ≤ 5000) (hn : n ≤ 5000) :
    AC Try.prog 82 [.i n, .d (dI l), .ptr b2 0, .ptr b6 0] [.row v 3 1 xs.length (intsR xs), .box b6 24 [.v v], .box b2 26 (cellsA a)] fun r L' => r = .t [] ∧ ∃ v', L' = [.row v' 3 1 (if accA a l then xs ++ [(n : Int)] else xs).length (intsR (if accA a l then xs ++ [(n : Int)] else xs)), .box b6 24 [.v v'], .box b2 26 (cellsA a)] := by
  have hac := accepts0_a hP hl
  refine ac_body _ Try.func82 rfl Try.ntmps82 Try.results82 rfl ?_
  (repeat (first | ((refine aos_cons rfl ?_); (first | refine qd rfl rfl ?_ | refine gla rfl rfl rfl (by repeat first | exact .z | apply At.s) (by rfl) ?_); show AOs _ _ _ _ ((_, _) :: _) _ _) | refine aw_seq ?_ | refine aw_region ?_))
  (refine aos_cons rfl ?_); refine aop_call0 rfl rfl rfl (fun _ _ => by kernel_rfl) (hac) (.refl _) ?_; show AOs _ _ _ _ ((_, _) :: _) _ _
  cases hA : accA a l
  · (repeat (first | refine aos_nil ?_ | refine aw_skip ?_ | refine aw_cond false rfl ?_))
    exact fpost (.inl rfl) (.t []) (.refl _ _) res_none (.refl _) ⟨rfl, v, rfl⟩
  · (repeat (first | refine aos_nil ?_ | ((refine aos_cons rfl ?_); (first | refine qd rfl rfl ?_ | refine gl rfl rfl rfl (by repeat first | exact .z | apply At.s) (by rfl) ?_); show AOs _ _ _ _ ((_, _) :: _) _ _) | refine aw_region ?_ | refine aw_cond true rfl ?_))
    (refine aos_cons rfl ?_); refine aop_buildSlice (len := 1) (k := 1) rfl rfl [V.i n] rfl rfl (by decide) (by decide) ?_; show AOs _ _ _ _ ((_, _) :: _) _ _
    refine aos_cons rfl (aop_append (j := 0) (m := xs.length) (q := 1) (k := 1) (bytes := 8) rfl rfl rfl rfl rfl rfl (by omega) (by omega) fun v' => ?_)
    refine aos_cons rfl (aop_rowOne 0 rfl fun hone => aop_store1 (i := 1) rfl rfl rfl rfl rfl rfl hone ?_)
    (repeat (refine aos_nil ?_))
    refine fpost (.inl rfl) (.t []) (.refl _ _) res_none (.refl _) ⟨rfl, v', ?_⟩
    show _ = [Ch.row v' 3 1 (xs ++ [(n : Int)]).length (intsR (xs ++ [(n : Int)])), _, _]
    have e : intsR (xs ++ [(n : Int)]) = intsR xs ++ [V.i n] := by simp [intsR]
    rw [e, List.length_append]
    rfl
set_option maxRecDepth 100000 in
set_option maxHeartbeats 1000000 in
theorem Search_a {a : Auto} {bs : List Nat} (hr : rightA a = true) (hbs : ∀ c ∈ bs, c < 256) (hlen : bs.length ≤ 4096) : AC Try.prog 30 [.a (cellsA a), .d (dB bs)] [] fun r L' => r = .t [.d (dI (searchL a bs (bs.length + 1))), .i 0] ∧ L' = [] := by
  have hP := rightP hr
  refine ac_body _ Try.func30 rfl Try.ntmps30 Try.results30 rfl ?_
  refine aw_seq (aw_region ?_)
  refine aos_cons rfl (aop_box_a rfl rfl rfl rfl ?_)
  intro b2
  show AOs _ _ _ _ ((_, _) :: _) (_ :: _) _
  (repeat (first | refine aos_nil ?_ | ((refine aos_cons rfl ?_); (refine qd rfl rfl ?_); show AOs _ _ _ _ ((_, _) :: _) _ _) | refine aw_seq ?_ | refine aw_region ?_))
  refine aos_cons rfl (aop_alloc rfl rfl ?_)
  intro b6
  show AOs _ _ _ _ ((_, _) :: _) (_ :: _) _
  (repeat (first | refine aos_nil ?_ | ((refine aos_cons rfl ?_); (first | refine qd rfl rfl ?_ | refine qf rfl rfl ?_ | refine gla rfl rfl rfl (by repeat first | exact .z | apply At.s) (by rfl) ?_); show AOs _ _ _ _ ((_, _) :: _) _ _) | refine aw_seq ?_ | refine aw_region ?_))
  refine aos_le (.addNil 3 1) ?_ rfl
  (repeat (first | fail))
  refine aos_cons rfl (aop_call rfl rfl rfl (fun _ _ => by kernel_rfl) (L1 := [.row (.slice none 0 0) 3 1 0 [], .box b6 24 [V.nil], .box b2 26 (cellsA a)]) (F := []) (.refl _) (run_a (a := a) (bs := bs) (again := true) (f := 82) (first := []) (cap := [.ptr b2 0, .ptr b6 0]) (fun n L => ∃ v, L = [.row v 3 1 (searchL a bs n).length (intsR (searchL a bs n)), .box b6 24 [.v v], .box b2 26 (cellsA a)]) hr hbs hlen (fun _ _ => by kernel_rfl) ?_ ⟨_, rfl⟩) (.refl _) ?_)
  · rintro n L hn ⟨v, rfl⟩
    have := searchL_len a bs n
    refine (search1_a (n := n) (xs := searchL a bs n) hP (accA_448 hP (again := true) hn) (by omega) (by omega)).mono fun r L' ⟨h1, v', h2⟩ => ⟨h1, v', ?_⟩
    rw [h2, searchL_succ]
  rintro r L' ⟨rfl, v, rfl⟩
  show AOs _ _ _ _ ((_, _) :: _) (_ :: _) _
  (repeat (first | refine aos_nil ?_ | ((refine aos_cons rfl ?_); (first | refine qd rfl rfl ?_ | refine gl rfl rfl rfl (by repeat first | exact .z | apply At.s) (by rfl) ?_); show AOs _ _ _ _ ((_, _) :: _) _ _) | refine aw_seq ?_ | refine aw_region ?_ | refine aw_ret ?_))
  exact fpost (.inr rfl) _ (.freezeAs 4 (j := 0) _ rfl rfl (intsR_isD _) (intsR_dI _)) (res_tmp2 4 5) (List.nil_sublist _) ⟨rfl, rfl⟩
end Go.Proofs.Ytlagablcopmhkaa
