/- Law 17: the statement on NfaRuns: for every automaton and list of bytes the law answers true, and what came in reads as it did. No condition. -/
import Derived.Test.YtlagablcopmhkaaRows
import Derived.Test.YtlagablcopmhkaaKRowRuns19
import Derived.Test.YtlagablcopmhkaaKRowRuns20
import Derived.Test.YtlagablcopmhkaaKRowRuns21
import Derived.Test.YtlagablcopmhkaaKRowRuns22
set_option linter.unusedVariables false
set_option linter.unusedSimpArgs false
/- The reference's Live. -/
namespace Go.Proofs.Ytlagablcopmhkaa
open Go.RowKit

/-- a row that a call has made may be seen as data -/
theorem AC.frz {P : Program} {f : FuncId} {args : List V} {e : TypeId} {k m : Nat} {cs : List V} (d : D) (h : AC P f args [] fun r L' => ∃ v, r = .v v ∧ L' = [.row v e k m cs]) (hD : cs.all V.isD = true) (hd : D.s m k (cs.map V.toD) = d) : AC P f args [] fun r L' => r = .d d ∧ L' = [] := fun w S vs hp hr => by
  refine (h w S vs hp hr).mono ?_
  rintro e0 w' ⟨v0, c, S', L', rfl, ⟨v, rfl, rfl⟩, hv, hp', hf'⟩
  obtain rfl := hv.unv
  obtain ⟨q1, q2, q3⟩ := (hp'.mem (i := 0) rfl).2.toData hD (fun _ _ => rfl) (fun _ _ => rfl) rfl rfl rfl rfl
  obtain ⟨q4, q5⟩ := hp'.upd (i := 0) rfl q2 q3
  have s2 := q4.sub (List.nil_sublist _)
  exact ⟨_, _, _, [], rfl, ⟨rfl, rfl⟩, hd ▸ .d q1, s2.1, hf'.trans (q5.trans s2.2)⟩
theorem AC.drop {P : Program} {f : FuncId} {args : List V} {Q : V → List Ch → Prop} (h : AC P f args [] Q) (L : List Ch) : AC P f args L Q := fun w S vs hp hr =>
  (h w S vs (hp.sub (List.nil_sublist _)).1 hr).mono fun _ _ ⟨v, c, S', L', h1, h2, h3, h4, h5⟩ => ⟨v, c, S', L', h1, h2, h3, h4, (hp.sub (List.nil_sublist _)).2.trans h5⟩
theorem app_of {L' F : List Ch} {x : Ch} (h : L' = [x]) : L' ++ F = x :: F := by rw [h]; rfl
theorem flagsV_dI (m n : Nat) : D.s n 1 ((flagsV m n).map V.toD) = dI (flags m n) := by
  rw [flagsV_toD, dI, flags_length]
theorem reachD_a {a : Auto} (hr : rightA a = true) : AC Try.prog 105 [.a (cellsR a)] [] fun r L' => r = .d (dI (flags (reachM a) a.sets.length)) ∧ L' = [] :=
  (reachR_a hr).frz _ (flagsV_isD _ _) (flagsV_dI _ _)
theorem flagsV_keep (m n k : Nat) (x : V) (h : k < n) (hx : x = V.i (if m.testBit k then 1 else 0)) : (flagsV m n).set (k * 1) x = flagsV m n := by
  subst hx
  apply List.ext_getElem?
  intro i
  rw [List.getElem?_set]
  split
  · rename_i e
    rw [← e, if_pos (by rw [flagsV_length]; omega), flagsV_at m n k h]
  · rfl
theorem testBit_clear (m k t : Nat) (h : m.testBit k = true) : (m ^^^ 2 ^ k).testBit t = (m.testBit t && !decide (k = t)) := by
  rw [Nat.testBit_xor, Nat.testBit_two_pow]
  by_cases e : k = t
  · subst e; simp [h]
  · simp [e]
theorem flagsV_clear (m n k : Nat) (h : k < n) (hm : m.testBit k = true) : (flagsV m n).set (k * 1) (V.i 0) = flagsV (m ^^^ 2 ^ k) n := by
  rw [Nat.mul_one]
  apply List.ext_getElem?
  intro i
  rw [List.getElem?_set]
  by_cases hi : i < n
  · have e1 := flagsV_at (m ^^^ 2 ^ k) n i hi
    have e2 := flagsV_at m n i hi
    rw [Nat.mul_one] at e1 e2
    rw [e1, testBit_clear m k i hm]
    by_cases e : k = i
    · subst e; simp [flagsV_length, h]
    · simp [e, e2]
  · have : (flagsV (m ^^^ 2 ^ k) n)[i]? = none := by rw [List.getElem?_eq_none_iff, flagsV_length]; omega
    rw [this, if_neg (by omega)]
    rw [List.getElem?_eq_none_iff, flagsV_length]; omega
/-- what stands in the row after so many -/
def LiveI (m m2 k x : Nat) : Prop := ∀ t, x.testBit t = (m.testBit t && (m2.testBit t || decide (k ≤ t)))
theorem LiveI.zero (m m2 : Nat) : LiveI m m2 0 m := fun t => by simp
theorem LiveI.keep {m m2 k x : Nat} (h : LiveI m m2 k x) (hk : x.testBit k = false ∨ m2.testBit k = true) : LiveI m m2 (k + 1) x := fun t => by
  by_cases e : t = k
  · subst e
    have h1 := h t
    rcases hk with hk | hk
    · rw [hk] at h1 ⊢
      simp at h1
      simp [h1]
    · rw [h1, hk]; simp
  · rw [h t]
    have : decide (k ≤ t) = decide (k + 1 ≤ t) := by rw [Bool.eq_iff_iff]; simp; omega
    rw [this]
theorem LiveI.clear {m m2 k x : Nat} (h : LiveI m m2 k x) (h1 : x.testBit k = true) (h2 : m2.testBit k = false) : LiveI m m2 (k + 1) (x ^^^ 2 ^ k) := fun t => by
  rw [testBit_clear x k t h1]
  by_cases e : k = t
  · subst e; simp [h2]
  · rw [h t]
    have : decide (k ≤ t) = decide (k + 1 ≤ t) := by rw [Bool.eq_iff_iff]; simp; omega
    simp [this, e]
theorem LiveI.full {m m2 n x : Nat} (h : LiveI m m2 n x) : upTo x n = upTo (m &&& m2) n := by
  unfold upTo
  refine List.filter_congr fun t ht => ?_
  have ht := List.mem_range.1 ht
  rw [h t, Nat.testBit_and]
  have : decide (n ≤ t) = false := by simp; omega
  rw [this, Bool.or_false]
set_option exponentiation.threshold 1000 in
set_option maxRecDepth 100000 in
set_option maxHeartbeats 2000000 in
theorem liveR_a {a : Auto} (hr : rightA a = true) (ht : RightT a) : AC Try.prog 56 [.a (cellsR a)] [] fun r L' => r = .d (dI (ints (upTo (reachM a &&& reachM (turnA a)) a.sets.length))) ∧ L' = [] := by
  obtain ⟨l1, l2, l3, l4, l5⟩ := rightA_len hr
  have h1 := reachR_a hr
  have h2 := reachD_a ht
  have h3 := turnRef_a hr
  have hts : (turnA a).sets.length = a.sets.length := rfl
  rw [hts] at h2
  generalize reachM a = m at h1
  generalize reachM (turnA a) = m2 at h2
  refine ac_body _ Try.func56 rfl Try.ntmps56 Try.results56 rfl ?_
  refine aw_seq (aw_region ?_)
  refine aos_cons rfl (aop_box_a rfl rfl rfl rfl ?_)
  intro b1
  show AOs _ _ _ _ ((_, _) :: _) (_ :: _) _
  (repeat (first | refine aos_nil ?_ | ((refine aos_cons rfl ?_); (refine qd rfl rfl ?_); show AOs _ _ _ _ ((_, _) :: _) _ _) | refine aw_seq ?_))
  refine aw_le (.addNil 3 1) ?_
  refine aw_draw (L := [.box b1 79 (cellsR a)]) 3 [.q (.a (cellsR a)), .ap (.row (.slice none 0 0) 3 1 0 []) (fun v => .row v 3 1 a.sets.length (flagsV m a.sets.length)), .q (.a (cellsR a))] rfl (by kernel_rfl) rfl (by kernel_rfl) ⟨?_, ⟨rfl, rfl, ?_⟩, ?_, trivial⟩ fun β => ⟨[(7, .v (β 1).2), (8, .a (cellsR a)), (1, V.ptr b1 0)], [.row (β 1).2 3 1 a.sets.length (flagsV m a.sets.length), .box b1 79 (cellsR a)], .eqs' rfl rfl, ?_⟩
  · exact aq_plain rfl (aop_load_all (i := 0) rfl rfl rfl rfl ⟨rfl, rfl⟩ rfl ⟨rfl, rfl⟩)
  · exact aop_call (L1 := [_]) rfl rfl rfl (fun _ _ => by kernel_rfl) (.refl _) (h1.drop _) (.refl _) (fun c L' ⟨v, e1, e2⟩ => ⟨v, by rw [e1], app_of e2⟩)
  · exact aq_plain rfl (aop_load_all (i := 0) rfl rfl rfl rfl ⟨rfl, rfl⟩ rfl ⟨rfl, rfl⟩)
  (refine aos_cons rfl ?_); refine aop_call0 rfl rfl rfl (fun _ _ => by kernel_rfl) (h3) (.refl _) ?_; show AOs _ _ _ _ ((_, _) :: _) _ _
  (refine aos_cons rfl ?_); refine aop_call0 rfl rfl rfl (fun _ _ => by kernel_rfl) (h2) (.refl _) ?_; show AOs _ _ _ _ ((_, _) :: _) _ _
  (repeat (first | refine aos_nil ?_ | ((refine aos_cons rfl ?_); (refine qd rfl rfl ?_); show AOs _ _ _ _ ((_, _) :: _) _ _) | refine aw_seq ?_ | refine aw_region ?_ | refine aw_block ?_))
  obtain ⟨v, hv⟩ : ∃ v, v = (β 1).2 := ⟨_, rfl⟩
  refine aw_for (ι := Nat × Nat) (fun i => [(3, V.v v), (4, V.d (dI (flags m2 a.sets.length))), (5, V.i i.1)]) (fun i => [.row v 3 1 a.sets.length (flagsV i.2 a.sets.length), .box b1 79 (cellsR a)])
    (fun i => i.1 ≤ a.sets.length ∧ LiveI m m2 i.1 i.2) (fun i => a.sets.length - i.1) (0, m) ⟨Nat.zero_le _, .zero _ _⟩ ?_ ?_
  · subst hv
    exact .eqs' rfl rfl
  clear hv
  rintro ⟨k, x⟩ ⟨hk, hx⟩
  simp only at hk hx
  by_cases hlt : k < a.sets.length
  · have hd : decide ((k : Int) < (a.sets.length : Int)) = true := by simp; omega
    have q1 := flagsV_at x a.sets.length k hlt
    have q2 : ((flags m2 a.sets.length).map fun y => D.v (.int .i64 y))[k * 1]? = some (.v (.int .i64 (if m2.testBit k then 1 else 0))) := by rw [Nat.mul_one, List.getElem?_map, flags_at _ _ _ hlt]; rfl
    have q3 : k < (flags m2 a.sets.length).length := by rw [flags_length]; exact hlt
    refine aw_rowBlock 0 rfl (by omega) fun g hg => ?_
    (repeat (first | refine aos_nil ?_ | ((refine aos_cons rfl ?_); (first | refine qd rfl rfl ?_ | refine gc rfl rfl rfl rfl rfl _ (by assumption) ?_ | refine gn rfl rfl rfl (by repeat first | exact .z | apply At.s) ?_); show AOs _ _ _ _ ((_, _) :: _) _ _) | refine aw_seq ?_ | refine aw_region ?_ | refine aw_block ?_ | refine aw_skip ?_ | refine aw_cond true rfl ?_))
    cases hb1 : x.testBit k
    all_goals
      cases hb2 : m2.testBit k
      all_goals
        rw [hb1] at q1
        rw [hb2] at q2
        refine aw_drawH 11 [17, 18, 19, 20, 21, 22, 23, 24, 25, 26, 27] (by kernel_rfl) (by kernel_rfl) rfl (by kernel_rfl) ?_; refine drawh_q [] rfl rfl rfl (by kernel_rfl) (aq_plain rfl (by exact qd rfl rfl ⟨rfl, rfl⟩)) ?_; refine drawh_q [] rfl rfl rfl (by kernel_rfl) (aq_plain rfl (by exact qd rfl rfl ⟨rfl, rfl⟩)) ?_; refine drawh_q [] rfl rfl rfl (by kernel_rfl) (aq_plain rfl (by exact qd rfl rfl ⟨rfl, rfl⟩)) ?_; refine drawh_q [] rfl rfl rfl (by kernel_rfl) (aq_plain rfl (by exact qd rfl rfl ⟨rfl, rfl⟩)) ?_; refine drawh_q [19, 20] rfl rfl rfl (by kernel_rfl) (aq_plain rfl (by exact aop_index_rowg (j := 0) rfl rfl rfl rfl hg rfl k rfl hlt ⟨rfl, rfl⟩)) ?_; refine drawh_q [21] rfl rfl rfl (by kernel_rfl) (aq_plain rfl (by exact aop_load (i := 0) rfl rfl rfl rfl ⟨hg, rfl⟩ q1 ⟨rfl, rfl⟩)) ?_; refine drawh_q [] rfl rfl rfl (by kernel_rfl) (aq_plain rfl (by exact qd rfl rfl ⟨rfl, rfl⟩)) ?_; refine drawh_q [] rfl rfl rfl (by kernel_rfl) (aq_plain rfl (by exact qd rfl rfl ⟨rfl, rfl⟩)) ?_; refine drawh_q [23, 24] rfl rfl rfl (by kernel_rfl) (aq_plain rfl (by exact aop_index rfl rfl rfl rfl k rfl q3 ⟨rfl, rfl⟩)) ?_; refine drawh_q [25] rfl rfl rfl (by kernel_rfl) (aq_plain rfl (by exact aop_load_e rfl rfl rfl q2 ⟨rfl, rfl⟩)) ?_; refine drawh_q [22, 26] rfl rfl rfl (by kernel_rfl) (aq_plain rfl (by exact aop_mul rfl rfl rfl rfl (by decide) (by decide) ⟨rfl, rfl⟩)) ?_; refine drawh_nil (.refl _) ?_; intro β
        (refine aos_cons rfl ?_); refine aop_index_rowg (j := 0) rfl rfl rfl rfl hg rfl k rfl hlt ?_; show AOs _ _ _ _ ((_, _) :: _) _ _
        refine aos_cons rfl (aop_store1_row (i := 0) rfl rfl rfl rfl hg rfl (by rw [flagsV_length]; omega) rfl ?_)
        (repeat (first | refine aos_nil ?_ | ((refine aos_cons rfl ?_); (first | refine qd rfl rfl ?_ | refine ga rfl rfl rfl rfl rfl (by omega) (by omega) ?_); show AOs _ _ _ _ ((_, _) :: _) _ _) | refine aw_region ?_))
        first
          | exact ⟨(k + 1, x ^^^ 2 ^ k), ⟨hlt, hx.clear hb1 hb2⟩, by show a.sets.length - (k + 1) < a.sets.length - k; omega, .eqs' rfl (by show [Ch.row v _ 1 _ ((flagsV x a.sets.length).set (k * 1) (V.i 0)), _] = _; rw [flagsV_clear x _ k hlt hb1])⟩
          | exact ⟨(k + 1, x), ⟨hlt, hx.keep (by first | exact .inl hb1 | exact .inr hb2)⟩, by show a.sets.length - (k + 1) < a.sets.length - k; omega, .eqs' rfl (by refine congrArg (fun l => [Ch.row v 3 1 a.sets.length l, _]) (flagsV_keep x _ k _ hlt ?_); rw [hb1]; rfl)⟩
  · have hd : decide ((k : Int) < (a.sets.length : Int)) = false := by simp; omega
    obtain rfl : k = a.sets.length := by omega
    rw [← hx.full]
    (repeat (first | refine aos_nil ?_ | ((refine aos_cons rfl ?_); (first | refine qd rfl rfl ?_ | refine gc rfl rfl rfl rfl rfl _ (by assumption) ?_ | refine gn rfl rfl rfl (by repeat first | exact .z | apply At.s) ?_); show AOs _ _ _ _ ((_, _) :: _) _ _) | refine aw_seq ?_ | refine aw_region ?_ | refine aw_exit ?_ | refine aw_cond false rfl ?_))
    refine aos_le (.freezeAs 29 (j := 0) (dI (flags x a.sets.length)) rfl rfl (flagsV_isD _ _) (flagsV_dI _ _)) ?_ rfl
    (refine aos_cons rfl ?_); refine aop_call0 rfl rfl rfl (fun _ _ => by kernel_rfl) (listR_a x a.sets.length (by omega)) (.refl _) ?_; show AOs _ _ _ _ ((_, _) :: _) _ _
    (repeat (first | refine aos_nil ?_ | ((refine aos_cons rfl ?_); (refine qd rfl rfl ?_); show AOs _ _ _ _ ((_, _) :: _) _ _) | refine aw_ret ?_))
    exact fpost0 (.inr rfl) (res_tmp 2) rfl
end Go.Proofs.Ytlagablcopmhkaa
/- nfa: what is refused: an automaton that is not right. -/
namespace Go.Proofs.Ytlagablcopmhkaa
open Go.RowKit

set_option maxRecDepth 100000
theorem run_bad {a : Auto} {bs : List Nat} {again : Bool} {c : V} (hr : rightA a = false) : AC Try.prog 80 [.a (cellsA a), .d (dB bs), .b again, c] [] fun r L' => r = .i 171 ∧ L' = [] := by
  have hrt := right_a a
  rw [hr] at hrt
  refine ac_body _ Try.func80 rfl Try.ntmps80 Try.results80 rfl ?_
  refine aw_seq (aw_region ?_)
  refine aos_cons rfl (aop_box_a rfl rfl rfl rfl ?_)
  intro b4
  show AOs _ _ _ _ ((_, _) :: _) (_ :: _) _
  (repeat (first | ((refine aos_cons rfl ?_); refine aop_call0 rfl rfl rfl (fun _ _ => by kernel_rfl) (hrt) (.refl _) ?_; show AOs _ _ _ _ ((_, _) :: _) _ _) | refine aos_nil ?_ | ((refine aos_cons rfl ?_); (first | refine qd rfl rfl ?_ | refine gla rfl rfl rfl (by repeat first | exact .z | apply At.s) (by rfl) ?_); show AOs _ _ _ _ ((_, _) :: _) _ _) | refine aw_seq ?_ | refine aw_region ?_ | refine aw_block ?_ | refine aw_ret ?_ | refine aw_cond true rfl ?_))
  exact fpost0 (.inr rfl) (res_tmp 8) rfl
theorem Run_bad {a : Auto} {bs : List Nat} (hr : rightA a = false) : AC Try.prog 29 [.a (cellsA a), .d (dB bs)] [] fun r L' => r = .t [.nil, .i 171] ∧ L' = [] := by
  refine ac_body _ Try.func29 rfl Try.ntmps29 Try.results29 rfl ?_
  refine aw_seq (aw_region ?_)
  refine aos_cons rfl (aop_box_a rfl rfl rfl rfl ?_)
  intro b2
  show AOs _ _ _ _ ((_, _) :: _) (_ :: _) _
  (repeat (first | refine aos_nil ?_ | ((refine aos_cons rfl ?_); (refine qd rfl rfl ?_); show AOs _ _ _ _ ((_, _) :: _) _ _) | refine aw_seq ?_ | refine aw_region ?_))
  refine aos_cons rfl (aop_alloc rfl rfl ?_)
  intro b6
  show AOs _ _ _ _ ((_, _) :: _) (_ :: _) _
  (repeat (first | ((refine aos_cons rfl ?_); refine aop_call0 rfl rfl rfl (fun _ _ => by kernel_rfl) (run_bad hr) (.refl _) ?_; show AOs _ _ _ _ ((_, _) :: _) _ _) | refine aos_nil ?_ | ((refine aos_cons rfl ?_); (first | refine qd rfl rfl ?_ | refine qf rfl rfl ?_ | refine gl rfl rfl rfl (by repeat first | exact .z | apply At.s) (by rfl) ?_ | refine gla rfl rfl rfl (by repeat first | exact .z | apply At.s) (by rfl) ?_); show AOs _ _ _ _ ((_, _) :: _) _ _) | refine aw_seq ?_ | refine aw_region ?_ | refine aw_ret ?_))
  exact fpost0 (.inr rfl) (res_tmp2 4 5) rfl
theorem Matches_bad {a : Auto} {bs : List Nat} (hr : rightA a = false) : AC Try.prog 18 [.a (cellsA a), .d (dB bs)] [] fun r L' => r = .t [.b false, .i 171] ∧ L' = [] := by
  refine ac_body _ Try.func18 rfl Try.ntmps18 Try.results18 rfl ?_
  refine aw_seq (aw_region ?_)
  refine aos_cons rfl (aop_box_a rfl rfl rfl rfl ?_)
  intro b2
  show AOs _ _ _ _ ((_, _) :: _) (_ :: _) _
  (repeat (first | ((refine aos_cons rfl ?_); refine aop_call0 rfl rfl rfl (fun _ _ => by kernel_rfl) (Run_bad hr) (.refl _) ?_; show AOs _ _ _ _ ((_, _) :: _) _ _) | refine aos_nil ?_ | refine aos_no rfl rfl rfl rfl rfl ?_ | ((refine aos_cons rfl ?_); (first | refine qd rfl rfl ?_ | refine qt rfl rfl ?_ | refine gla rfl rfl rfl (by repeat first | exact .z | apply At.s) (by rfl) ?_ | refine gc rfl rfl rfl rfl rfl _ (by rfl) ?_); show AOs _ _ _ _ ((_, _) :: _) _ _) | refine aw_seq ?_ | refine aw_region ?_ | refine aw_ret ?_))
  exact fpost0 (.inr rfl) (res_tmp2 4 5) rfl
theorem Search_bad {a : Auto} {bs : List Nat} (hr : rightA a = false) : AC Try.prog 30 [.a (cellsA a), .d (dB bs)] [] fun r L' => r = .t [.nil, .i 171] ∧ L' = [] := by
  refine ac_body _ Try.func30 rfl Try.ntmps30 Try.results30 rfl ?_
  refine aw_seq (aw_region ?_)
  refine aos_cons rfl (aop_box_a rfl rfl rfl rfl ?_)
  intro b2
  show AOs _ _ _ _ ((_, _) :: _) (_ :: _) _
  (repeat (first | refine aos_nil ?_ | ((refine aos_cons rfl ?_); (refine qd rfl rfl ?_); show AOs _ _ _ _ ((_, _) :: _) _ _) | refine aw_seq ?_ | refine aw_region ?_))
  refine aos_cons rfl (aop_alloc rfl rfl ?_)
  intro b6
  show AOs _ _ _ _ ((_, _) :: _) (_ :: _) _
  (repeat (first | ((refine aos_cons rfl ?_); refine aop_call0 rfl rfl rfl (fun _ _ => by kernel_rfl) (run_bad hr) (.refl _) ?_; show AOs _ _ _ _ ((_, _) :: _) _ _) | refine aos_nil ?_ | ((refine aos_cons rfl ?_); (first | refine qd rfl rfl ?_ | refine qf rfl rfl ?_ | refine gl rfl rfl rfl (by repeat first | exact .z | apply At.s) (by rfl) ?_ | refine gla rfl rfl rfl (by repeat first | exact .z | apply At.s) (by rfl) ?_); show AOs _ _ _ _ ((_, _) :: _) _ _) | refine aw_seq ?_ | refine aw_region ?_ | refine aw_ret ?_))
  exact fpost0 (.inr rfl) (res_tmp2 4 5) rfl
/-- an automaton of nothing, as it is laid -/
def nilsV : List V := [.nil, .nil, .nil, .nil, .b false]
theorem Turn_bad {a : Auto} (hr : rightA a = false) : AC Try.prog 16 [.a (cellsA a)] [] fun r L' => r = .t [.a nilsV, .i 171] ∧ L' = [] := by
  have hrt := right_a a
  rw [hr] at hrt
  refine ac_body _ Try.func16 rfl Try.ntmps16 Try.results16 rfl ?_
  refine aw_seq (aw_region ?_)
  refine aos_cons rfl (aop_box_a rfl rfl rfl rfl ?_)
  intro b1
  refine aos_cons rfl (aop_alloc rfl rfl ?_)
  intro b2
  show AOs _ _ _ _ ((_, _) :: _) (_ :: _) _
  (repeat (first | ((refine aos_cons rfl ?_); refine aop_call0 rfl rfl rfl (fun _ _ => by kernel_rfl) (hrt) (.refl _) ?_; show AOs _ _ _ _ ((_, _) :: _) _ _) | ((refine aos_cons rfl ?_); refine aop_build rfl rfl nilsV rfl ?_; show AOs _ _ _ _ ((_, _) :: _) _ _) | refine aos_nil ?_ | ((refine aos_cons rfl ?_); (first | refine qd rfl rfl ?_ | refine gla rfl rfl rfl (by repeat first | exact .z | apply At.s) (by rfl) ?_ | refine gsa rfl rfl rfl rfl (by repeat first | exact .z | apply At.s) rfl (by rfl) rfl ?_); show AOs _ _ _ _ ((_, _) :: _) _ _) | refine aw_seq ?_ | refine aw_region ?_ | refine aw_ret ?_ | refine aw_cond true rfl ?_))
  exact fpost0 (.inr rfl) (res_cell_tmp (i := 0) rfl rfl rfl) rfl
theorem Live_bad {a : Auto} (hr : rightA a = false) : AC Try.prog 20 [.a (cellsA a)] [] fun r L' => r = .t [.nil, .i 171] ∧ L' = [] := by
  refine ac_body _ Try.func20 rfl Try.ntmps20 Try.results20 rfl ?_
  refine aw_seq (aw_region ?_)
  refine aos_cons rfl (aop_box_a rfl rfl rfl rfl ?_)
  intro b1
  show AOs _ _ _ _ ((_, _) :: _) (_ :: _) _
  (repeat (first | ((refine aos_cons rfl ?_); refine aop_call0 rfl rfl rfl (fun _ _ => by kernel_rfl) (Turn_bad hr) (.refl _) ?_; show AOs _ _ _ _ ((_, _) :: _) _ _) | refine aos_nil ?_ | ((refine aos_cons rfl ?_); (first | refine qd rfl rfl ?_ | refine qa rfl rfl ?_ | refine qt rfl rfl ?_ | refine gla rfl rfl rfl (by repeat first | exact .z | apply At.s) (by rfl) ?_); show AOs _ _ _ _ ((_, _) :: _) _ _) | refine aw_seq ?_ | refine aw_region ?_))
  refine aos_cons rfl (aop_alloc rfl rfl ?_)
  intro b4
  show AOs _ _ _ _ ((_, _) :: _) (_ :: _) _
  (repeat (first | refine aos_nil ?_ | ((refine aos_cons rfl ?_); (first | refine qd rfl rfl ?_ | refine gc rfl rfl rfl rfl rfl _ (by first | assumption | rfl) ?_ | refine gsa rfl rfl rfl rfl (by repeat first | exact .z | apply At.s) rfl (by rfl) rfl ?_); show AOs _ _ _ _ ((_, _) :: _) _ _) | refine aw_seq ?_ | refine aw_region ?_ | refine aw_ret ?_ | refine aw_cond true rfl ?_))
  exact fpost0 (.inr rfl) (res_tmp2 2 3) rfl
end Go.Proofs.Ytlagablcopmhkaa
/- Law 17: runs. -/
namespace Go.Proofs.Ytlagablcopmhkaa
open Go.RowKit

theorem copyD_a (a : Auto) (h : Sm a) : AC Try.prog 26 [.a (cellsA a)] [] fun r L' => r = .a (cellsA a) ∧ L' = [] := fun w S vs hp hr => by
  refine (copy_a a h.s h.f h.i h.l h.e w S vs hp hr).mono ?_
  rintro e w' ⟨v, c, S', L', rfl, ⟨_, A, w0, ⟨p0, c0, p1, c1, p2, c2, p3, c3, fs, rfl, hview, _⟩, rfl⟩, hv, hp', hf'⟩
  obtain ⟨hΦ, hA, _⟩ := hp'.ok _ List.mem_cons_self
  have e1 : ∀ b, inL [Ch.reg A (SameOn A w0)] b ↔ A b := fun b => inL_one
  have g0 := hview w' S' v hΦ hA hv
  exact ⟨_, _, fun b => S' b ∨ A b, [], rfl, ⟨rfl, rfl⟩, g0, ⟨by simp, List.Pairwise.nil, fun b hb => absurd hb inL_nil, fun b hb => hb.elim (hp'.lt b) (hA b)⟩, ⟨hf'.os, hf'.tape, hf'.output, hf'.size, hf'.same, fun b hb => .inl (hf'.SS b hb), fun b hb hlt => hb.elim (fun h => hf'.Sn b h hlt) (fun h => .inr (hf'.Ln b ((e1 b).2 h) hlt)), fun b hb => absurd hb inL_nil⟩⟩
theorem cloneB_a (l : List Nat) (hl : l.length ≤ 1000000) : AC Try.prog 17 [.d (dB l)] [] fun r L' => r = .d (dB l) ∧ L' = [] :=
  ac_real fun w S vs hr => by
    obtain ⟨v, rfl, h⟩ := hr.one
    have h2 := h.und
    have e : dB l = .s l.length 1 ((l.map fun (x : Nat) => Value.int .u8 (x : Int)).map .v) := by rw [dB, List.map_map]; rfl
    rw [e] at h2 ⊢
    exact (cloneB_any l.length (l.map fun (x : Nat) => Value.int .u8 (x : Int)) _ w h2 (fun u hu => by obtain ⟨x, _, rfl⟩ := List.mem_map.1 hu; rfl) hl).mono fun e w' ⟨v, h1, h3, h4⟩ => ⟨_, h1, h3.toR, h4⟩
set_option maxRecDepth 100000 in
set_option maxHeartbeats 1000000 in
theorem eqB_a (l : List Nat) (hl : l.length ≤ 1000000) : AC Try.prog 57 [.d (dB l), .d (dB l)] [] fun r L' => r = .b true ∧ L' = [] := by
  have hz : (!decide ((l.length : Int) = (l.length : Int))) = false := by simp
  refine ac_body _ Try.func57 rfl Try.ntmps57 Try.results57 rfl ?_
  (repeat (first | refine aos_nil ?_ | ((refine aos_cons rfl ?_); (first | refine qd rfl rfl ?_ | refine gc rfl rfl rfl rfl rfl _ (by assumption) ?_ | refine gn0 rfl rfl rfl ?_); show AOs _ _ _ _ ((_, _) :: _) _ _) | refine aw_seq ?_ | refine aw_region ?_ | refine aw_block ?_ | refine aw_skip ?_ | refine aw_cond false rfl ?_))
  refine aw_for (ι := Nat) (fun k => [(0, V.d (dB l)), (1, V.d (dB l)), (12, V.i l.length), (13, V.i k)]) (fun _ => [])
    (fun k => k ≤ l.length) (fun k => l.length - k) 0 (Nat.zero_le _) (.eqs rfl) ?_
  intro k hk
  by_cases hlt : k < l.length
  · have hd : decide ((k : Int) < (l.length : Int)) = true := by simp; omega
    obtain ⟨c, hc⟩ := some_at hlt
    have hld : (l.map fun (x : Nat) => D.v (.int .u8 (x : Int)))[k * 1]? = some (.v (.int .u8 c)) := by simp [hc]
    have hn : (!decide ((c : Int) = (c : Int))) = false := by simp
    (repeat (first | refine aos_nil ?_ | ((refine aos_cons rfl ?_); (first | refine qd rfl rfl ?_ | refine gc rfl rfl rfl rfl rfl _ (by assumption) ?_); show AOs _ _ _ _ ((_, _) :: _) _ _) | refine aw_seq ?_ | refine aw_region ?_ | refine aw_block ?_ | refine aw_skip ?_ | refine aw_cond true rfl ?_))
    refine aw_drawH 9 [16, 17, 18, 19, 20, 21, 22, 23, 24] (by kernel_rfl) (by kernel_rfl) rfl (by kernel_rfl) ?_; refine drawh_q [] rfl rfl rfl (by kernel_rfl) (aq_plain rfl (by exact qd rfl rfl ⟨rfl, rfl⟩)) ?_; refine drawh_q [] rfl rfl rfl (by kernel_rfl) (aq_plain rfl (by exact qd rfl rfl ⟨rfl, rfl⟩)) ?_; refine drawh_q [16, 17] rfl rfl rfl (by kernel_rfl) (aq_plain rfl (by exact aop_index rfl rfl rfl rfl _ rfl (by omega) ⟨rfl, rfl⟩)) ?_; refine drawh_q [18] rfl rfl rfl (by kernel_rfl) (aq_plain rfl (by exact aop_load_e rfl rfl rfl hld ⟨rfl, rfl⟩)) ?_; refine drawh_q [] rfl rfl rfl (by kernel_rfl) (aq_plain rfl (by exact qd rfl rfl ⟨rfl, rfl⟩)) ?_; refine drawh_q [] rfl rfl rfl (by kernel_rfl) (aq_plain rfl (by exact qd rfl rfl ⟨rfl, rfl⟩)) ?_; refine drawh_q [20, 21] rfl rfl rfl (by kernel_rfl) (aq_plain rfl (by exact aop_index rfl rfl rfl rfl _ rfl (by omega) ⟨rfl, rfl⟩)) ?_; refine drawh_q [22] rfl rfl rfl (by kernel_rfl) (aq_plain rfl (by exact aop_load_e rfl rfl rfl hld ⟨rfl, rfl⟩)) ?_; refine drawh_q [19, 23] rfl rfl rfl (by kernel_rfl) (aq_plain rfl (by exact gc rfl rfl rfl rfl rfl _ (by assumption) ⟨rfl, rfl⟩)) ?_; refine drawh_nil (.refl _) ?_; intro β
    (repeat (first | refine aos_nil ?_ | ((refine aos_cons rfl ?_); (first | refine qd rfl rfl ?_ | refine ga rfl rfl rfl rfl rfl (by omega) (by omega) ?_); show AOs _ _ _ _ ((_, _) :: _) _ _) | refine aw_region ?_ | refine aw_skip ?_ | refine aw_cond false rfl ?_))
    exact ⟨k + 1, hlt, by omega, .eqs rfl⟩
  · have hd : decide ((k : Int) < (l.length : Int)) = false := by simp; omega
    (repeat (first | refine aos_nil ?_ | ((refine aos_cons rfl ?_); (first | refine qd rfl rfl ?_ | refine gc rfl rfl rfl rfl rfl _ (by assumption) ?_); show AOs _ _ _ _ ((_, _) :: _) _ _) | refine aw_seq ?_ | refine aw_region ?_ | refine aw_exit ?_ | refine aw_ret ?_ | refine aw_cond false rfl ?_))
    exact fpost0 (.inr rfl) (res_tmp 4) rfl
theorem live_eq {a : Auto} (hr : rightA a = true) : ints (upTo (reachM a &&& reachM (turnA a)) a.sets.length) = ints (bitsL (reachM a &&& reachM (turnA a))) := by
  obtain ⟨l1, _⟩ := rightA_len hr
  unfold bitsL
  rw [upTo_eq _ a.sets.length 448 (fun t ht => ?_) (by omega)]
  rw [Nat.testBit_and, Bool.and_eq_true] at ht
  exact ((reachM_iff a t).1 ht.1).1
def autoZ : Auto := ⟨[], [], [], [], false⟩
theorem nilsA : VLe (.a nilsV) (.a (cellsA autoZ)) := VLe.a (show ArgsLe _ _ from ⟨VLe.nil _, VLe.nil _, VLe.nil _, VLe.nil _, VLe.refl _, trivial⟩)
theorem nilsR : VLe (.a nilsV) (.a (cellsR autoZ)) := VLe.a (show ArgsLe _ _ from ⟨VLe.nil _, VLe.nil _, VLe.nil _, VLe.nil _, VLe.refl _, trivial⟩)
theorem autoZ_sm : Sm autoZ := ⟨by decide, by decide, by decide, by decide, fun x hx => by cases hx⟩
theorem eqI_itself (l : List Int) : AC Try.prog 23 [.d (dI l), .d (dI l)] [] fun r L' => r = .b true ∧ L' = [] := by
  have := eqI_a l l
  rwa [decide_eq_true rfl] at this
theorem runS_len (a : Auto) (again : Bool) (bs : List Nat) : ∀ n, n ≤ bs.length → (runS a again bs n).length ≤ 140737488355328
  | 0, _ => by show 1 ≤ _; omega
  | n + 1, h => by
    obtain ⟨c, hc⟩ := some_at (show n < bs.length by omega)
    rw [runS_succ hc]
    have := runStep_len a (runS a again bs n) c
    cases again
    · show (stepA a _ c).length ≤ _; omega
    · show (stepA a _ c).length + 1 ≤ _; omega
/-- five of one number -/
def fiveD (e : Int) : List D := [.v (.int .i64 e), .v (.int .i64 e), .v (.int .i64 e), .v (.int .i64 e), .v (.int .i64 e)]
theorem fiveD_at (e : Int) : ∀ k : Nat, k < 5 → (fiveD e)[k * 1]? = some (.v (.int .i64 e))
  | 0, _ => rfl
  | 1, _ => rfl
  | 2, _ => rfl
  | 3, _ => rfl
  | 4, _ => rfl
  | k + 5, h => by omega

set_option maxRecDepth 100000 in
set_option maxHeartbeats 4000000 in
theorem runs_a (a : Auto) (bs : List Nat) (hA : Sm a) (hbs : ∀ c ∈ bs, c < 256) (hlen : bs.length ≤ 4096) :
    AC Try.prog 13 [.a (cellsA a), .d (dB bs)] [] fun r L' => r = .b true ∧ L' = [] := by
  have hTa := theirs_a a hA.s hA.f hA.i hA.l hA.e
  have hCp := copyD_a a hA
  have hCl := cloneB_a bs (by omega)
  have hSS := sameR_a a a hA.bd hA.s hA.f hA.i hA.l hA.e
  rw [sameA_refl] at hSS
  refine ac_body _ Try.func13 rfl Try.ntmps13 Try.results13 rfl ?_
  refine aw_seq (aw_region ?_)
  refine aos_cons rfl (aop_box_a rfl rfl rfl rfl ?_)
  intro b2
  show AOs _ _ _ _ ((_, _) :: _) (_ :: _) _
  (repeat (first | refine aos_nil ?_ | ((refine aos_cons rfl ?_); (refine qd rfl rfl ?_); show AOs _ _ _ _ ((_, _) :: _) _ _) | refine aw_seq ?_))
  refine aw_drawH 8 [24, 25, 26, 27, 28, 29, 5, 6] (by kernel_rfl) (by kernel_rfl) rfl (by kernel_rfl) ?_; refine drawh_q [] rfl rfl rfl (by kernel_rfl) (aq_plain rfl (by exact gla rfl rfl rfl (by repeat first | exact .z | apply At.s) (by rfl) ⟨rfl, rfl⟩)) ?_; refine drawh_q [24] rfl rfl rfl (by kernel_rfl) (aq_plain rfl (by exact aop_call0 rfl rfl rfl (fun _ _ => by kernel_rfl) (hTa) (.refl _) ⟨rfl, rfl⟩)) ?_; refine drawh_q [] rfl rfl rfl (by kernel_rfl) (aq_plain rfl (by exact gla rfl rfl rfl (by repeat first | exact .z | apply At.s) (by rfl) ⟨rfl, rfl⟩)) ?_; refine drawh_q [25, 26] rfl rfl rfl (by kernel_rfl) (aq_plain rfl (by exact aop_call0 rfl rfl rfl (fun _ _ => by kernel_rfl) (hCp) (.refl _) ⟨rfl, rfl⟩)) ?_; refine drawh_q [] rfl rfl rfl (by kernel_rfl) (aq_plain rfl (by exact qd rfl rfl ⟨rfl, rfl⟩)) ?_; refine drawh_q [27, 28] rfl rfl rfl (by kernel_rfl) (aq_plain rfl (by exact aop_call0 rfl rfl rfl (fun _ _ => by kernel_rfl) (hCl) (.refl _) ⟨rfl, rfl⟩)) ?_; refine drawh_al rfl rfl rfl rfl ?_; refine drawh_al rfl rfl rfl rfl ?_; refine drawh_nil (.refl _) ?_; intro β
  refine aos_cons rfl (aop_store_all (i := 1) rfl rfl rfl rfl rfl rfl rfl rfl ?_)
  show AOs _ _ _ _ ((_, _) :: _) (_ :: _) _
  refine aos_cons rfl (aop_store_all (i := 0) rfl rfl rfl rfl rfl rfl rfl rfl ?_)
  show AOs _ _ _ _ ((_, _) :: _) (_ :: _) _
  (repeat (first | refine aos_nil ?_ | ((refine aos_cons rfl ?_); (first | refine qd rfl rfl ?_ | refine gla rfl rfl rfl (by repeat first | exact .z | apply At.s) (by rfl) ?_); show AOs _ _ _ _ ((_, _) :: _) _ _) | refine aw_seq ?_ | refine aw_region ?_))
  refine aos_le (sl' := [(31, .a (cellsA a)), (32, .d (dB bs)), (1, .d (dB bs)), (4, .b false), (5, .ptr (β 6).1 0), (6, .ptr (β 7).1 0), (7, .d (dB bs))]) (L' := [.box (β 7).1 26 (cellsA a), .box (β 6).1 79 (cellsR a)]) (.trans (.sub (.cons_cons _ (.cons_cons _ (.cons _ (.refl _))))) (.eqs' rfl rfl)) ?_ rfl
  generalize (β 6).1 = b5
  generalize (β 7).1 = b6
  cases h : rightA a
  · (refine aos_cons rfl ?_); refine aop_call0 rfl rfl rfl (fun _ _ => by kernel_rfl) (Run_bad h) (.refl _) ?_; show AOs _ _ _ _ ((_, _) :: _) _ _
    (repeat (first | ((refine aos_cons rfl ?_); refine aop_call0 rfl rfl rfl (fun _ _ => by kernel_rfl) (Matches_bad h) (.refl _) ?_; show AOs _ _ _ _ ((_, _) :: _) _ _) | ((refine aos_cons rfl ?_); refine aop_call0 rfl rfl rfl (fun _ _ => by kernel_rfl) (Search_bad h) (.refl _) ?_; show AOs _ _ _ _ ((_, _) :: _) _ _) | ((refine aos_cons rfl ?_); refine aop_call0 rfl rfl rfl (fun _ _ => by kernel_rfl) (Turn_bad h) (.refl _) ?_; show AOs _ _ _ _ ((_, _) :: _) _ _) | refine aos_nil ?_ | ((refine aos_cons rfl ?_); (first | refine qd rfl rfl ?_ | refine qa rfl rfl ?_ | refine qt rfl rfl ?_ | refine gla rfl rfl rfl (by repeat first | exact .z | apply At.s) (by rfl) ?_); show AOs _ _ _ _ ((_, _) :: _) _ _) | refine aw_seq ?_ | refine aw_region ?_))
    refine aos_cons rfl (aop_alloc rfl rfl ?_)
    intro b14
    show AOs _ _ _ _ ((_, _) :: _) (_ :: _) _
    (repeat (first | ((refine aos_cons rfl ?_); refine aop_store_all (i := 0) rfl rfl rfl rfl rfl rfl rfl rfl ?_; show AOs _ _ _ _ ((_, _) :: _) _ _) | ((refine aos_cons rfl ?_); refine aop_call0 rfl rfl rfl (fun _ _ => by kernel_rfl) (Live_bad h) (.refl _) ?_; show AOs _ _ _ _ ((_, _) :: _) _ _) | ((refine aos_cons rfl ?_); refine aop_call0 rfl rfl rfl (fun _ _ => by kernel_rfl) (runR_bad hA.bd h) (.refl _) ?_; show AOs _ _ _ _ ((_, _) :: _) _ _) | refine aos_nil ?_ | ((refine aos_cons rfl ?_); (first | refine qd rfl rfl ?_ | refine qt rfl rfl ?_ | refine gla rfl rfl rfl (by repeat first | exact .z | apply At.s) (by rfl) ?_ | refine gn0 rfl rfl rfl ?_ | refine aop_buildSlice rfl rfl _ rfl rfl (by decide) (by decide) ?_); show AOs _ _ _ _ ((_, _) :: _) _ _) | refine aw_seq ?_ | refine aw_region ?_ | refine aw_block ?_))
    have hn : (!decide ((171 : Int) = 171)) = false := rfl
    refine aw_for (ι := Nat) (fun k => [(8, V.nil), (10, V.b false), (12, V.nil), (14, V.ptr b14 0), (16, V.nil), (19, V.i 171), (69, V.d (.s 5 1 (fiveD 171))), (70, V.i 5), (71, V.i k)]) (fun _ => [.box b14 26 nilsV, .box b6 26 (cellsA a), .box b5 79 (cellsR a)])
      (fun k => k ≤ 5) (fun k => 5 - k) 0 (Nat.zero_le _) (.eqs' rfl rfl) ?_
    intro k hk
    by_cases hlt : k < 5
    · have hd : decide ((k : Int) < 5) = true := by simp; omega
      have hat := fiveD_at 171 k hlt
      (repeat (first | ((refine aos_cons rfl ?_); refine aop_load_e rfl rfl rfl hat ?_; show AOs _ _ _ _ ((_, _) :: _) _ _) | refine aos_nil ?_ | ((refine aos_cons rfl ?_); (first | refine qd rfl rfl ?_ | refine gc rfl rfl rfl rfl rfl _ (by assumption) ?_ | refine ga rfl rfl rfl rfl rfl (by omega) (by omega) ?_ | refine aop_index rfl rfl rfl rfl _ rfl (by omega) ?_); show AOs _ _ _ _ ((_, _) :: _) _ _) | refine aw_seq ?_ | refine aw_region ?_ | refine aw_block ?_ | refine aw_skip ?_ | refine aw_cond true rfl ?_ | refine aw_cond false rfl ?_))
      exact ⟨k + 1, hlt, by omega, .eqs rfl⟩
    · have hd : decide ((k : Int) < 5) = false := by simp; omega
      have hZ := sameR_a autoZ autoZ autoZ_sm.bd autoZ_sm.s autoZ_sm.f autoZ_sm.i autoZ_sm.l autoZ_sm.e
      rw [sameA_refl] at hZ
      (repeat (first | ((first | refine aos_cons rfl ?_ | refine aos_yes rfl rfl rfl ?_); refine aop_build rfl rfl nilsV rfl ?_; show AOs _ _ _ _ ((_, _) :: _) _ _) | ((first | refine aos_cons rfl ?_ | refine aos_yes rfl rfl rfl ?_); refine aop_call0 rfl rfl rfl (fun _ _ => by kernel_rfl) hZ ⟨nilsA, nilsR, trivial⟩ ?_; show AOs _ _ _ _ ((_, _) :: _) _ _) | refine aos_nil ?_ | ((first | refine aos_cons rfl ?_ | refine aos_yes rfl rfl rfl ?_); (first | refine qd rfl rfl ?_ | refine gla rfl rfl rfl (by repeat first | exact .z | apply At.s) (by rfl) ?_ | refine gc rfl rfl rfl rfl rfl _ (by first | assumption | rfl) ?_ | refine ga rfl rfl rfl rfl rfl (by omega) (by omega) ?_ | refine gn0 rfl rfl rfl ?_); show AOs _ _ _ _ ((_, _) :: _) _ _) | refine aw_seq ?_ | refine aw_region ?_ | refine aw_exit ?_ | refine aw_ret ?_ | refine aw_cond true rfl ?_ | refine aw_cond false rfl ?_))
      exact fpost0 (.inr rfl) (res_tmp 4) rfl
  · have ht := RightT.of h
    have hTs := rightA_sm ht
    have hTT := sameR_a (turnA a) (turnA a) hTs.bd hTs.s hTs.f hTs.i hTs.l hTs.e
    rw [sameA_refl] at hTT
    (repeat (first | ((refine aos_cons rfl ?_); refine aop_call0 rfl rfl rfl (fun _ _ => by kernel_rfl) (Run_a h hbs hlen) (.refl _) ?_; show AOs _ _ _ _ ((_, _) :: _) _ _) | ((refine aos_cons rfl ?_); refine aop_call0 rfl rfl rfl (fun _ _ => by kernel_rfl) (Matches_a h hbs hlen) (.refl _) ?_; show AOs _ _ _ _ ((_, _) :: _) _ _) | ((refine aos_cons rfl ?_); refine aop_call0 rfl rfl rfl (fun _ _ => by kernel_rfl) (Search_a h hbs hlen) (.refl _) ?_; show AOs _ _ _ _ ((_, _) :: _) _ _) | refine aos_nil ?_ | ((refine aos_cons rfl ?_); (first | refine qd rfl rfl ?_ | refine qt rfl rfl ?_ | refine gla rfl rfl rfl (by repeat first | exact .z | apply At.s) (by rfl) ?_); show AOs _ _ _ _ ((_, _) :: _) _ _) | refine aw_seq ?_ | refine aw_region ?_))
    refine aos_cons rfl (aop_call (L1 := []) rfl rfl rfl (fun _ _ => by kernel_rfl) (.refl _) (turn_own a h) (.refl _) ?_)
    rintro r L' ⟨_, A, w0, ⟨r', rfl, _, p0, c0, p1, c1, p2, c2, p3, c3, fs, rfl, hview, hsp⟩, rfl⟩
    show AOs _ _ _ _ ((_, _) :: _) (_ :: _) _
    (repeat (((refine aos_cons rfl ?_); (first | refine qd rfl rfl ?_ | refine qa rfl rfl ?_ | refine qt rfl rfl ?_); show AOs _ _ _ _ ((_, _) :: _) _ _)))
    refine aos_cons rfl (aop_alloc rfl rfl ?_)
    intro b14
    show AOs _ _ _ _ ((_, _) :: _) (_ :: _) _
    (repeat (first | ((refine aos_cons rfl ?_); refine aop_store_all (i := 0) rfl rfl rfl rfl rfl rfl rfl rfl ?_; show AOs _ _ _ _ ((_, _) :: _) _ _) | ((refine aos_cons rfl ?_); refine aop_call0 rfl rfl rfl (fun _ _ => by kernel_rfl) (Live_a h ht) (.refl _) ?_; show AOs _ _ _ _ ((_, _) :: _) _ _) | ((refine aos_cons rfl ?_); refine aop_call0 rfl rfl rfl (fun _ _ => by kernel_rfl) (runR_a hA.bd h hbs hlen) (.refl _) ?_; show AOs _ _ _ _ ((_, _) :: _) _ _) | refine aos_nil ?_ | ((refine aos_cons rfl ?_); (first | refine qd rfl rfl ?_ | refine qt rfl rfl ?_ | refine gla rfl rfl rfl (by repeat first | exact .z | apply At.s) (by rfl) ?_ | refine gn0 rfl rfl rfl ?_ | refine aop_buildSlice rfl rfl _ rfl rfl (by decide) (by decide) ?_); show AOs _ _ _ _ ((_, _) :: _) _ _) | refine aw_seq ?_ | refine aw_region ?_ | refine aw_block ?_))
    have hn : (!decide ((0 : Int) = 0)) = false := rfl
    have hE0 := eqI_itself (runS a false bs bs.length)
    have hE1 := eqI_itself (searchL a bs (bs.length + 1))
    have hE2 := eqI_itself (ints (bitsL (reachM a &&& reachM (turnA a))))
    have hEB := eqB_a bs (by omega)
    have hSr := searchR_a hA.bd h hbs hlen
    have hTr := turnRef_a h
    have hLr := liveR_a h ht
    rw [live_eq h] at hLr
    have hAc := acceptsR_a a (runS a false bs bs.length) (runS_len a false bs bs.length (Nat.le_refl _))
    rw [← acc_eq (rightP h) (runS_bd (rightP h) _ (Nat.le_refl _))] at hAc
    generalize searchL a bs (bs.length + 1) = l2 at hE1 hSr
    generalize bitsL (reachM a &&& reachM (turnA a)) = l3 at hE2 hLr
    generalize accA a (runS a false bs bs.length) = acc at hAc
    have hx : (acc != acc) = false := by simp
    generalize runS a false bs bs.length = l1 at hE0 hAc
    refine aw_for (ι := Nat) (fun k => [(1, V.d (dB bs)), (5, V.ptr b5 0), (6, V.ptr b6 0), (7, V.d (dB bs)), (8, V.d (dI l1)), (10, V.b acc), (12, V.d (dI l2)), (14, V.ptr b14 0), (16, V.d (dI (ints l3))), (18, V.d (dI l1)), (19, V.i 0), (69, V.d (.s 5 1 (fiveD 0))), (70, V.i 5), (71, V.i k)]) (fun _ => [.box b14 26 [.v (.slice p0 (turnA a).sets.length c0), .v (.slice p1 (turnA a).follow.length c1), .v (.slice p2 (turnA a).first.length c2), .v (.slice p3 (turnA a).last.length c3), .b (turnA a).empty], .reg A (SameOn A w0), .box b6 26 (cellsA a), .box b5 79 (cellsR a)])
      (fun k => k ≤ 5) (fun k => 5 - k) 0 (Nat.zero_le _) (.eqs' rfl rfl) ?_
    intro k hk
    by_cases hlt : k < 5
    · have hd : decide ((k : Int) < 5) = true := by simp; omega
      have hat := fiveD_at 0 k hlt
      (repeat (first | ((refine aos_cons rfl ?_); refine aop_load_e rfl rfl rfl hat ?_; show AOs _ _ _ _ ((_, _) :: _) _ _) | refine aos_nil ?_ | ((refine aos_cons rfl ?_); (first | refine qd rfl rfl ?_ | refine gc rfl rfl rfl rfl rfl _ (by assumption) ?_ | refine ga rfl rfl rfl rfl rfl (by omega) (by omega) ?_ | refine aop_index rfl rfl rfl rfl _ rfl (by omega) ?_); show AOs _ _ _ _ ((_, _) :: _) _ _) | refine aw_seq ?_ | refine aw_region ?_ | refine aw_block ?_ | refine aw_skip ?_ | refine aw_cond true rfl ?_ | refine aw_cond false rfl ?_))
      exact ⟨k + 1, hlt, by omega, .eqs rfl⟩
    · have hd : decide ((k : Int) < 5) = false := by simp; omega
      (repeat (first | ((refine aos_cons rfl ?_); refine aop_call0 rfl rfl rfl (fun _ _ => by kernel_rfl) (hSr) (.refl _) ?_; show AOs _ _ _ _ ((_, _) :: _) _ _) | refine aos_nil ?_ | ((refine aos_cons rfl ?_); (first | refine qd rfl rfl ?_ | refine qt rfl rfl ?_ | refine gla rfl rfl rfl (by repeat first | exact .z | apply At.s) (by rfl) ?_ | refine gc rfl rfl rfl rfl rfl _ (by assumption) ?_); show AOs _ _ _ _ ((_, _) :: _) _ _) | refine aw_seq ?_ | refine aw_region ?_ | refine aw_skip ?_ | refine aw_exit ?_ | refine aw_cond false rfl ?_))
      refine aw_le (sl' := [(1, V.d (dB bs)), (5, V.ptr b5 0), (6, V.ptr b6 0), (7, V.d (dB bs)), (8, V.d (dI l1)), (10, V.b acc), (12, V.d (dI l2)), (14, V.ptr b14 0), (16, V.d (dI (ints l3))), (18, V.d (dI l1)), (22, V.d (dI l2))]) (.eqs rfl) ?_
      refine aw_drawH 37 [105, 106, 107, 108, 109, 110, 111, 112, 113, 114, 115, 116, 117, 118, 119, 120, 121, 122, 123, 124, 125, 126, 127, 128, 129, 130, 131, 132, 133, 134, 135, 136, 137, 138, 139, 140, 141] (by kernel_rfl) (by kernel_rfl) rfl (by kernel_rfl) ?_; refine drawh_q [] rfl rfl rfl (by kernel_rfl) (aq_plain rfl (by exact qd rfl rfl ⟨rfl, rfl⟩)) ?_; refine drawh_q [] rfl rfl rfl (by kernel_rfl) (aq_plain rfl (by exact qd rfl rfl ⟨rfl, rfl⟩)) ?_; refine drawh_q [105, 106] rfl rfl rfl (by kernel_rfl) (aq_plain rfl (by exact aop_call0 rfl rfl rfl (fun _ _ => by kernel_rfl) (hE0) (.refl _) ⟨rfl, rfl⟩)) ?_; refine drawh_q [107] rfl rfl rfl (by kernel_rfl) (aq_plain rfl (by exact qd rfl rfl ⟨rfl, rfl⟩)) ?_; refine drawh_q [107, 108] rfl rfl rfl (by kernel_rfl) (aq_plain rfl (by exact qd rfl rfl ⟨rfl, rfl⟩)) ?_; refine drawh_q [109] rfl rfl rfl (by kernel_rfl) (by exact aq_yes rfl rfl rfl (qd rfl rfl ⟨rfl, rfl⟩)) ?_; refine drawh_q [109] rfl rfl rfl (by kernel_rfl) (by exact aq_yes rfl rfl rfl (gla rfl rfl rfl (by repeat first | exact .z | apply At.s) (by rfl) ⟨rfl, rfl⟩)) ?_; refine drawh_q [109] rfl rfl rfl (by kernel_rfl) (by exact aq_yes rfl rfl rfl (qd rfl rfl ⟨rfl, rfl⟩)) ?_; refine drawh_q [109, 111, 112] rfl rfl rfl (by kernel_rfl) (by exact aq_yes rfl rfl rfl (aop_call0 rfl rfl rfl (fun _ _ => by kernel_rfl) (hAc) (.refl _) ⟨rfl, rfl⟩)) ?_; refine drawh_q [109, 110, 113] rfl rfl rfl (by kernel_rfl) (by exact aq_yes rfl rfl rfl (gcb rfl rfl rfl rfl rfl _ (by assumption) ⟨rfl, rfl⟩)) ?_; refine drawh_q [109, 114] rfl rfl rfl (by kernel_rfl) (aq_plain rfl (by exact qd rfl rfl ⟨rfl, rfl⟩)) ?_; refine drawh_q [113, 115] rfl rfl rfl (by kernel_rfl) (aq_plain rfl (by exact qd rfl rfl ⟨rfl, rfl⟩)) ?_; refine drawh_q [116] rfl rfl rfl (by kernel_rfl) (by exact aq_yes rfl rfl rfl (qd rfl rfl ⟨rfl, rfl⟩)) ?_; refine drawh_q [116] rfl rfl rfl (by kernel_rfl) (by exact aq_yes rfl rfl rfl (qd rfl rfl ⟨rfl, rfl⟩)) ?_; refine drawh_q [116, 117, 118] rfl rfl rfl (by kernel_rfl) (by exact aq_yes rfl rfl rfl (aop_call0 rfl rfl rfl (fun _ _ => by kernel_rfl) (hE1) (.refl _) ⟨rfl, rfl⟩)) ?_; refine drawh_q [116, 119] rfl rfl rfl (by kernel_rfl) (by exact aq_yes rfl rfl rfl (qd rfl rfl ⟨rfl, rfl⟩)) ?_; refine drawh_q [116, 120] rfl rfl rfl (by kernel_rfl) (aq_plain rfl (by exact qd rfl rfl ⟨rfl, rfl⟩)) ?_; refine drawh_q [119, 121] rfl rfl rfl (by kernel_rfl) (aq_plain rfl (by exact qd rfl rfl ⟨rfl, rfl⟩)) ?_; refine drawh_q [122] rfl rfl rfl (by kernel_rfl) (by exact aq_yes rfl rfl rfl (gla rfl rfl rfl (by repeat first | exact .z | apply At.s) (by rfl) ⟨rfl, rfl⟩)) ?_; refine drawh_q [122] rfl rfl rfl (by kernel_rfl) (by exact aq_yes rfl rfl rfl (gla rfl rfl rfl (by repeat first | exact .z | apply At.s) (by rfl) ⟨rfl, rfl⟩)) ?_; refine drawh_q [122, 124] rfl rfl rfl (by kernel_rfl) (by exact aq_yes rfl rfl rfl (aop_call0 rfl rfl rfl (fun _ _ => by kernel_rfl) (hTr) (.refl _) ⟨rfl, rfl⟩)) ?_; refine drawh_q [122, 123, 125] rfl rfl rfl (by kernel_rfl) (by exact aq_yes rfl rfl rfl (aop_callR0 1 rfl rfl rfl (fun _ _ => by kernel_rfl) rfl hTT ⟨hview, .refl _, trivial⟩ (.v _) ⟨rfl, rfl⟩)) ?_; refine drawh_q [122, 126] rfl rfl rfl (by kernel_rfl) (by exact aq_yes rfl rfl rfl (qd rfl rfl ⟨rfl, rfl⟩)) ?_; refine drawh_q [122, 127] rfl rfl rfl (by kernel_rfl) (aq_plain rfl (by exact qd rfl rfl ⟨rfl, rfl⟩)) ?_; refine drawh_q [126, 128] rfl rfl rfl (by kernel_rfl) (aq_plain rfl (by exact qd rfl rfl ⟨rfl, rfl⟩)) ?_; refine drawh_q [129] rfl rfl rfl (by kernel_rfl) (by exact aq_yes rfl rfl rfl (qd rfl rfl ⟨rfl, rfl⟩)) ?_; refine drawh_q [129] rfl rfl rfl (by kernel_rfl) (by exact aq_yes rfl rfl rfl (gla rfl rfl rfl (by repeat first | exact .z | apply At.s) (by rfl) ⟨rfl, rfl⟩)) ?_; refine drawh_q [129, 131] rfl rfl rfl (by kernel_rfl) (by exact aq_yes rfl rfl rfl (aop_call0 rfl rfl rfl (fun _ _ => by kernel_rfl) (hLr) (.refl _) ⟨rfl, rfl⟩)) ?_; refine drawh_q [129, 130, 132] rfl rfl rfl (by kernel_rfl) (by exact aq_yes rfl rfl rfl (aop_call0 rfl rfl rfl (fun _ _ => by kernel_rfl) (hE2) (.refl _) ⟨rfl, rfl⟩)) ?_; refine drawh_q [129, 133] rfl rfl rfl (by kernel_rfl) (by exact aq_yes rfl rfl rfl (qd rfl rfl ⟨rfl, rfl⟩)) ?_; refine drawh_q [129, 134] rfl rfl rfl (by kernel_rfl) (aq_plain rfl (by exact qd rfl rfl ⟨rfl, rfl⟩)) ?_; refine drawh_q [133, 135] rfl rfl rfl (by kernel_rfl) (aq_plain rfl (by exact qd rfl rfl ⟨rfl, rfl⟩)) ?_; refine drawh_q [136] rfl rfl rfl (by kernel_rfl) (by exact aq_yes rfl rfl rfl (qd rfl rfl ⟨rfl, rfl⟩)) ?_; refine drawh_q [136] rfl rfl rfl (by kernel_rfl) (by exact aq_yes rfl rfl rfl (qd rfl rfl ⟨rfl, rfl⟩)) ?_; refine drawh_q [136, 137, 138] rfl rfl rfl (by kernel_rfl) (by exact aq_yes rfl rfl rfl (aop_call0 rfl rfl rfl (fun _ _ => by kernel_rfl) (hEB) (.refl _) ⟨rfl, rfl⟩)) ?_; refine drawh_q [136, 139] rfl rfl rfl (by kernel_rfl) (by exact aq_yes rfl rfl rfl (qd rfl rfl ⟨rfl, rfl⟩)) ?_; refine drawh_q [136, 140] rfl rfl rfl (by kernel_rfl) (aq_plain rfl (by exact qd rfl rfl ⟨rfl, rfl⟩)) ?_; refine drawh_nil (.refl _) ?_; intro β
      (repeat (first | refine aos_nil ?_ | ((refine aos_cons rfl ?_); (refine gla rfl rfl rfl (by repeat first | exact .z | apply At.s) (by rfl) ?_); show AOs _ _ _ _ ((_, _) :: _) _ _) | refine aw_seq ?_ | refine aw_region ?_ | refine aw_skip ?_ | refine aw_cond false rfl ?_))
      refine aos_le (.regW 1 (ShapeOn A 24 w0) rfl (fun w h => h.shape _) (ShapeOn.st _ _ _)) ?_ rfl
      refine aos_cons rfl (aop_call (L1 := [.reg A (ShapeOn A 24 w0)]) rfl rfl rfl (fun _ _ => by kernel_rfl) (perm_at (i := 1) rfl .emp).1 (spoil_a (turnA a).empty hsp hTs.f) (.refl _) ?_)
      rintro r L' ⟨rfl, rfl⟩
      show AOs _ _ _ _ ((_, _) :: _) (_ :: _) _
      (repeat (first | ((refine aos_cons rfl ?_); refine aop_call0 rfl rfl rfl (fun _ _ => by kernel_rfl) (hSS) (.refl _) ?_; show AOs _ _ _ _ ((_, _) :: _) _ _) | refine aos_nil ?_ | ((refine aos_cons rfl ?_); (first | refine qd rfl rfl ?_ | refine gla rfl rfl rfl (by repeat first | exact .z | apply At.s) (by rfl) ?_); show AOs _ _ _ _ ((_, _) :: _) _ _) | refine aw_seq ?_ | refine aw_region ?_ | refine aw_ret ?_))
      exact fpost0 (.inr rfl) (res_tmp 4) rfl
end Go.Proofs.Ytlagablcopmhkaa
/- Law 17: NfaRuns answers true. -/
namespace Go.Proofs.Ytlagablcopmhkaa
open Go.RowKit

theorem small_smR {a : Auto} (h : smallA a 60 1000 = true) : Sm a := by
  unfold smallA at h
  simp only [Bool.and_eq_true, decide_eq_true_eq] at h
  obtain ⟨⟨h1, h2⟩, h3⟩ := h
  rw [List.take_of_length_le (by omega)] at h3
  have hle : ∀ f : List (List Int), 0 ≤ sumL f ∧ ∀ x ∈ f, (x.length : Int) ≤ sumL f := by
    intro f
    induction f with
    | nil => exact ⟨by simp [sumL], by simp⟩
    | cons y f ih =>
      unfold sumL at ih ⊢
      simp only [List.map_cons, List.sum_cons]
      refine ⟨by omega, fun x hx => ?_⟩
      rcases List.mem_cons.1 hx with rfl | hx
      · omega
      · have := ih.2 x hx; omega
  obtain ⟨h4, h5⟩ := hle a.follow
  exact ⟨by omega, by omega, by omega, by omega, fun x hx => by have := h5 x hx; omega⟩
theorem opens_bytes {P : Program} {t e : TypeId} (ht : P.underlying t = some (.slice e)) (he : P.underlying e = some (.int .u8)) (hc : P.cellsOf e = 1) (hb : 1 ≤ P.bytesOf e) : Opens P t 1 (fun l : List Nat => (∀ c ∈ l, c < 256) ∧ l.length ≤ 140737488351232) (fun l => [dB l]) :=
  Opens.as (opens_slice ht hc (by decide) hb (opens_int he)) fun l h => ⟨l.map Int.toNat, ⟨fun c hc => by
    obtain ⟨x, hx, rfl⟩ := List.mem_map.1 hc
    have := bounds_u8 (h.1 x hx)
    omega, by rw [List.length_map]; exact h.2⟩, by
    have e1 : (l.map Int.toNat).map (fun (x : Nat) => D.v (.int .u8 (x : Int))) = l.flatMap fun n => [D.v (.int .u8 n)] := by
      rw [← List.map_eq_flatMap, List.map_map]
      exact List.map_congr_left fun x hx => by
        have := bounds_u8 (h.1 x hx)
        show D.v (.int .u8 ((x.toNat : Nat) : Int)) = _
        rw [Int.toNat_of_nonneg this.1]
    rw [dB, e1, List.length_map]⟩

set_option maxRecDepth 100000 in
set_option maxHeartbeats 2000000 in
theorem nfaRuns_a (a : Auto) (bs : List Nat) (hA : Bd a) (hl : bs.length ≤ 140737488351232) (hbs : ∀ c ∈ bs, c < 256) :
    AC Try.prog 4 [.a (cellsA a), .d (dB bs)] [] fun r L' => r = .b true ∧ L' = [] := by
  have hsa := small_a a hA
  have hw := awake_a
  refine ac_body _ Try.func4 rfl Try.ntmps4 Try.results4 rfl ?_
  refine aw_seq (aw_region ?_)
  refine aos_cons rfl (aop_box_a rfl rfl rfl rfl ?_)
  intro b2
  show AOs _ _ _ _ ((_, _) :: _) (_ :: _) _
  (repeat (first | refine aos_nil ?_ | ((refine aos_cons rfl ?_); (first | refine qd rfl rfl ?_ | refine gla rfl rfl rfl (by repeat first | exact .z | apply At.s) (by rfl) ?_); show AOs _ _ _ _ ((_, _) :: _) _ _) | refine aw_seq ?_ | refine aw_region ?_))
  (refine aos_cons rfl ?_); refine aop_call0 rfl rfl rfl (fun _ _ => by kernel_rfl) (hsa) (.refl _) ?_; show AOs _ _ _ _ ((_, _) :: _) _ _
  cases h1 : smallA a 60 1000
  · (repeat (first | refine aos_no rfl rfl rfl rfl rfl ?_ | ((first | refine aos_cons rfl ?_ | refine aos_yes rfl rfl rfl ?_); (refine qd rfl rfl ?_); show AOs _ _ _ _ ((_, _) :: _) _ _)))
    (refine aos_yes rfl rfl rfl ?_); refine aop_call0 rfl rfl rfl (fun _ _ => by kernel_rfl) (hw) (.refl _) ?_; show AOs _ _ _ _ ((_, _) :: _) _ _
    (repeat (first | refine aos_nil ?_ | ((refine aos_cons rfl ?_); (refine qd rfl rfl ?_); show AOs _ _ _ _ ((_, _) :: _) _ _) | refine aw_ret ?_))
    exact fpost0 (.inr rfl) (res_tmp 4) rfl
  · (repeat (((first | refine aos_cons rfl ?_ | refine aos_yes rfl rfl rfl ?_); (first | refine qd rfl rfl ?_ | refine gc rfl rfl rfl rfl rfl _ (by first | assumption | rfl) ?_ | refine gn0 rfl rfl rfl ?_); show AOs _ _ _ _ ((_, _) :: _) _ _)))
    cases h3 : decide ((60 : Int) < (bs.length : Int))
    · have h4 : bs.length ≤ 60 := by simp at h3; omega
      have hst := runs_a a bs (small_smR h1) hbs (by omega)
      (repeat (first | ((first | refine aos_cons rfl ?_ | refine aos_yes rfl rfl rfl ?_); refine aop_call0 rfl rfl rfl (fun _ _ => by kernel_rfl) (hst) (.refl _) ?_; show AOs _ _ _ _ ((_, _) :: _) _ _) | ((first | refine aos_cons rfl ?_ | refine aos_yes rfl rfl rfl ?_); refine aop_call0 rfl rfl rfl (fun _ _ => by kernel_rfl) (hw) (.refl _) ?_; show AOs _ _ _ _ ((_, _) :: _) _ _) | refine aos_nil ?_ | ((first | refine aos_cons rfl ?_ | refine aos_yes rfl rfl rfl ?_); (first | refine qd rfl rfl ?_ | refine gla rfl rfl rfl (by repeat first | exact .z | apply At.s) (by rfl) ?_); show AOs _ _ _ _ ((_, _) :: _) _ _) | refine aw_ret ?_))
      exact fpost0 (.inr rfl) (res_tmp 4) rfl
    · (repeat (first | refine aos_no rfl rfl rfl rfl rfl ?_ | ((first | refine aos_cons rfl ?_ | refine aos_yes rfl rfl rfl ?_); (refine qd rfl rfl ?_); show AOs _ _ _ _ ((_, _) :: _) _ _)))
      (refine aos_yes rfl rfl rfl ?_); refine aop_call0 rfl rfl rfl (fun _ _ => by kernel_rfl) (hw) (.refl _) ?_; show AOs _ _ _ _ ((_, _) :: _) _ _
      (repeat (first | refine aos_nil ?_ | ((refine aos_cons rfl ?_); (refine qd rfl rfl ?_); show AOs _ _ _ _ ((_, _) :: _) _ _) | refine aw_ret ?_))
      exact fpost0 (.inr rfl) (res_tmp 4) rfl
end Go.Proofs.Ytlagablcopmhkaa
namespace Go.Proofs.Ytlagablcopmhkaa.nfaRuns
open Go.RowKit Go.ChangeShapes Go.WideShapes Go.ChangeAt

theorem own : ownKnob Try.prog.godebug = none := by kernel_rfl
theorem ac_true {f : FuncId} {args : List V} (h : AC Try.prog f args [] fun r L' => r = .b true ∧ L' = []) {W : World} {vs : List Value} (hr : RL W (fun b => b < W.heap.size) args vs) :
    Calls Try.prog f vs.toArray W fun e W' => e = .returned (.bool true) ∧ Below W.heap.size W W' := by
  refine (h W _ vs (.start W) hr).mono ?_
  rintro e W' ⟨v, c, S', L', rfl, ⟨rfl, rfl⟩, hv, _, hf⟩
  rw [hv.unv]
  exact ⟨rfl, hf.os, hf.tape, hf.output, hf.size, fun b hb => hf.same b hb inL_nil⟩

set_option maxRecDepth 100000 in
theorem lifted (os : Os) (started : os.Started) (H : Type) (enc : TypeId × Value → H) :
    ReturnsInHanded {} Try.checked os 4 .any (Rows.nfaRunsSpec.pre6 enc Try.prog Try.f4 Rows.nfaRunsRow.domain false) (Rows.nfaRunsSpec.post enc Try.prog Try.f4 false true false false) := by
  refine returnsInHanded_of_change_sized (C := Try.checked) own started (by kernel_rfl) Try.func4
    (ChangeSpec.witness6 (enc := enc) (C := Try.checked) false ⟨#[], #[.agg #[.slice none 0 0, .slice none 0 0, .slice none 0 0, .slice none 0 0, .bool false], .slice none 0 0], []⟩ 8 (by kernel_rfl) (by kernel_rfl) (by kernel_rfl) (by kernel_rfl)) ?_
  intro W base args ds gs before hval0 hW _ hsz _
  have hval : ∀ (j : Nat) t v, Try.f4.params[j]? = some t → args[j]? = some v → Value.okWide Try.prog W .any base t v := hval0
  have hW' := hW
  obtain ⟨p, q, hA0, hV, rfl, hfz, hnd⟩ := hW
  have hA : DataW.TrodAll enc Try.prog W 0 (fun _ => true) true Try.f4.params.toList args.toList ds p := hA0
  have hsz1 : ∀ n ∈ DataW.weightsEach Try.prog (Try.f4.params.toList ++ Rows.nfaRunsSpec.plain.varTypes Try.prog) (ds ++ gs), n ≤ reachBytes := fun n hn => by simpa using List.all_eq_true.1 hsz n hn
  rw [Try.params4] at hA hval hsz1
  obtain ⟨v0, vs0, d0, ds0, p0, q0, hargs, rfl, rfl, h0, r0⟩ := trodAll_cons hA
  obtain ⟨v1, vs1, d1, ds1, p1, q1, rfl, rfl, rfl, h1, r1⟩ := trodAll_cons r0
  obtain ⟨rfl, rfl, rfl⟩ := trodAll_nil r1
  obtain rfl : args = #[v0, v1] := by cases args; simp_all
  obtain ⟨rfl, rfl⟩ := trodVars_none hV
  have hwt : ∀ (j : Nat) (t : TypeId) (d : DataW H), ([26, 30] : List TypeId)[j]? = some t → [d0, d1][j]? = some d → ∀ n ∈ d.weights Try.prog t, n ≤ reachBytes := fun j t d e1 e2 n hn => hsz1 n (weights_each (by rw [List.getElem?_append_left (List.getElem?_eq_some_iff.1 e1).1]; exact e1) (by simpa using e2) n hn)
  obtain ⟨a, ba, ra⟩ := open_agg opens_auto Try.underlying26 (hval 0 _ v0 rfl rfl) h0 (hwt 0 _ _ rfl rfl)
  obtain ⟨a2, n2, c2, rfl⟩ := okWide_slice Try.underlying30 (hval 1 _ v1 rfl rfl)
  obtain ⟨l, ⟨hl1, hl2⟩, rl⟩ := open_cell (opens_bytes Try.underlying30 Try.underlying5 (by kernel_rfl) (of_decide_eq_true (by kernel_rfl))) rfl h1 (hwt 1 _ _ rfl rfl)
  refine (ac_true (nfaRuns_a a l ba hl2 hl1) (.cons ra (.cons (rl _ rfl) (.nil _ _)))).mono fun e W' ⟨he, hB⟩ => ?_
  subst he
  exact ⟨_, rfl, post_bool (tb := 4) hW' rfl rfl (by kernel_rfl) (fun t ht => by
    rw [Try.params4] at ht
    have hb : ([26, 30].all fun t => Try.prog.readableRec t && decide (t < Try.prog.types.size)) = true := by kernel_rfl
    have := List.all_eq_true.1 hb t ht
    rw [Bool.and_eq_true, decide_eq_true_eq] at this
    exact this) (by kernel_rfl) Try.underlying4 hB⟩

theorem over : Rows.nfaRunsRow.holds Try.pinned (OpenSpec.ofChange Rows.nfaRunsSpec) :=
  OpenClaim.holds_of_wide 4 Try.f4 rfl rfl rfl rfl rfl rfl rfl ⟨rfl, rfl, rfl, rfl, rfl⟩ rfl rfl rfl rfl rfl (by kernel_rfl) Try.func4 (by kernel_rfl)
    (of_decide_eq_true (by kernel_rfl)) (by unfold Func.isWrapper; first | (rw [if_pos (by decide +kernel)]; kernel_rfl) | (rw [if_neg (by decide +kernel)]; exact ⟨rfl, rfl⟩))
    (fun os started H enc _ => lifted os started H enc)

theorem proved : Rows.NfaRunsSaid := over
#print axioms proved
end Go.Proofs.Ytlagablcopmhkaa.nfaRuns
