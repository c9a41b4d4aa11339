/- Packed: AlRef2, AlSpoil, AlEq, AlSame, AlSteps -/
import Derived.Test.YtlagablcopmhkaaKRowRuns7
import Derived.Test.YtlagablcopmhkaaKRowRuns17
set_option linter.unusedVariables false
set_option linter.unusedSimpArgs false
/- The reference of layer 17 by descriptions: Check, Accepts, Step. -/
namespace Go.Proofs.Ytlagablcopmhkaa
open Go.RowKit

/-- whether a state accepts, as the reference has it -/
def acc1R (a : Auto) (p : Int) : Bool := if p < 0 then a.empty else decide (p ∈ a.last)
theorem accR_cons (a : Auto) (p : Int) (l : List Int) : (p :: l).any (acc1R a) = (acc1R a p || l.any (acc1R a)) := rfl

set_option maxRecDepth 100000 in
set_option maxHeartbeats 2000000 in
theorem acceptsR_a (a : Auto) (l : List Int) (hl : l.length ≤ 140737488355328) : AC Try.prog 49 [.a (cellsR a), .d (dI l)] [] fun r L' => r = .b (l.any (acc1R a)) ∧ L' = [] := by
  refine ac_body _ Try.func49 rfl Try.ntmps49 Try.results49 rfl ?_
  refine aw_seq (aw_region ?_)
  refine aos_cons rfl (aop_box_a rfl rfl rfl rfl ?_)
  intro b
  (repeat (first | refine aos_nil ?_ | ((refine aos_cons rfl ?_); (refine qd rfl rfl ?_); show AOs _ _ _ _ ((_, _) :: _) _ _) | refine aw_seq ?_ | refine aw_region ?_ | refine aw_block ?_))
  refine aw_for (ι := Nat) (fun k => [(1, V.d (dI l)), (2, V.ptr b 0), (5, V.i k)]) (fun _ => [.box b 79 (cellsR a)])
    (fun k => k ≤ l.length ∧ l.any (acc1R a) = (l.drop k).any (acc1R a)) (fun k => l.length - k) 0 ⟨Nat.zero_le _, rfl⟩ (.eqs rfl) ?_
  rintro k ⟨hk, hg⟩
  (repeat (first | refine aos_nil ?_ | ((refine aos_cons rfl ?_); (first | refine qd rfl rfl ?_ | refine gc rfl rfl rfl rfl rfl _ (by first | assumption | rfl) ?_ | refine gn0 rfl rfl rfl ?_); show AOs _ _ _ _ ((_, _) :: _) _ _) | refine aw_seq ?_ | refine aw_region ?_))
  by_cases hlt : k < l.length
  · have hd : decide ((k : Int) < (l.length : Int)) = true := by simp; omega
    rw [hd]
    obtain ⟨x, hx⟩ := some_at hlt
    rw [drop_cons hx, accR_cons] at hg
    cases h0 : decide (x < 0)
    · have h1 : decide (0 ≤ x) = true := by simp at h0 ⊢; omega
      have hh := hasR_a a.last x
      have e1 : acc1R a x = decide (x ∈ a.last) := by simp at h0; rw [acc1R, if_neg (by omega)]
      cases h2 : decide (x ∈ a.last)
      all_goals
        rw [h2] at hh e1
        rw [e1] at hg
        (repeat (first | refine aw_seq ?_ | refine aw_block ?_ | refine aw_skip ?_ | refine aw_cond true rfl ?_))
        refine aw_drawH 25 [12, 13, 14, 15, 16, 17, 18, 19, 20, 21, 22, 23, 24, 25, 26, 27, 28, 29, 30, 31, 32, 33, 34, 35, 36] (by kernel_rfl) (by kernel_rfl) rfl (by kernel_rfl) ?_; refine drawh_q [] rfl rfl rfl (by kernel_rfl) (aq_plain rfl (by exact qd rfl rfl ⟨rfl, rfl⟩)) ?_; refine drawh_q [] rfl rfl rfl (by kernel_rfl) (aq_plain rfl (by exact qd rfl rfl ⟨rfl, rfl⟩)) ?_; refine drawh_q [12, 13] rfl rfl rfl (by kernel_rfl) (aq_plain rfl (by exact aop_index rfl rfl rfl rfl _ rfl (by omega) ⟨rfl, rfl⟩)) ?_; refine drawh_q [14] rfl rfl rfl (by kernel_rfl) (aq_plain rfl (by exact aop_load_e rfl rfl rfl (dI_at hx) ⟨rfl, rfl⟩)) ?_; refine drawh_q [15] rfl rfl rfl (by kernel_rfl) (aq_plain rfl (by exact gc rfl rfl rfl rfl rfl _ (by assumption) ⟨rfl, rfl⟩)) ?_; refine drawh_q [16] rfl rfl rfl (by kernel_rfl) (aq_plain rfl (by exact qd rfl rfl ⟨rfl, rfl⟩)) ?_; refine drawh_q [17] rfl rfl rfl (by kernel_rfl) (by exact aq_no rfl rfl rfl rfl rfl) ?_; refine drawh_q [17, 18] rfl rfl rfl (by kernel_rfl) (by exact aq_no rfl rfl rfl rfl rfl) ?_; refine drawh_q [17, 19] rfl rfl rfl (by kernel_rfl) (aq_plain rfl (by exact qd rfl rfl ⟨rfl, rfl⟩)) ?_; refine drawh_q [17, 20] rfl rfl rfl (by kernel_rfl) (aq_plain rfl (by exact qd rfl rfl ⟨rfl, rfl⟩)) ?_; refine drawh_q [21] rfl rfl rfl (by kernel_rfl) (by exact aq_yes rfl rfl rfl (qd rfl rfl ⟨rfl, rfl⟩)) ?_; refine drawh_q [21] rfl rfl rfl (by kernel_rfl) (by exact aq_yes rfl rfl rfl (qd rfl rfl ⟨rfl, rfl⟩)) ?_; refine drawh_q [21, 22, 23] rfl rfl rfl (by kernel_rfl) (by exact aq_yes rfl rfl rfl (aop_index rfl rfl rfl rfl _ rfl (by omega) ⟨rfl, rfl⟩)) ?_; refine drawh_q [21, 24] rfl rfl rfl (by kernel_rfl) (by exact aq_yes rfl rfl rfl (aop_load_e rfl rfl rfl (dI_at hx) ⟨rfl, rfl⟩)) ?_; refine drawh_q [21, 25] rfl rfl rfl (by kernel_rfl) (by exact aq_yes rfl rfl rfl (gc rfl rfl rfl rfl rfl _ (by assumption) ⟨rfl, rfl⟩)) ?_; refine drawh_q [21, 26] rfl rfl rfl (by kernel_rfl) (by exact aq_yes rfl rfl rfl (qd rfl rfl ⟨rfl, rfl⟩)) ?_; refine drawh_q [27] rfl rfl rfl (by kernel_rfl) (by exact aq_yes rfl rfl rfl (aop_fieldAddr rfl rfl rfl ⟨rfl, rfl⟩)) ?_; refine drawh_q [27, 28] rfl rfl rfl (by kernel_rfl) (by exact aq_yes rfl rfl rfl (gl rfl rfl rfl (by repeat first | exact .z | apply At.s) (by rfl) ⟨rfl, rfl⟩)) ?_; refine drawh_q [27] rfl rfl rfl (by kernel_rfl) (by exact aq_yes rfl rfl rfl (qd rfl rfl ⟨rfl, rfl⟩)) ?_; refine drawh_q [27] rfl rfl rfl (by kernel_rfl) (by exact aq_yes rfl rfl rfl (qd rfl rfl ⟨rfl, rfl⟩)) ?_; refine drawh_q [27, 30, 31] rfl rfl rfl (by kernel_rfl) (by exact aq_yes rfl rfl rfl (aop_index rfl rfl rfl rfl _ rfl (by omega) ⟨rfl, rfl⟩)) ?_; refine drawh_q [27, 32] rfl rfl rfl (by kernel_rfl) (by exact aq_yes rfl rfl rfl (aop_load_e rfl rfl rfl (dI_at hx) ⟨rfl, rfl⟩)) ?_; refine drawh_q [27, 29, 33] rfl rfl rfl (by kernel_rfl) (by exact aq_yes rfl rfl rfl (aop_call0 rfl rfl rfl (fun _ _ => by kernel_rfl) (hh) (.refl _) ⟨rfl, rfl⟩)) ?_; refine drawh_q [21, 27, 34] rfl rfl rfl (by kernel_rfl) (by exact aq_yes rfl rfl rfl (qd rfl rfl ⟨rfl, rfl⟩)) ?_; refine drawh_q [21, 35] rfl rfl rfl (by kernel_rfl) (aq_plain rfl (by exact qd rfl rfl ⟨rfl, rfl⟩)) ?_; refine drawh_nil (.refl _) ?_; intro β
        (repeat (first | refine aos_nil ?_ | ((refine aos_cons rfl ?_); (first | refine qd rfl rfl ?_ | refine ga rfl rfl rfl rfl rfl (by omega) (by omega) ?_); show AOs _ _ _ _ ((_, _) :: _) _ _) | refine aw_seq ?_ | refine aw_region ?_ | refine aw_skip ?_ | refine aw_ret ?_ | refine aw_cond true rfl ?_ | refine aw_cond false rfl ?_))
        first
          | exact fpost0 (.inr rfl) (res_tmp 4) (by show V.b _ = V.b _; rw [hg]; rfl)
          | exact ⟨k + 1, ⟨by omega, by rw [hg]; rfl⟩, by omega, .eqs rfl⟩
    · have h1 : decide (0 ≤ x) = false := by simp at h0 ⊢; omega
      have e1 : acc1R a x = a.empty := by simp at h0; rw [acc1R, if_pos (by omega)]
      obtain ⟨as', af, ai, al, ae⟩ := a
      cases ae
      all_goals
        rw [e1] at hg
        (repeat (first | refine aw_seq ?_ | refine aw_block ?_ | refine aw_skip ?_ | refine aw_cond true rfl ?_))
        refine aw_drawH 25 [12, 13, 14, 15, 16, 17, 18, 19, 20, 21, 22, 23, 24, 25, 26, 27, 28, 29, 30, 31, 32, 33, 34, 35, 36] (by kernel_rfl) (by kernel_rfl) rfl (by kernel_rfl) ?_; refine drawh_q [] rfl rfl rfl (by kernel_rfl) (aq_plain rfl (by exact qd rfl rfl ⟨rfl, rfl⟩)) ?_; refine drawh_q [] rfl rfl rfl (by kernel_rfl) (aq_plain rfl (by exact qd rfl rfl ⟨rfl, rfl⟩)) ?_; refine drawh_q [12, 13] rfl rfl rfl (by kernel_rfl) (aq_plain rfl (by exact aop_index rfl rfl rfl rfl _ rfl (by omega) ⟨rfl, rfl⟩)) ?_; refine drawh_q [14] rfl rfl rfl (by kernel_rfl) (aq_plain rfl (by exact aop_load_e rfl rfl rfl (dI_at hx) ⟨rfl, rfl⟩)) ?_; refine drawh_q [15] rfl rfl rfl (by kernel_rfl) (aq_plain rfl (by exact gc rfl rfl rfl rfl rfl _ (by assumption) ⟨rfl, rfl⟩)) ?_; refine drawh_q [16] rfl rfl rfl (by kernel_rfl) (aq_plain rfl (by exact qd rfl rfl ⟨rfl, rfl⟩)) ?_; refine drawh_q [17] rfl rfl rfl (by kernel_rfl) (by exact aq_yes rfl rfl rfl (aop_fieldAddr rfl rfl rfl ⟨rfl, rfl⟩)) ?_; refine drawh_q [17, 18] rfl rfl rfl (by kernel_rfl) (by exact aq_yes rfl rfl rfl (gl rfl rfl rfl (by repeat first | exact .z | apply At.s) (by rfl) ⟨rfl, rfl⟩)) ?_; refine drawh_q [17, 19] rfl rfl rfl (by kernel_rfl) (aq_plain rfl (by exact qd rfl rfl ⟨rfl, rfl⟩)) ?_; refine drawh_q [17, 20] rfl rfl rfl (by kernel_rfl) (aq_plain rfl (by exact qd rfl rfl ⟨rfl, rfl⟩)) ?_; refine drawh_q [21] rfl rfl rfl (by kernel_rfl) (by first | exact aq_no rfl rfl rfl rfl rfl | exact aq_yes rfl rfl rfl (qd rfl rfl ⟨rfl, rfl⟩)) ?_; refine drawh_q [21] rfl rfl rfl (by kernel_rfl) (by first | exact aq_no rfl rfl rfl rfl rfl | exact aq_yes rfl rfl rfl (qd rfl rfl ⟨rfl, rfl⟩)) ?_; refine drawh_q [21, 22, 23] rfl rfl rfl (by kernel_rfl) (by first | exact aq_no rfl rfl rfl rfl rfl | exact aq_yes rfl rfl rfl (aop_index rfl rfl rfl rfl _ rfl (by omega) ⟨rfl, rfl⟩)) ?_; refine drawh_q [21, 24] rfl rfl rfl (by kernel_rfl) (by first | exact aq_no rfl rfl rfl rfl rfl | exact aq_yes rfl rfl rfl (aop_load_e rfl rfl rfl (dI_at hx) ⟨rfl, rfl⟩)) ?_; refine drawh_q [21, 25] rfl rfl rfl (by kernel_rfl) (by first | exact aq_no rfl rfl rfl rfl rfl | exact aq_yes rfl rfl rfl (gc rfl rfl rfl rfl rfl _ (by assumption) ⟨rfl, rfl⟩)) ?_; refine drawh_q [21, 26] rfl rfl rfl (by kernel_rfl) (by first | exact aq_no rfl rfl rfl rfl rfl | exact aq_yes rfl rfl rfl (qd rfl rfl ⟨rfl, rfl⟩)) ?_; refine drawh_q [27] rfl rfl rfl (by kernel_rfl) (by first | exact aq_no rfl rfl rfl rfl rfl | exact aq_un rfl rfl rfl rfl) ?_; refine drawh_q [27, 28] rfl rfl rfl (by kernel_rfl) (by first | exact aq_no rfl rfl rfl rfl rfl | exact aq_un rfl rfl rfl rfl) ?_; refine drawh_q [27] rfl rfl rfl (by kernel_rfl) (by first | exact aq_no rfl rfl rfl rfl rfl | exact aq_un rfl rfl rfl rfl) ?_; refine drawh_q [27] rfl rfl rfl (by kernel_rfl) (by first | exact aq_no rfl rfl rfl rfl rfl | exact aq_un rfl rfl rfl rfl) ?_; refine drawh_q [27, 30, 31] rfl rfl rfl (by kernel_rfl) (by first | exact aq_no rfl rfl rfl rfl rfl | exact aq_un rfl rfl rfl rfl) ?_; refine drawh_q [27, 32] rfl rfl rfl (by kernel_rfl) (by first | exact aq_no rfl rfl rfl rfl rfl | exact aq_un rfl rfl rfl rfl) ?_; refine drawh_q [27, 29, 33] rfl rfl rfl (by kernel_rfl) (by first | exact aq_no rfl rfl rfl rfl rfl | exact aq_un rfl rfl rfl rfl) ?_; refine drawh_q [21, 27, 34] rfl rfl rfl (by kernel_rfl) (by first | exact aq_no rfl rfl rfl rfl rfl | exact aq_yes rfl rfl rfl (qd rfl rfl ⟨rfl, rfl⟩)) ?_; refine drawh_q [21, 35] rfl rfl rfl (by kernel_rfl) (aq_plain rfl (by exact qd rfl rfl ⟨rfl, rfl⟩)) ?_; refine drawh_nil (.refl _) ?_; intro β
        (repeat (first | refine aos_nil ?_ | ((refine aos_cons rfl ?_); (first | refine qd rfl rfl ?_ | refine ga rfl rfl rfl rfl rfl (by omega) (by omega) ?_); show AOs _ _ _ _ ((_, _) :: _) _ _) | refine aw_seq ?_ | refine aw_region ?_ | refine aw_skip ?_ | refine aw_ret ?_ | refine aw_cond true rfl ?_ | refine aw_cond false rfl ?_))
        first
          | exact fpost0 (.inr rfl) (res_tmp 4) (by show V.b _ = V.b _; rw [hg]; rfl)
          | exact ⟨k + 1, ⟨by omega, by rw [hg]; rfl⟩, by omega, .eqs rfl⟩
  · have hd : decide ((k : Int) < (l.length : Int)) = false := by simp; omega
    rw [hd]
    (repeat (first | refine aos_nil ?_ | ((refine aos_cons rfl ?_); (refine qd rfl rfl ?_); show AOs _ _ _ _ ((_, _) :: _) _ _) | refine aw_seq ?_ | refine aw_region ?_ | refine aw_exit ?_ | refine aw_ret ?_ | refine aw_cond false rfl ?_))
    exact fpost0 (.inr rfl) (res_tmp 4) (by show V.b _ = V.b _; rw [hg, List.drop_of_length_le (by omega)]; rfl)

/-- the numbers of a set, 0 or 1 for each, as cells -/
def flagsV (m n : Nat) : List V := (flags m n).map V.i
theorem flagsV_zero (n : Nat) : List.replicate n (V.v (.int .i64 0)) = flagsV 0 n := by
  apply List.ext_getElem?
  intro i
  simp only [flagsV, flags, List.getElem?_map, List.getElem?_replicate]
  by_cases h : i < n
  · simp [h]
  · simp [h]
theorem flagsV_length (m n : Nat) : (flagsV m n).length = n := by simp [flagsV, flags_length]
theorem flagsV_set (m n q : Nat) (hq : q < n) : (flagsV m n).set q (V.i 1) = flagsV (m ||| 2 ^ q) n := by
  apply List.ext_getElem?
  intro i
  rw [List.getElem?_set]
  by_cases hi : i < n
  · simp only [flagsV, List.getElem?_map, flags_at _ _ _ hi, Option.map_some]
    by_cases e : q = i
    · subst e; simp [flags_length, hi, Nat.testBit_or, Nat.testBit_two_pow]
    · simp [e, Nat.testBit_or, Nat.testBit_two_pow]
  · have : (flagsV (m ||| 2 ^ q) n)[i]? = none := by rw [List.getElem?_eq_none_iff, flagsV_length]; omega
    rw [this, if_neg (by omega)]
    rw [List.getElem?_eq_none_iff, flagsV_length]; omega
theorem flagsV_toD (m n : Nat) : (flagsV m n).map V.toD = (flags m n).map fun x => D.v (.int .i64 x) := by simp [flagsV, V.toD, Function.comp_def]
theorem flagsV_isD (m n : Nat) : (flagsV m n).all V.isD = true := by simp [flagsV, V.isD]

theorem wbit_if (s : BitVec 256) (c : Nat) : decide (wbit s c = 1) = inSet s c := by unfold wbit; cases inSet s c <;> simp
theorem setsWL_bit {l : List (BitVec 256)} {k : Nat} {s : BitVec 256} (h : l[k]? = some s) (c : Nat) (hc : c < 256) : ((setsWL l).map D.v)[k * 256 + c * 1]? = some (.v (.int .i64 (wbit s c))) := by
  have h1 := setsWL_at h
  have h2 : ((setsWL l).drop (k * 256))[c]? = (wordsL s 256)[c]? := by rw [← h1, List.getElem?_take, if_pos hc]
  rw [List.getElem?_drop] at h2
  rw [Nat.mul_one, List.getElem?_map, h2]
  simp [wordsL, hc]

theorem upTo_eq (m n : Nat) : ∀ N, (∀ t, m.testBit t = true → t < n) → n ≤ N → upTo m N = upTo m n := by
  intro N h hn
  obtain ⟨d, rfl⟩ := Nat.exists_eq_add_of_le hn
  clear hn
  induction d with
  | zero => rfl
  | succ d ih =>
    rw [← Nat.add_assoc, upTo_succ, ih]
    cases hb : m.testBit (n + d) with
    | true => have := h _ hb; omega
    | false => simp
theorem stepIn_bits (a : Auto) (c n : Nat) : ∀ (fr : List Int) (m : Nat), (∀ q ∈ fr, 0 ≤ q ∧ q < (n : Int)) → (∀ t, m.testBit t = true → t < n) → ∀ t, (stepIn a c fr m).testBit t = true → t < n
  | [], m, _, hm => hm
  | q :: fr, m, hf, hm => by
    rw [stepIn]
    refine stepIn_bits a c n fr _ (fun q hq => hf q (by simp [hq])) fun t ht => ?_
    have hq := hf q (by simp)
    split at ht
    · rw [Nat.testBit_or, Nat.testBit_two_pow] at ht
      simp at ht
      rcases ht with ht | ht
      · exact hm t ht
      · omega
    · exact hm t ht
theorem fromA_in {a : Auto} (hP : RightP a) (p : Int) : ∀ q ∈ fromA a p, 0 ≤ q ∧ q < (a.sets.length : Int) := by
  unfold fromA
  split
  · exact hP.first
  · rw [List.getD_eq_getElem?_getD]
    cases hf : a.follow[p.toNat]? with
    | none => simp
    | some f => exact hP.each f (List.mem_of_getElem? hf)
theorem stepOut_bits (a : Auto) (c : Nat) (hP : RightP a) : ∀ (l : List Int) (m : Nat), (∀ p ∈ l, -1 ≤ p ∧ p < (a.sets.length : Int)) → (∀ t, m.testBit t = true → t < a.sets.length) → ∀ t, (stepOut a c l m).testBit t = true → t < a.sets.length
  | [], m, _, hm => hm
  | p :: l, m, hl, hm => by
    rw [stepOut]
    exact stepOut_bits a c hP l _ (fun q hq => hl q (by simp [hq])) (stepIn_bits a c _ _ m (fromA_in hP p) hm)

set_option maxRecDepth 100000 in
set_option maxHeartbeats 4000000 in
theorem stepRef_a (a : Auto) (l : List Int) (c : Nat) (hB : Bd a) (hP : RightP a) (hll : l.length ≤ 140737488355328) (hl : ∀ p ∈ l, -1 ≤ p ∧ p < a.sets.length) (hc : c < 256) :
    AC Try.prog 48 [.a (cellsR a), .d (dI l), .v (.int .u8 c)] [] fun r L' => r = .d (dI (stepA a l c)) ∧ L' = [] := by
  obtain ⟨b1, b2, b3, b4, b5⟩ := hB
  have hP0 := hP
  obtain ⟨p1, p2, p3, p4, p5⟩ := hP
  refine ac_body _ Try.func48 rfl Try.ntmps48 Try.results48 rfl ?_
  refine aw_seq (aw_region ?_)
  refine aos_cons rfl (aop_box_a rfl rfl rfl rfl ?_)
  intro b
  (repeat (first | refine aos_nil ?_ | ((refine aos_cons rfl ?_); (first | refine qd rfl rfl ?_ | refine gl rfl rfl rfl (by repeat first | exact .z | apply At.s) (by rfl) ?_ | refine aop_fieldAddr rfl rfl rfl ?_ | refine gn0 rfl rfl rfl ?_); show AOs _ _ _ _ ((_, _) :: _) _ _) | refine aw_seq ?_ | refine aw_region ?_))
  refine aos_cons rfl (aop_make rfl rfl rfl rfl a.sets.length rfl rfl (by omega) (by omega) ?_)
  intro v hv
  rw [flagsV_zero]
  (repeat (first | refine aos_nil ?_ | ((refine aos_cons rfl ?_); (refine qd rfl rfl ?_); show AOs _ _ _ _ ((_, _) :: _) _ _) | refine aw_seq ?_ | refine aw_region ?_ | refine aw_block ?_))
  refine aw_for (ι := Nat × Nat) (fun i => [(1, V.d (dI l)), (2, V.v (.int .u8 c)), (3, V.ptr b 0), (7, V.v v), (8, V.i i.1)]) (fun i => [.row v 3 1 a.sets.length (flagsV i.2 a.sets.length), .box b 79 (cellsR a)])
    (fun i => i.1 ≤ l.length ∧ stepOut a c l 0 = stepOut a c (l.drop i.1) i.2) (fun i => l.length - i.1) (0, 0) ⟨Nat.zero_le _, rfl⟩ (.eqs rfl) ?_
  rintro ⟨k, m⟩ ⟨hk, hg⟩
  simp only at hk hg
  (repeat (first | refine aos_nil ?_ | ((refine aos_cons rfl ?_); (first | refine qd rfl rfl ?_ | refine gc rfl rfl rfl rfl rfl _ (by rfl) ?_ | refine gn0 rfl rfl rfl ?_); show AOs _ _ _ _ ((_, _) :: _) _ _) | refine aw_seq ?_ | refine aw_region ?_))
  by_cases hlt : k < l.length
  · have hd : decide ((k : Int) < (l.length : Int)) = true := by simp; omega
    obtain ⟨x, hx⟩ := some_at hlt
    have hxb := hl x (List.mem_of_getElem? hx)
    rw [drop_cons hx, stepOut] at hg
    rw [hd]
    (repeat (first | refine aos_nil ?_ | ((refine aos_cons rfl ?_); (first | refine qd rfl rfl ?_ | refine gl rfl rfl rfl (by repeat first | exact .z | apply At.s) (by rfl) ?_ | refine aop_fieldAddr rfl rfl rfl ?_ | refine aop_index rfl rfl rfl rfl _ rfl (by omega) ?_); show AOs _ _ _ _ ((_, _) :: _) _ _) | refine aw_seq ?_ | refine aw_region ?_ | refine aw_block ?_ | refine aw_skip ?_ | refine aw_cond true rfl ?_))
    (refine aos_cons rfl ?_); refine aop_load_e rfl rfl rfl (dI_at hx) ?_; show AOs _ _ _ _ ((_, _) :: _) _ _
    refine aos_cons rfl (aop_geq rfl rfl rfl rfl _ rfl ?_)
    refine aos_nil ?_
    -- the list that is gone through
    obtain ⟨fr, hfr⟩ : ∃ fr, fr = fromA a x := ⟨_, rfl⟩
    rw [← hfr] at hg
    have hfl : fr.length ≤ 140737488355328 ∧ ∀ q ∈ fr, 0 ≤ q ∧ q < a.sets.length := by
      rw [hfr, fromA]
      by_cases h1 : x = -1
      · rw [if_pos h1]; exact ⟨b3, p3⟩
      · rw [if_neg h1]
        cases hf : a.follow[x.toNat]? with
        | none => simp [List.getD_eq_getElem?_getD, hf]
        | some f => simp only [List.getD_eq_getElem?_getD, hf, Option.getD_some]; exact ⟨b5 f (List.mem_of_getElem? hf), p5 f (List.mem_of_getElem? hf)⟩
    obtain ⟨hf1, hf2⟩ := hfl
    refine aw_meet (ι := Unit) (fun _ => [(1, V.d (dI l)), (2, V.v (.int .u8 c)), (3, V.ptr b 0), (7, V.v v), (8, V.i k), (9, V.d (dI fr))]) (fun _ => [.row v 3 1 a.sets.length (flagsV m a.sets.length), .box b 79 (cellsR a)]) (fun _ => True) ?_ ?_
    · by_cases hx1 : x = -1
      · have h0 : decide (0 ≤ x) = false := by simp; omega
        have e1 : fr = a.first := by rw [hfr, fromA, if_pos hx1]
        rw [h0]
        (repeat (first | refine aw_skip ?_ | refine aw_cond false rfl ?_))
        exact ⟨(), trivial, .eqs (by rw [e1]; rfl)⟩
      · have h0 : decide (0 ≤ x) = true := by simp; omega
        obtain ⟨j, hj⟩ := Int.eq_ofNat_of_zero_le (show 0 ≤ x by omega)
        obtain ⟨f, hf⟩ := some_at (show j < a.follow.length by omega)
        have e1 : fr = f := by rw [hfr, fromA, if_neg hx1, hj]; simp [hf]
        rw [h0]
        (repeat (refine aw_cond true rfl ?_))
        refine aw_drawH 9 [28, 29, 30, 31, 32, 33, 34, 35, 9] (by kernel_rfl) (by kernel_rfl) rfl (by kernel_rfl) ?_; refine drawh_q [] rfl rfl rfl (by kernel_rfl) (aq_plain rfl (by exact aop_fieldAddr rfl rfl rfl ⟨rfl, rfl⟩)) ?_; refine drawh_q [28] rfl rfl rfl (by kernel_rfl) (aq_plain rfl (by exact gl rfl rfl rfl (by repeat first | exact .z | apply At.s) (by rfl) ⟨rfl, rfl⟩)) ?_; refine drawh_q [] rfl rfl rfl (by kernel_rfl) (aq_plain rfl (by exact qd rfl rfl ⟨rfl, rfl⟩)) ?_; refine drawh_q [] rfl rfl rfl (by kernel_rfl) (aq_plain rfl (by exact qd rfl rfl ⟨rfl, rfl⟩)) ?_; refine drawh_q [30, 31] rfl rfl rfl (by kernel_rfl) (aq_plain rfl (by exact aop_index rfl rfl rfl rfl _ rfl (by omega) ⟨rfl, rfl⟩)) ?_; refine drawh_q [32] rfl rfl rfl (by kernel_rfl) (aq_plain rfl (by exact aop_load_e rfl rfl rfl (dI_at hx) ⟨rfl, rfl⟩)) ?_; refine drawh_q [29, 33] rfl rfl rfl (by kernel_rfl) (aq_plain rfl (by exact aop_index rfl rfl rfl rfl j hj (by omega) ⟨rfl, rfl⟩)) ?_; refine drawh_q [34] rfl rfl rfl (by kernel_rfl) (aq_plain rfl (by exact aop_load_e rfl rfl rfl (dL_at hf) ⟨rfl, rfl⟩)) ?_; refine drawh_q [28, 29, 30, 31, 32, 33, 34, 35] rfl rfl rfl (by kernel_rfl) (aq_plain rfl (by exact qd rfl rfl ⟨rfl, rfl⟩)) ?_; refine drawh_nil (.refl _) ?_; intro β
        (repeat (refine aos_nil ?_))
        exact ⟨(), trivial, .eqs (by rw [e1]; rfl)⟩
    · rintro ⟨⟩ _
      (repeat (first | refine aos_nil ?_ | ((refine aos_cons rfl ?_); (refine qd rfl rfl ?_); show AOs _ _ _ _ ((_, _) :: _) _ _) | refine aw_seq ?_ | refine aw_region ?_ | refine aw_block ?_))
      refine aw_for (ι := Nat × Nat) (fun i => [(1, V.d (dI l)), (2, V.v (.int .u8 c)), (3, V.ptr b 0), (7, V.v v), (8, V.i k), (9, V.d (dI fr)), (10, V.i i.1)]) (fun i => [.row v 3 1 a.sets.length (flagsV i.2 a.sets.length), .box b 79 (cellsR a)])
        (fun i => i.1 ≤ fr.length ∧ stepIn a c fr m = stepIn a c (fr.drop i.1) i.2) (fun i => fr.length - i.1) (0, m) ⟨Nat.zero_le _, rfl⟩ (.eqs rfl) ?_
      rintro ⟨j, m2⟩ ⟨hj, hg2⟩
      simp only at hj hg2
      by_cases hlt2 : j < fr.length
      · have hd2 : decide ((j : Int) < (fr.length : Int)) = true := by simp; omega
        obtain ⟨y, hy⟩ := some_at hlt2
        have hyb := hf2 y (List.mem_of_getElem? hy)
        obtain ⟨q, hq⟩ := Int.eq_ofNat_of_zero_le hyb.1
        obtain ⟨s, hs⟩ := some_at (show q < a.sets.length by omega)
        have hw := wbit_if s c
        have hbit := setsWL_bit hs c hc
        have hbl : q * 256 + c * 1 < ((setsWL a.sets).map D.v).length := by simp [setsWL_length]; omega
        have hst : stepIn a c (fr.drop j) m2 = stepIn a c (fr.drop (j + 1)) (if inSet s c then m2 ||| 2 ^ q else m2) := by
          have e1 : setAt a y = s := by rw [setAt, hq]; simp [hs]
          have e2 : y.toNat = q := by omega
          rw [drop_cons hy, stepIn, e1, e2]
        (repeat (first | refine aos_nil ?_ | ((refine aos_cons rfl ?_); (first | refine qd rfl rfl ?_ | refine gc rfl rfl rfl rfl rfl _ (by assumption) ?_ | refine gn0 rfl rfl rfl ?_); show AOs _ _ _ _ ((_, _) :: _) _ _) | refine aw_seq ?_ | refine aw_region ?_ | refine aw_block ?_ | refine aw_skip ?_ | refine aw_cond true rfl ?_))
        cases hin : inSet s c
        · rw [hin] at hw hst
          refine aw_drawH 11 [42, 43, 44, 45, 46, 47, 48, 49, 50, 51, 52] (by kernel_rfl) (by kernel_rfl) rfl (by kernel_rfl) ?_; refine drawh_q [] rfl rfl rfl (by kernel_rfl) (aq_plain rfl (by exact aop_fieldAddr rfl rfl rfl ⟨rfl, rfl⟩)) ?_; refine drawh_q [42] rfl rfl rfl (by kernel_rfl) (aq_plain rfl (by exact gl rfl rfl rfl (by repeat first | exact .z | apply At.s) (by rfl) ⟨rfl, rfl⟩)) ?_; refine drawh_q [] rfl rfl rfl (by kernel_rfl) (aq_plain rfl (by exact qd rfl rfl ⟨rfl, rfl⟩)) ?_; refine drawh_q [] rfl rfl rfl (by kernel_rfl) (aq_plain rfl (by exact qd rfl rfl ⟨rfl, rfl⟩)) ?_; refine drawh_q [44, 45] rfl rfl rfl (by kernel_rfl) (aq_plain rfl (by exact aop_index rfl rfl rfl rfl _ rfl (by omega) ⟨rfl, rfl⟩)) ?_; refine drawh_q [46] rfl rfl rfl (by kernel_rfl) (aq_plain rfl (by exact aop_load_e rfl rfl rfl (dI_at hy) ⟨rfl, rfl⟩)) ?_; refine drawh_q [] rfl rfl rfl (by kernel_rfl) (aq_plain rfl (by exact qd rfl rfl ⟨rfl, rfl⟩)) ?_; refine drawh_q [43, 47] rfl rfl rfl (by kernel_rfl) (aq_plain rfl (by exact aop_index rfl rfl rfl rfl q hq (by omega) ⟨rfl, rfl⟩)) ?_; refine drawh_q [48, 49] rfl rfl rfl (by kernel_rfl) (aq_plain rfl (by exact aop_index_arr_e rfl rfl rfl rfl c rfl (by omega) hbl ⟨rfl, rfl⟩)) ?_; refine drawh_q [50] rfl rfl rfl (by kernel_rfl) (aq_plain rfl (by exact aop_load_e rfl rfl rfl hbit ⟨rfl, rfl⟩)) ?_; refine drawh_q [51] rfl rfl rfl (by kernel_rfl) (aq_plain rfl (by exact gc rfl rfl rfl rfl rfl _ (by assumption) ⟨rfl, rfl⟩)) ?_; refine drawh_nil (.refl _) ?_; intro β
          (repeat (first | refine aos_nil ?_ | ((refine aos_cons rfl ?_); (first | refine qd rfl rfl ?_ | refine ga rfl rfl rfl rfl rfl (by omega) (by omega) ?_); show AOs _ _ _ _ ((_, _) :: _) _ _) | refine aw_region ?_ | refine aw_skip ?_ | refine aw_cond false rfl ?_))
          exact ⟨(j + 1, m2), ⟨by simp only; omega, by simp only; rw [hg2, hst]; rfl⟩, by simp only; omega, .eqs rfl⟩
        · rw [hin] at hw hst
          refine aw_drawH 11 [42, 43, 44, 45, 46, 47, 48, 49, 50, 51, 52] (by kernel_rfl) (by kernel_rfl) rfl (by kernel_rfl) ?_; refine drawh_q [] rfl rfl rfl (by kernel_rfl) (aq_plain rfl (by exact aop_fieldAddr rfl rfl rfl ⟨rfl, rfl⟩)) ?_; refine drawh_q [42] rfl rfl rfl (by kernel_rfl) (aq_plain rfl (by exact gl rfl rfl rfl (by repeat first | exact .z | apply At.s) (by rfl) ⟨rfl, rfl⟩)) ?_; refine drawh_q [] rfl rfl rfl (by kernel_rfl) (aq_plain rfl (by exact qd rfl rfl ⟨rfl, rfl⟩)) ?_; refine drawh_q [] rfl rfl rfl (by kernel_rfl) (aq_plain rfl (by exact qd rfl rfl ⟨rfl, rfl⟩)) ?_; refine drawh_q [44, 45] rfl rfl rfl (by kernel_rfl) (aq_plain rfl (by exact aop_index rfl rfl rfl rfl _ rfl (by omega) ⟨rfl, rfl⟩)) ?_; refine drawh_q [46] rfl rfl rfl (by kernel_rfl) (aq_plain rfl (by exact aop_load_e rfl rfl rfl (dI_at hy) ⟨rfl, rfl⟩)) ?_; refine drawh_q [] rfl rfl rfl (by kernel_rfl) (aq_plain rfl (by exact qd rfl rfl ⟨rfl, rfl⟩)) ?_; refine drawh_q [43, 47] rfl rfl rfl (by kernel_rfl) (aq_plain rfl (by exact aop_index rfl rfl rfl rfl q hq (by omega) ⟨rfl, rfl⟩)) ?_; refine drawh_q [48, 49] rfl rfl rfl (by kernel_rfl) (aq_plain rfl (by exact aop_index_arr_e rfl rfl rfl rfl c rfl (by omega) hbl ⟨rfl, rfl⟩)) ?_; refine drawh_q [50] rfl rfl rfl (by kernel_rfl) (aq_plain rfl (by exact aop_load_e rfl rfl rfl hbit ⟨rfl, rfl⟩)) ?_; refine drawh_q [51] rfl rfl rfl (by kernel_rfl) (aq_plain rfl (by exact gc rfl rfl rfl rfl rfl _ (by assumption) ⟨rfl, rfl⟩)) ?_; refine drawh_nil (.refl _) ?_; intro β
          (repeat (first | refine aos_nil ?_ | ((refine aos_cons rfl ?_); (first | refine qd rfl rfl ?_ | refine aop_index rfl rfl rfl rfl _ rfl (by omega) ?_); show AOs _ _ _ _ ((_, _) :: _) _ _) | refine aw_region ?_ | refine aw_cond true rfl ?_))
          (refine aos_cons rfl ?_); refine aop_load_e rfl rfl rfl (dI_at hy) ?_; show AOs _ _ _ _ ((_, _) :: _) _ _
          refine aos_cons rfl (aop_index_row (j := 0) rfl rfl rfl rfl rfl q hq (by omega) ?_)
          intro g hgb
          refine aos_cons rfl (aop_store1_row (i := 0) rfl rfl rfl rfl hgb rfl (by rw [flagsV_length]; omega) rfl ?_)
          have hset : (flagsV m2 a.sets.length).set (q * 1) (V.i 1) = flagsV (m2 ||| 2 ^ q) a.sets.length := by rw [Nat.mul_one]; exact flagsV_set m2 a.sets.length q (by omega)
          (repeat (first | refine aos_nil ?_ | ((refine aos_cons rfl ?_); (first | refine qd rfl rfl ?_ | refine ga rfl rfl rfl rfl rfl (by omega) (by omega) ?_); show AOs _ _ _ _ ((_, _) :: _) _ _) | refine aw_region ?_))
          exact ⟨(j + 1, m2 ||| 2 ^ q), ⟨by simp only; omega, by simp only; rw [hg2, hst]; rfl⟩, by simp only; omega, Le.eqs' rfl (by show [Ch.row v _ 1 _ ((flagsV m2 a.sets.length).set (q * 1) (V.i 1)), _] = _; rw [hset])⟩
      · have hd2 : decide ((j : Int) < (fr.length : Int)) = false := by simp; omega
        rw [List.drop_of_length_le (show fr.length ≤ j by omega)] at hg2
        (repeat (first | refine aos_nil ?_ | ((refine aos_cons rfl ?_); (first | refine qd rfl rfl ?_ | refine gc rfl rfl rfl rfl rfl _ (by assumption) ?_ | refine ga rfl rfl rfl rfl rfl (by omega) (by omega) ?_ | refine gn0 rfl rfl rfl ?_); show AOs _ _ _ _ ((_, _) :: _) _ _) | refine aw_seq ?_ | refine aw_region ?_ | refine aw_exit ?_ | refine aw_cond false rfl ?_))
        exact ⟨(k + 1, m2), ⟨by simp only; omega, by simp only; rw [hg, hg2]; rfl⟩, by simp only; omega, .eqs rfl⟩
  · have hd : decide ((k : Int) < (l.length : Int)) = false := by simp; omega
    rw [hd]
    obtain rfl : k = l.length := by omega
    rw [List.drop_length] at hg
    (repeat (first | ((refine aos_cons rfl ?_); (refine qd rfl rfl ?_); show AOs _ _ _ _ ((_, _) :: _) _ _) | refine aw_seq ?_ | refine aw_region ?_ | refine aw_exit ?_ | refine aw_cond false rfl ?_))
    refine aos_le (.freeze 59 (j := 0) rfl rfl (flagsV_isD _ _)) ?_ rfl
    rw [flagsV_toD]
    have hlr := listR_a m a.sets.length (by omega)
    unfold dI at hlr
    rw [flags_length] at hlr
    (refine aos_cons rfl ?_); refine aop_call0 rfl rfl rfl (fun _ _ => by kernel_rfl) (hlr) (.refl _) ?_; show AOs _ _ _ _ ((_, _) :: _) _ _
    (repeat (first | refine aos_nil ?_ | ((refine aos_cons rfl ?_); (refine qd rfl rfl ?_); show AOs _ _ _ _ ((_, _) :: _) _ _) | refine aw_ret ?_))
    refine fpost0 (.inr rfl) (res_tmp 6) ?_
    show V.d (.s _ _ _) = V.d (dI _)
    have e2 : stepA a l c = ints (upTo m a.sets.length) := by
      have hm := stepOut_bits a c hP0 l 0 (fun p hp => hl p hp) (fun t h => by simp at h)
      rw [hg] at hm
      rw [stepA, hg]
      show ints (upTo m 448) = _
      rw [upTo_eq m a.sets.length 448 hm (by omega)]
    rw [e2]; rfl
end Go.Proofs.Ytlagablcopmhkaa
/- Law 17: spoil. -/
namespace Go.Proofs.Ytlagablcopmhkaa
open Go.RowKit

abbrev slV (f : Option Addr × Nat × Nat) : Value := .slice f.1 f.2.1 f.2.2

set_option maxRecDepth 100000 in
set_option maxHeartbeats 1000000 in
theorem spoil_a {A : Nat → Prop} {Φ : World → Prop} {p0 : Option Addr} {n0 c0 : Nat} {p1 : Option Addr} {n1 c1 : Nat} {p2 : Option Addr} {n2 c2 : Nat} {p3 : Option Addr} {n3 c3 : Nat} {fs : List (Option Addr × Nat × Nat)} (e : Bool) (h : SpOk A Φ p0 n0 p1 n1 c1 p2 n2 p3 n3 fs) (hn : n1 ≤ 1000000) :
    AC Try.prog 50 [.a [.v (.slice p0 n0 c0), .v (.slice p1 n1 c1), .v (.slice p2 n2 c2), .v (.slice p3 n3 c3), .b e]] [.reg A Φ] fun r L' => r = .t [] ∧ L' = [] := by
  have hlen := h.len
  have hle0 := h.le0
  have hcap := h.cap
  refine ac_body _ Try.func50 rfl Try.ntmps50 Try.results50 rfl ?_
  (repeat (first | refine aw_seq ?_ | refine aw_region ?_))
  refine aos_cons rfl (aop_box_a rfl rfl rfl rfl ?_)
  intro b
  (repeat (first | ((refine aos_cons rfl ?_); refine aop_len_ptr rfl rfl rfl ?_; show AOs _ _ _ _ ((_, _) :: _) _ _) | refine aos_nil ?_ | ((refine aos_cons rfl ?_); (first | refine qd rfl rfl ?_ | refine gl rfl rfl rfl (by repeat first | exact .z | apply At.s) (by rfl) ?_ | refine aop_fieldAddr rfl rfl rfl ?_); show AOs _ _ _ _ ((_, _) :: _) _ _) | refine aw_seq ?_ | refine aw_region ?_ | refine aw_block ?_))
  refine aw_for (ι := Nat) (fun k => [(1, V.ptr b 0), (7, V.v (.slice p0 n0 c0)), (8, V.i n0), (9, V.i k)]) (fun _ => [.box b 26 [.v (.slice p0 n0 c0), .v (.slice p1 n1 c1), .v (.slice p2 n2 c2), .v (.slice p3 n3 c3), .b e], .reg A Φ])
    (fun k => k ≤ n0) (fun k => n0 - k) 0 (Nat.zero_le _) (.eqs rfl) ?_
  · intro k hk
    (repeat (first | refine aos_nil ?_ | ((refine aos_cons rfl ?_); (refine gc rfl rfl rfl rfl rfl _ (by rfl) ?_); show AOs _ _ _ _ ((_, _) :: _) _ _) | refine aw_seq ?_ | refine aw_region ?_))
    by_cases hlt : k < n0
    · have hd : decide ((k : Int) < (n0 : Int)) = true := by simp; omega
      rw [hd]
      (repeat (first | refine aos_nil ?_ | ((refine aos_cons rfl ?_); (first | refine qd rfl rfl ?_ | refine gl rfl rfl rfl (by repeat first | exact .z | apply At.s) (by rfl) ?_ | refine aop_fieldAddr rfl rfl rfl ?_ | refine aop_build rfl rfl _ rfl ?_); show AOs _ _ _ _ ((_, _) :: _) _ _) | refine aw_seq ?_ | refine aw_region ?_ | refine aw_block ?_ | refine aw_skip ?_ | refine aw_cond true rfl ?_))
      obtain ⟨g, off, rfl, hw⟩ := h.w0 (by omega)
      (refine aos_cons rfl ?_); refine aop_index_ptr rfl rfl rfl rfl k rfl (by omega) ?_; show AOs _ _ _ _ ((_, _) :: _) _ _
      refine aos_cons rfl (aop_store_reg 1 rfl rfl rfl rfl rfl rfl rfl (fun w hΦ => ?_) ?_)
      · obtain ⟨a1, a2, a3⟩ := hw w hΦ
        refine ⟨a1, fun j hj => ?_, a3⟩
        have hj : j < 4 := hj
        have := a2 (k * 4 + j) (by omega)
        rwa [← Nat.add_assoc] at this
      (repeat (first | refine aos_nil ?_ | ((refine aos_cons rfl ?_); (first | refine qd rfl rfl ?_ | refine ga rfl rfl rfl rfl rfl (by omega) (by omega) ?_); show AOs _ _ _ _ ((_, _) :: _) _ _) | refine aw_region ?_))
      exact ⟨k + 1, by omega, by omega, .eqs rfl⟩
    · have hd : decide ((k : Int) < (n0 : Int)) = false := by simp; omega
      rw [hd]
      (repeat (first | ((refine aos_cons rfl ?_); (first | refine gl rfl rfl rfl (by repeat first | exact .z | apply At.s) (by rfl) ?_ | refine aop_fieldAddr rfl rfl rfl ?_); show AOs _ _ _ _ ((_, _) :: _) _ _) | refine aw_seq ?_ | refine aw_region ?_ | refine aw_exit ?_ | refine aw_cond false rfl ?_))
      refine aos_cons rfl (aop_buildRow rfl rfl _ rfl (by decide) (by decide) ?_)
      intro v
      (repeat (((refine aos_cons rfl ?_); (first | refine gl rfl rfl rfl (by repeat first | exact .z | apply At.s) (by rfl) ?_ | refine aop_fieldAddr rfl rfl rfl ?_); show AOs _ _ _ _ ((_, _) :: _) _ _)))
      refine aos_cons rfl (aop_append_reg (j := 0) (us := fs.map slV) 2 rfl rfl rfl rfl rfl rfl ?_ ?_ ?_ ?_ ?_ hcap.1 hcap.2 ?_)
      · rw [List.length_map, hlen]; omega
      · simp [slV, Value.oneCell']
      · omega
      · omega
      · intro w hw hne
        obtain ⟨b, off, hp, hA, hc⟩ := h.row w hw (by rintro rfl; exact hne rfl)
        refine ⟨b, off, hp, hA, fun j u hj => ?_⟩
        rw [List.getElem?_map] at hj
        cases hf : fs[j]? with
        | none => rw [hf] at hj; cases hj
        | some f => rw [hf] at hj; cases hj; exact hc j f hf
      intro v'
      have hall : ∀ f ∈ (p2, n2, c2) :: (p3, n3, c3) :: fs, Wrt A Φ 1 f.1 f.2.1 ∧ f.2.1 ≤ 140737488355328 := fun f hf => by
        rcases List.mem_cons.1 hf with rfl | hf
        · exact ⟨h.w2, h.le2⟩
        · rcases List.mem_cons.1 hf with rfl | hf
          · exact ⟨h.w3, h.le3⟩
          · exact ⟨h.wf f hf, h.lef f hf⟩
      generalize hgs : (p2, n2, c2) :: (p3, n3, c3) :: fs = gs at hall
      have hgl : gs.length = 2 + n1 := by rw [← hgs]; simp; omega
      have hcs : gs.map (fun f => V.v (slV f)) = [V.v (.slice p2 n2 c2), V.v (.slice p3 n3 c3)] ++ (fs.map slV).map V.v := by rw [← hgs]; simp
      show AOs _ _ _ _ ((_, _) :: _) (_ :: _) _
      (repeat (first | refine aos_nil ?_ | ((refine aos_cons rfl ?_); (first | refine qd rfl rfl ?_ | refine gn rfl rfl rfl (by repeat first | exact .z | apply At.s) ?_); show AOs _ _ _ _ ((_, _) :: _) _ _) | refine aw_block ?_))
      refine aw_for (ι := Nat) (fun k => [(1, V.ptr b 0), (25, V.v v'), (26, V.i ((2 + n1 : Nat) : Int)), (27, V.i k)]) (fun _ => [.row v' 24 1 (2 + n1) (gs.map fun f => V.v (slV f)), .box b 26 [.v (.slice p0 n0 c0), .v (.slice p1 n1 c1), .v (.slice p2 n2 c2), .v (.slice p3 n3 c3), .b e], .reg A Φ])
        (fun k => k ≤ 2 + n1) (fun k => 2 + n1 - k) 0 (Nat.zero_le _) (.eqs' rfl (by rw [hcs]; rfl)) ?_
      intro i hi
      (repeat (first | refine aos_nil ?_ | ((refine aos_cons rfl ?_); (refine gc rfl rfl rfl rfl rfl _ (by rfl) ?_); show AOs _ _ _ _ ((_, _) :: _) _ _) | refine aw_seq ?_ | refine aw_region ?_))
      by_cases hlt2 : i < 2 + n1
      · have hd2 : decide ((i : Int) < ((2 + n1 : Nat) : Int)) = true := by simp; omega
        rw [hd2]
        (repeat (first | refine aw_seq ?_ | refine aw_region ?_ | refine aw_block ?_ | refine aw_skip ?_ | refine aw_cond true rfl ?_))
        obtain ⟨f, hf⟩ := some_at (show i < gs.length by omega)
        obtain ⟨hw, hfl⟩ := hall f (List.mem_of_getElem? hf)
        obtain ⟨pf, nf, cf⟩ := f
        refine aos_cons rfl (aop_index_row (j := 0) rfl rfl rfl rfl rfl i rfl hlt2 ?_)
        intro g hg
        show AOs _ _ _ _ ((_, _) :: _) _ _
        (repeat (first | ((refine aos_cons rfl ?_); refine aop_load (i := 0) (c := V.v (.slice pf nf cf)) rfl rfl rfl rfl ⟨hg, rfl⟩ (by rw [Nat.mul_one, List.getElem?_map, hf]; rfl) ?_; show AOs _ _ _ _ ((_, _) :: _) _ _) | ((refine aos_cons rfl ?_); refine aop_len_ptr rfl rfl rfl ?_; show AOs _ _ _ _ ((_, _) :: _) _ _) | refine aos_nil ?_ | ((refine aos_cons rfl ?_); (refine qd rfl rfl ?_); show AOs _ _ _ _ ((_, _) :: _) _ _) | refine aw_seq ?_ | refine aw_region ?_ | refine aw_block ?_))
        refine aw_for (ι := Nat) (fun j => [(1, V.ptr b 0), (25, V.v v'), (26, V.i ((2 + n1 : Nat) : Int)), (27, V.i i), (4, V.v (.slice pf nf cf)), (32, V.i nf), (33, V.i j)]) (fun _ => [.row v' 24 1 (2 + n1) (gs.map fun f => V.v (slV f)), .box b 26 [.v (.slice p0 n0 c0), .v (.slice p1 n1 c1), .v (.slice p2 n2 c2), .v (.slice p3 n3 c3), .b e], .reg A Φ])
          (fun j => j ≤ nf) (fun j => nf - j) 0 (Nat.zero_le _) (.eqs rfl) ?_
        intro j hj
        have hfl : nf ≤ 140737488355328 := hfl
        (repeat (first | refine aos_nil ?_ | ((refine aos_cons rfl ?_); (refine gc rfl rfl rfl rfl rfl _ (by rfl) ?_); show AOs _ _ _ _ ((_, _) :: _) _ _) | refine aw_seq ?_ | refine aw_region ?_))
        by_cases hlt3 : j < nf
        · have hd3 : decide ((j : Int) < (nf : Int)) = true := by simp; omega
          rw [hd3]
          (repeat (first | refine aos_nil ?_ | ((refine aos_cons rfl ?_); (refine qd rfl rfl ?_); show AOs _ _ _ _ ((_, _) :: _) _ _) | refine aw_seq ?_ | refine aw_region ?_ | refine aw_block ?_ | refine aw_skip ?_ | refine aw_cond true rfl ?_))
          obtain ⟨g2, off, rfl, hw2⟩ := hw (by show 0 < nf; omega)
          (refine aos_cons rfl ?_); refine aop_index_ptr rfl rfl rfl rfl j rfl hlt3 ?_; show AOs _ _ _ _ ((_, _) :: _) _ _
          refine aos_cons rfl (aop_store_reg 2 rfl rfl rfl rfl rfl rfl rfl (fun w hΦ => ?_) ?_)
          · obtain ⟨a1, a2, a3⟩ := hw2 w hΦ
            refine ⟨a1, fun t ht => ?_, a3⟩
            have ht : t < 1 := ht
            have h3 : nf * 1 = nf := Nat.mul_one _
            have := a2 (j * 1 + t) (by show _ < nf * 1; omega)
            rwa [← Nat.add_assoc] at this
          (repeat (first | refine aos_nil ?_ | ((refine aos_cons rfl ?_); (first | refine qd rfl rfl ?_ | refine ga rfl rfl rfl rfl rfl (by omega) (by omega) ?_); show AOs _ _ _ _ ((_, _) :: _) _ _) | refine aw_region ?_))
          exact ⟨j + 1, by omega, by omega, .eqs rfl⟩
        · have hd3 : decide ((j : Int) < (nf : Int)) = false := by simp; omega
          rw [hd3]
          (repeat (first | refine aos_nil ?_ | ((refine aos_cons rfl ?_); (first | refine qd rfl rfl ?_ | refine ga rfl rfl rfl rfl rfl (by omega) (by omega) ?_); show AOs _ _ _ _ ((_, _) :: _) _ _) | refine aw_region ?_ | refine aw_exit ?_ | refine aw_cond false rfl ?_))
          exact ⟨i + 1, by omega, by omega, .eqs rfl⟩
      · have hd2 : decide ((i : Int) < ((2 + n1 : Nat) : Int)) = false := by simp; omega
        rw [hd2]
        (repeat (first | refine aw_exit ?_ | refine aw_cond false rfl ?_))
        exact fpost0 (.inl rfl) res_none rfl
end Go.Proofs.Ytlagablcopmhkaa
/- Arrays of whole numbers compared. -/
namespace Go.Proofs.Ytlagablcopmhkaa
open Go.RowKit

theorem run_eq_ints {P : Program} (d : Nat) (t e : TypeId) (len : Nat) (k : IntKind) (ht : P.underlying t = some (.array len e)) (he : P.underlying e = some (.int k)) (hs : ∀ w, (sizeOf e).run P w = .ok 1 w) (ha : ∀ w, (isAgg e).run P w = .ok false w) (xs ys : List Int) (hx : xs.length = len) (hy : ys.length = len) (w : World) :
    (Op.equalIn (d + 2) t (.agg (xs.map (Value.int k)).toArray) (.agg (ys.map (Value.int k)).toArray)).run P w = .ok (decide (xs = ys)) w := by
  have hp : ∀ (zs : List Int) (i : Nat) (z : Int), zs[i]? = some z → ∀ w, (part e (zs.map (Value.int k)).toArray i).run P w = .ok (.int k z) w := fun zs i z h w => by
    simp [part, ha, h]
  rw [Op.equalIn]
  simp only [Sem.run_bind, run_underlying ht, Result.andThen_ok, hs]
  simp only [Std.Legacy.Range.forIn_eq_forIn_range', Std.Legacy.Range.size]
  rw [show (len - 0 + 1 - 1) / 1 = len by rw [Nat.div_one]; omega]
  have key : ∀ (m i : Nat), i + m = len → ∀ w, (forIn (m := Sem) (List.range' i m) ((none, ()) : Option Bool × Unit) fun i __s => do
            let __do_lift ← part e (List.map (Value.int k) xs).toArray (i * 1)
            let __do_lift_1 ← part e (List.map (Value.int k) ys).toArray (i * 1)
            let __do_lift ← Op.equalIn (d + 1) e __do_lift __do_lift_1
            if (!__do_lift) = true then pure (ForInStep.done (some false, ())) else pure (ForInStep.yield (none, ()))).run P w = .ok (if xs.drop i = ys.drop i then (none, ()) else (some false, ())) w := by
    intro m
    induction m with
    | zero =>
      intro i hi w
      rw [List.drop_of_length_le (by omega), List.drop_of_length_le (by omega)]
      simp
    | succ m ih =>
      intro i hi w
      obtain ⟨x, hx1⟩ := some_at (show i < xs.length by omega)
      obtain ⟨y, hy1⟩ := some_at (show i < ys.length by omega)
      have h1 := run_equalIn_int (P := P) w d e k k x y he
      rw [List.range'_succ, List.forIn_cons]
      simp only [Sem.run_bind, Nat.mul_one, hp xs i x hx1, hp ys i y hy1, Result.andThen_ok, h1]
      by_cases hxy : x = y
      · subst hxy
        simp only [beq_self_eq_true, Bool.not_true, Bool.false_eq_true, if_false, Sem.run_pure, Result.andThen_ok]
        have := ih (i + 1) (by omega) w
        simp only [Nat.mul_one] at this
        rw [this, drop_cons hx1, drop_cons hy1]
        simp
      · have hb : (x == y) = false := by simp [hxy]
        simp only [hb, Bool.not_false, if_true, Sem.run_pure, Result.andThen_ok]
        rw [if_neg (by rw [drop_cons hx1, drop_cons hy1]; intro h; exact hxy (List.cons.inj h).1)]
  rw [key len 0 (by omega) w]
  by_cases h : xs = ys
  · subst h; simp
  · simp [h]

theorem aop_ne_ints {P : Program} {n : Nat} {o : Oper} {sl : Sl} {L : List Ch} {K : Sl → List Ch → Prop} {t t' e : TypeId} {x y : Operand} {len k' : Nat} {k : IntKind} [ht : TyA P t len e k'] (he : P.underlying e = some (.int k)) (hs : ∀ w, (sizeOf e).run P w = .ok 1 w) (ha : ∀ w, (isAgg e).run P w = .ok false w) (hg : P.eqGuardType P.depth t = false)
    (ho : o.op = .binOp .neq t x y t') (hd : dstOk n o.dst = true) (xs ys : List Int) (hx : ev sl x = .a (xs.map fun z => V.v (.int k z))) (hy : ev sl y = .a (ys.map fun z => V.v (.int k z))) (hxl : xs.length = len) (hyl : ys.length = len) (r : Bool) (hr : (!decide (xs = ys)) = r) (hK : K (put sl o.dst (.b r)) L) : AOp P n o sl L K := by
  subst hr
  refine aop_pure hd _ (fun w S a hs' => ?_) hK
  have form : ∀ (z : Operand) (zs : List Int), ev sl z = .a (zs.map fun z => V.v (.int k z)) → a.eval z = .agg (zs.map (Value.int k)).toArray := fun z zs hz => by
    have h := hs'.ev z
    rw [hz] at h
    generalize a.eval z = v at h
    cases h with
    | a us hl hr =>
      have : us = zs.map (Value.int k) := by
        apply List.ext_getElem?
        intro j
        cases hj : zs[j]? with
        | none =>
          have h1 : us[j]? = none := by rw [List.getElem?_eq_none_iff] at hj ⊢; simp at hl; omega
          simp [h1, hj]
        | some q =>
          obtain ⟨u, hu⟩ : ∃ u, us[j]? = some u := ⟨us[j]'(by have := (List.getElem?_eq_some_iff.1 hj).1; simp at hl; omega), by simp⟩
          have := (hr j (.v (.int k q)) u (by simp [hj]) hu).unv
          simp [hu, hj, this]
      rw [this]
  have hrun := run_eq_ints (P := P) 9998 t e len k ht.und he hs ha xs ys hxl hyl w
  have hgd := run_eqGuard_agg (P := P) w .neq t x y (xs.map (Value.int k)).toArray (ys.map (Value.int k)).toArray hg
  simp only [execOp, ho, form x xs hx, form y ys hy, Sem.run_bind, hgd, Result.andThen_ok, binOp, Op.equal, Op.maxDepth]
  rw [show (10000 : Nat) = 9998 + 2 from rfl, hrun]
  simp

/-- the words of a set, as numbers -/
def wordsI (s : BitVec 256) : List Int := (List.range 256).map fun c => wbit s c
theorem wordsI_length (s : BitVec 256) : (wordsI s).length = 256 := by simp [wordsI]
theorem wordsL_eq (s : BitVec 256) : (wordsL s 256).map V.v = (wordsI s).map fun z => V.v (.int .i64 z) := by
  simp only [wordsL, wordsI, List.map_map]
  apply List.map_congr_left
  intro c hc
  have : c < 256 := List.mem_range.1 hc
  simp [this]
theorem wordsI_inj {s t : BitVec 256} (h : wordsI s = wordsI t) : s = t := by
  apply BitVec.eq_of_toNat_eq
  apply Nat.eq_of_testBit_eq
  intro i
  by_cases hi : i < 256
  · have h1 := congrArg (·[i]?) h
    simp [wordsI, hi] at h1
    have h2 : inSet s i = inSet t i := by rw [← wbit_if s i, ← wbit_if t i, h1]
    exact h2
  · rw [Nat.testBit_lt_two_pow (Nat.lt_of_lt_of_le s.isLt (Nat.pow_le_pow_right (by decide) (by omega))), Nat.testBit_lt_two_pow (Nat.lt_of_lt_of_le t.isLt (Nat.pow_le_pow_right (by decide) (by omega)))]
theorem wordsI_dec (s t : BitVec 256) : decide (wordsI s = wordsI t) = decide (s = t) := by
  by_cases h : s = t
  · subst h; simp
  · rw [decide_eq_false h, decide_eq_false fun e => h (wordsI_inj e)]
theorem setsWI_at {l : List (BitVec 256)} {k : Nat} {s : BitVec 256} (h : l[k]? = some s) : ((((setsWL l).map D.v).drop (k * 256)).take 256).map V.d = (wordsI s).map fun z => V.v (.int .i64 z) := by
  rw [setsWV_at h, wordsL_eq]

set_option maxRecDepth 100000 in
set_option maxHeartbeats 2000000 in
theorem eqW_a (l l' : List (BitVec 256)) (hl : l.length ≤ 140737488355328) (hl' : l'.length ≤ 140737488355328) : AC Try.prog 102 [.d (dSetsW l), .d (dSetsW l')] [] fun r L' => r = .b (decide (l = l')) ∧ L' = [] := by
  have hi : ∀ w, (isAgg 3).run Try.prog w = .ok false w := Try.isAgg3
  have hsz : ∀ w, (sizeOf 3).run Try.prog w = .ok 1 w := Try.sizeOf3
  have hu : Try.prog.underlying 3 = some (.int .i64) := Try.underlying3
  have hg : Try.prog.eqGuardType Try.prog.depth 141 = false := by kernel_rfl
  refine ac_body _ Try.func102 rfl Try.ntmps102 Try.results102 rfl ?_
  cases hlen : decide ((l.length : Int) = l'.length)
  · have hn : (!decide ((l.length : Int) = l'.length)) = true := by rw [hlen]; rfl
    (repeat (first | refine aos_nil ?_ | ((refine aos_cons rfl ?_); (first | refine qd rfl rfl ?_ | refine gc rfl rfl rfl rfl rfl _ (by assumption) ?_ | refine gn0 rfl rfl rfl ?_); show AOs _ _ _ _ ((_, _) :: _) _ _) | refine aw_seq ?_ | refine aw_region ?_ | refine aw_ret ?_ | refine aw_cond true rfl ?_))
    refine fpost0 (.inr rfl) (res_tmp 4) ?_
    show V.b _ = V.b _
    rw [eq_comm, decide_eq_false]
    rintro rfl
    simp at hlen
  · have hn : (!decide ((l.length : Int) = l'.length)) = false := by rw [hlen]; rfl
    have hll : l.length = l'.length := by simp at hlen; omega
    (repeat (first | refine aos_nil ?_ | ((refine aos_cons rfl ?_); (first | refine qd rfl rfl ?_ | refine gc rfl rfl rfl rfl rfl _ (by assumption) ?_ | refine gn0 rfl rfl rfl ?_); show AOs _ _ _ _ ((_, _) :: _) _ _) | refine aw_seq ?_ | refine aw_region ?_ | refine aw_block ?_ | refine aw_skip ?_ | refine aw_cond false rfl ?_))
    refine aw_for (ι := Nat) (fun k => [(0, V.d (dSetsW l)), (1, V.d (dSetsW l')), (12, V.i l.length), (13, V.i k)]) (fun _ => []) (fun k => k ≤ l.length ∧ l.take k = l'.take k) (fun k => l.length - k) 0 ⟨Nat.zero_le _, rfl⟩ (.eqs rfl) ?_
    rintro k ⟨hk, hg2⟩
    by_cases hlt : k < l.length
    · have hd : decide ((k : Int) < (l.length : Int)) = true := by simp; omega
      obtain ⟨s, hs⟩ := some_at hlt
      obtain ⟨s', hs'⟩ := some_at (show k < l'.length by omega)
      have e1 := setsWI_at hs
      have e2 := setsWI_at hs'
      have b1 : k * 256 + 256 ≤ ((setsWL l).map D.v).length := by simp [setsWL_length]; omega
      have b2 : k * 256 + 256 ≤ ((setsWL l').map D.v).length := by simp [setsWL_length]; omega
      have l1 := wordsI_length s
      have l2 := wordsI_length s'
      have hw := wordsI_dec s s'
      cases hss : decide (s = s')
      · rw [hss] at hw
        have hr : (!decide (wordsI s = wordsI s')) = true := by rw [hw]; rfl
        (repeat (first | refine aos_nil ?_ | ((refine aos_cons rfl ?_); (first | refine qd rfl rfl ?_ | refine gc rfl rfl rfl rfl rfl _ (by assumption) ?_); show AOs _ _ _ _ ((_, _) :: _) _ _) | refine aw_seq ?_ | refine aw_region ?_ | refine aw_block ?_ | refine aw_skip ?_ | refine aw_cond true rfl ?_))
        refine aw_drawH 9 [16, 17, 18, 19, 20, 21, 22, 23, 24] (by kernel_rfl) (by kernel_rfl) rfl (by kernel_rfl) ?_; refine drawh_q [] rfl rfl rfl (by kernel_rfl) (aq_plain rfl (by exact qd rfl rfl ⟨rfl, rfl⟩)) ?_; refine drawh_q [] rfl rfl rfl (by kernel_rfl) (aq_plain rfl (by exact qd rfl rfl ⟨rfl, rfl⟩)) ?_; refine drawh_q [16, 17] rfl rfl rfl (by kernel_rfl) (aq_plain rfl (by exact aop_index rfl rfl rfl rfl _ rfl (by omega) ⟨rfl, rfl⟩)) ?_; refine drawh_q [18] rfl rfl rfl (by kernel_rfl) (aq_plain rfl (by exact aop_load_agg_e' rfl rfl rfl _ e1 b1 ⟨rfl, rfl⟩)) ?_; refine drawh_q [] rfl rfl rfl (by kernel_rfl) (aq_plain rfl (by exact qd rfl rfl ⟨rfl, rfl⟩)) ?_; refine drawh_q [] rfl rfl rfl (by kernel_rfl) (aq_plain rfl (by exact qd rfl rfl ⟨rfl, rfl⟩)) ?_; refine drawh_q [20, 21] rfl rfl rfl (by kernel_rfl) (aq_plain rfl (by exact aop_index rfl rfl rfl rfl _ rfl (by omega) ⟨rfl, rfl⟩)) ?_; refine drawh_q [22] rfl rfl rfl (by kernel_rfl) (aq_plain rfl (by exact aop_load_agg_e' rfl rfl rfl _ e2 b2 ⟨rfl, rfl⟩)) ?_; refine drawh_q [19, 23] rfl rfl rfl (by kernel_rfl) (aq_plain rfl (by exact aop_ne_ints hu hsz hi hg rfl rfl _ _ rfl rfl l1 l2 _ hr ⟨rfl, rfl⟩)) ?_; refine drawh_nil (.refl _) ?_; intro β
        (repeat (first | refine aos_nil ?_ | ((refine aos_cons rfl ?_); (refine qd rfl rfl ?_); show AOs _ _ _ _ ((_, _) :: _) _ _) | refine aw_seq ?_ | refine aw_region ?_ | refine aw_ret ?_ | refine aw_cond true rfl ?_))
        refine fpost0 (.inr rfl) (res_tmp 4) ?_
        show V.b _ = V.b _
        rw [eq_comm, decide_eq_false]
        rintro rfl
        rw [hs] at hs'
        have := Option.some.inj hs'
        simp [this] at hss
      · rw [hss] at hw
        have hr : (!decide (wordsI s = wordsI s')) = false := by rw [hw]; rfl
        (repeat (first | refine aos_nil ?_ | ((refine aos_cons rfl ?_); (first | refine qd rfl rfl ?_ | refine gc rfl rfl rfl rfl rfl _ (by assumption) ?_); show AOs _ _ _ _ ((_, _) :: _) _ _) | refine aw_seq ?_ | refine aw_region ?_ | refine aw_block ?_ | refine aw_skip ?_ | refine aw_cond true rfl ?_))
        refine aw_drawH 9 [16, 17, 18, 19, 20, 21, 22, 23, 24] (by kernel_rfl) (by kernel_rfl) rfl (by kernel_rfl) ?_; refine drawh_q [] rfl rfl rfl (by kernel_rfl) (aq_plain rfl (by exact qd rfl rfl ⟨rfl, rfl⟩)) ?_; refine drawh_q [] rfl rfl rfl (by kernel_rfl) (aq_plain rfl (by exact qd rfl rfl ⟨rfl, rfl⟩)) ?_; refine drawh_q [16, 17] rfl rfl rfl (by kernel_rfl) (aq_plain rfl (by exact aop_index rfl rfl rfl rfl _ rfl (by omega) ⟨rfl, rfl⟩)) ?_; refine drawh_q [18] rfl rfl rfl (by kernel_rfl) (aq_plain rfl (by exact aop_load_agg_e' rfl rfl rfl _ e1 b1 ⟨rfl, rfl⟩)) ?_; refine drawh_q [] rfl rfl rfl (by kernel_rfl) (aq_plain rfl (by exact qd rfl rfl ⟨rfl, rfl⟩)) ?_; refine drawh_q [] rfl rfl rfl (by kernel_rfl) (aq_plain rfl (by exact qd rfl rfl ⟨rfl, rfl⟩)) ?_; refine drawh_q [20, 21] rfl rfl rfl (by kernel_rfl) (aq_plain rfl (by exact aop_index rfl rfl rfl rfl _ rfl (by omega) ⟨rfl, rfl⟩)) ?_; refine drawh_q [22] rfl rfl rfl (by kernel_rfl) (aq_plain rfl (by exact aop_load_agg_e' rfl rfl rfl _ e2 b2 ⟨rfl, rfl⟩)) ?_; refine drawh_q [19, 23] rfl rfl rfl (by kernel_rfl) (aq_plain rfl (by exact aop_ne_ints hu hsz hi hg rfl rfl _ _ rfl rfl l1 l2 _ hr ⟨rfl, rfl⟩)) ?_; refine drawh_nil (.refl _) ?_; intro β
        (repeat (first | refine aos_nil ?_ | ((refine aos_cons rfl ?_); (first | refine qd rfl rfl ?_ | refine ga rfl rfl rfl rfl rfl (by omega) (by omega) ?_); show AOs _ _ _ _ ((_, _) :: _) _ _) | refine aw_region ?_ | refine aw_skip ?_ | refine aw_cond false rfl ?_))
        exact ⟨k + 1, ⟨by omega, by rw [take_succ_of hs, take_succ_of hs', hg2, of_decide_eq_true hss]⟩, by omega, .eqs rfl⟩
    · have hd : decide ((k : Int) < (l.length : Int)) = false := by simp; omega
      (repeat (first | refine aos_nil ?_ | ((refine aos_cons rfl ?_); (first | refine qd rfl rfl ?_ | refine gc rfl rfl rfl rfl rfl _ (by assumption) ?_); show AOs _ _ _ _ ((_, _) :: _) _ _) | refine aw_seq ?_ | refine aw_region ?_ | refine aw_exit ?_ | refine aw_ret ?_ | refine aw_cond false rfl ?_))
      refine fpost0 (.inr rfl) (res_tmp 4) ?_
      show V.b _ = V.b _
      rw [List.take_of_length_le (by omega), List.take_of_length_le (by omega)] at hg2
      rw [hg2]; simp
end Go.Proofs.Ytlagablcopmhkaa
/- law 17: same. -/
namespace Go.Proofs.Ytlagablcopmhkaa
open Go.RowKit

theorem R.fn {w : World} {S : Nat → Prop} {g : Fn} {v : Value} (h : R w S (.f g [] []) v) : v = .func g #[] #[] := by
  cases h with
  | f us vs hl hr hl2 hr2 =>
    obtain rfl := List.length_eq_zero_iff.1 (by simpa using hl)
    obtain rfl := List.length_eq_zero_iff.1 (by simpa using hl2)
    rfl
theorem eqL_a (f g : List (List Int)) : AC Try.prog 72 [.d (dLists f), .d (dLists g), .f (.func 23) [] []] [] fun r L' => r = .b (decide (f = g)) ∧ L' = [] :=
  ac_real fun w S vs hr => by
    obtain ⟨v, v', v2, rfl, h, h', h2⟩ := hr.three
    obtain rfl := h2.fn
    exact (equalL_any f g _ _ w h.und h'.und).mono fun e w' ⟨h1, h2⟩ => ⟨_, h1, .v _, h2⟩

set_option maxRecDepth 100000 in
set_option maxHeartbeats 2000000 in
theorem sameR_a (a b : Auto) (hB : Bd b) (h0 : a.sets.length ≤ 1000000) (h1 : a.follow.length ≤ 1000000) (h2 : a.first.length ≤ 1000000) (h3 : a.last.length ≤ 1000000) (h4 : ∀ f ∈ a.follow, f.length ≤ 1000000) :
    AC Try.prog 46 [.a (cellsA a), .a (cellsR b)] [] fun r L' => r = .b (sameA a b) ∧ L' = [] := by
  have e0 : sameA a b = (decide (a.sets = b.sets) && decide (a.follow = b.follow) && decide (a.first = b.first) && decide (a.last = b.last) && (a.empty == b.empty)) := rfl
  have hS := eqW_a a.sets b.sets (by omega) hB.s
  have hF := eqL_a a.follow b.follow
  have hI := eqI_a a.first b.first
  have hL := eqI_a a.last b.last
  refine ac_body _ Try.func46 rfl Try.ntmps46 Try.results46 rfl ?_
  refine aw_seq (aw_region ?_)
  refine aos_cons rfl (aop_box_a rfl rfl rfl rfl ?_)
  intro b1
  refine aos_cons rfl (aop_box_a rfl rfl rfl rfl ?_)
  intro b2
  (repeat (first | refine aos_nil ?_ | ((refine aos_cons rfl ?_); (first | refine qd rfl rfl ?_ | refine gla rfl rfl rfl (by repeat first | exact .z | apply At.s) (by rfl) ?_); show AOs _ _ _ _ ((_, _) :: _) _ _) | refine aw_seq ?_ | refine aw_region ?_))
  (refine aos_cons rfl ?_); refine aop_call0 rfl rfl rfl (fun _ _ => by kernel_rfl) (theirs_a a h0 h1 h2 h3 h4) (.refl _) ?_; show AOs _ _ _ _ ((_, _) :: _) _ _
  refine aos_cons rfl (aop_alloc rfl rfl ?_)
  intro b3
  (repeat (first | refine aos_nil ?_ | ((refine aos_cons rfl ?_); (first | refine gl rfl rfl rfl (by repeat first | exact .z | apply At.s) (by rfl) ?_ | refine aop_fieldAddr rfl rfl rfl ?_ | refine gsa rfl rfl rfl rfl (by repeat first | exact .z | apply At.s) rfl (by rfl) rfl ?_); show AOs _ _ _ _ ((_, _) :: _) _ _) | refine aw_seq ?_ | refine aw_region ?_))
  cases hs : decide (a.sets = b.sets)
  · rw [hs] at hS e0
    (refine aos_cons rfl ?_); refine aop_call0 rfl rfl rfl (fun _ _ => by kernel_rfl) (hS) (.refl _) ?_; show AOs _ _ _ _ ((_, _) :: _) _ _
    (repeat (first | refine aos_nil ?_ | refine aos_no rfl rfl rfl rfl rfl ?_ | ((refine aos_cons rfl ?_); (refine qd rfl rfl ?_); show AOs _ _ _ _ ((_, _) :: _) _ _) | refine aw_ret ?_))
    exact fpost0 (.inr rfl) (res_tmp 4) (by show V.b _ = V.b _; rw [e0]; rfl)
  · rw [hs] at hS e0
    (refine aos_cons rfl ?_); refine aop_call0 rfl rfl rfl (fun _ _ => by kernel_rfl) (hS) (.refl _) ?_; show AOs _ _ _ _ ((_, _) :: _) _ _
    (repeat (((first | refine aos_cons rfl ?_ | refine aos_yes rfl rfl rfl ?_); (first | refine qd rfl rfl ?_ | refine gl rfl rfl rfl (by repeat first | exact .z | apply At.s) (by rfl) ?_ | refine aop_fieldAddr rfl rfl rfl ?_); show AOs _ _ _ _ ((_, _) :: _) _ _)))
    cases hf : decide (a.follow = b.follow)
    · rw [hf] at hF e0
      (refine aos_yes rfl rfl rfl ?_); refine aop_call0 rfl rfl rfl (fun _ _ => by kernel_rfl) (hF) (.refl _) ?_; show AOs _ _ _ _ ((_, _) :: _) _ _
      (repeat (first | refine aos_nil ?_ | refine aos_no rfl rfl rfl rfl rfl ?_ | ((refine aos_cons rfl ?_); (refine qd rfl rfl ?_); show AOs _ _ _ _ ((_, _) :: _) _ _) | refine aw_ret ?_))
      exact fpost0 (.inr rfl) (res_tmp 4) (by show V.b _ = V.b _; rw [e0]; rfl)
    · rw [hf] at hF e0
      (refine aos_yes rfl rfl rfl ?_); refine aop_call0 rfl rfl rfl (fun _ _ => by kernel_rfl) (hF) (.refl _) ?_; show AOs _ _ _ _ ((_, _) :: _) _ _
      (repeat (((first | refine aos_cons rfl ?_ | refine aos_yes rfl rfl rfl ?_); (first | refine qd rfl rfl ?_ | refine gl rfl rfl rfl (by repeat first | exact .z | apply At.s) (by rfl) ?_ | refine aop_fieldAddr rfl rfl rfl ?_); show AOs _ _ _ _ ((_, _) :: _) _ _)))
      cases hi : decide (a.first = b.first)
      · rw [hi] at hI e0
        (refine aos_yes rfl rfl rfl ?_); refine aop_call0 rfl rfl rfl (fun _ _ => by kernel_rfl) (hI) (.refl _) ?_; show AOs _ _ _ _ ((_, _) :: _) _ _
        (repeat (first | refine aos_nil ?_ | refine aos_no rfl rfl rfl rfl rfl ?_ | ((refine aos_cons rfl ?_); (refine qd rfl rfl ?_); show AOs _ _ _ _ ((_, _) :: _) _ _) | refine aw_ret ?_))
        exact fpost0 (.inr rfl) (res_tmp 4) (by show V.b _ = V.b _; rw [e0]; rfl)
      · rw [hi] at hI e0
        (refine aos_yes rfl rfl rfl ?_); refine aop_call0 rfl rfl rfl (fun _ _ => by kernel_rfl) (hI) (.refl _) ?_; show AOs _ _ _ _ ((_, _) :: _) _ _
        (repeat (((first | refine aos_cons rfl ?_ | refine aos_yes rfl rfl rfl ?_); (first | refine qd rfl rfl ?_ | refine gl rfl rfl rfl (by repeat first | exact .z | apply At.s) (by rfl) ?_ | refine aop_fieldAddr rfl rfl rfl ?_); show AOs _ _ _ _ ((_, _) :: _) _ _)))
        cases hl : decide (a.last = b.last)
        · rw [hl] at hL e0
          (refine aos_yes rfl rfl rfl ?_); refine aop_call0 rfl rfl rfl (fun _ _ => by kernel_rfl) (hL) (.refl _) ?_; show AOs _ _ _ _ ((_, _) :: _) _ _
          (repeat (first | refine aos_nil ?_ | refine aos_no rfl rfl rfl rfl rfl ?_ | ((refine aos_cons rfl ?_); (refine qd rfl rfl ?_); show AOs _ _ _ _ ((_, _) :: _) _ _) | refine aw_ret ?_))
          exact fpost0 (.inr rfl) (res_tmp 4) (by show V.b _ = V.b _; rw [e0]; rfl)
        · rw [hl] at hL e0
          (refine aos_yes rfl rfl rfl ?_); refine aop_call0 rfl rfl rfl (fun _ _ => by kernel_rfl) (hL) (.refl _) ?_; show AOs _ _ _ _ ((_, _) :: _) _ _
          (repeat (first | refine aos_nil ?_ | ((first | refine aos_cons rfl ?_ | refine aos_yes rfl rfl rfl ?_); (first | refine qd rfl rfl ?_ | refine gl rfl rfl rfl (by repeat first | exact .z | apply At.s) (by rfl) ?_ | refine aop_fieldAddr rfl rfl rfl ?_ | refine gcb rfl rfl rfl rfl rfl _ (by rfl) ?_); show AOs _ _ _ _ ((_, _) :: _) _ _) | refine aw_ret ?_))
          exact fpost0 (.inr rfl) (res_tmp 4) (by show V.b _ = V.b _; rw [e0]; rfl)
end Go.Proofs.Ytlagablcopmhkaa
/- Law 17: steps. -/
namespace Go.Proofs.Ytlagablcopmhkaa
open Go.RowKit

structure Sm (a : Auto) : Prop where
  s : a.sets.length ≤ 1000000
  f : a.follow.length ≤ 1000000
  i : a.first.length ≤ 1000000
  l : a.last.length ≤ 1000000
  e : ∀ x ∈ a.follow, x.length ≤ 1000000
theorem Sm.bd {a : Auto} (h : Sm a) : Bd a := ⟨by have := h.s; omega, by have := h.f; omega, by have := h.i; omega, by have := h.l; omega, fun x hx => by have := h.e x hx; omega⟩
theorem sameA_refl (a : Auto) : sameA a a = true := by simp [sameA]
theorem acc_eq {a : Auto} {l : List Int} (hP : RightP a) (hl : ∀ p ∈ l, -1 ≤ p ∧ p < a.sets.length) : accA a l = l.any (acc1R a) := by
  have key : ∀ p ∈ l, acc1 a (setOf (a.last.map Int.toNat)) p = acc1R a p := fun p hp => by
    have h1 := hl p hp
    unfold acc1 acc1R
    by_cases hq : p = -1
    · subst hq; simp
    · rw [if_neg hq, if_neg (by omega), setOf_bit]
      congr 1
      apply propext
      constructor
      · intro hm
        obtain ⟨x, hx, hxe⟩ := List.mem_map.1 hm
        have := hP.last x hx
        have : x = p := by omega
        rwa [← this]
      · intro hm
        exact List.mem_map.2 ⟨p, hm, rfl⟩
  unfold accA
  induction l with
  | nil => rfl
  | cons p l ih => rw [List.any_cons, List.any_cons, key p (by simp), ih (fun q hq => hl q (by simp [hq])) fun q hq => key q (by simp [hq])]

end Go.Proofs.Ytlagablcopmhkaa
