/- Packed: AlRefRun, AlQueue, AlClone -/
import Derived.Deep.AppendSrc
import Derived.Deep.Upon
import Derived.Lib.SliceRun
import Derived.Test.YtlagablcopmhkaaKRowRuns16
import Derived.Test.YtlagablcopmhkaaKRowRuns18
import Derived.Test.YtlagablcopmhkaaKRowRuns19
set_option linter.unusedVariables false
set_option linter.unusedSimpArgs false
/- The reference's Run and Search; a search is a run from each place. -/
namespace Go.Proofs.Ytlagablcopmhkaa
open Go.RowKit

theorem stepIn_iff (a : Auto) (c t : Nat) : ∀ (l : List Int) (m : Nat), (stepIn a c l m).testBit t = true ↔ m.testBit t = true ∨ ∃ q ∈ l, inSet (setAt a q) c = true ∧ t = q.toNat
  | [], m => by simp [stepIn]
  | q :: l, m => by
    rw [stepIn, stepIn_iff a c t l]
    cases h : inSet (setAt a q) c
    · simp [h]
    · rw [if_pos rfl]
      rw [show ((m ||| 2 ^ q.toNat).testBit t = true) ↔ (m.testBit t = true ∨ t = q.toNat) from by
        rw [Nat.testBit_or, Nat.testBit_two_pow, Bool.or_eq_true, decide_eq_true_eq]
        exact ⟨fun h => h.imp id Eq.symm, fun h => h.imp id Eq.symm⟩]
      simp only [List.mem_cons, exists_eq_or_imp, h, true_and, or_assoc]
theorem stepOut_iff (a : Auto) (c t : Nat) : ∀ (l : List Int) (m : Nat), (stepOut a c l m).testBit t = true ↔ m.testBit t = true ∨ ∃ p ∈ l, ∃ q ∈ fromA a p, inSet (setAt a q) c = true ∧ t = q.toNat
  | [], m => by simp [stepOut]
  | p :: l, m => by
    rw [stepOut, stepOut_iff a c t l, stepIn_iff]
    simp only [List.mem_cons, exists_eq_or_imp, or_assoc]
theorem stepA_mem (a : Auto) (c : Nat) (l : List Int) (x : Int) : x ∈ stepA a l c ↔ ∃ p ∈ l, x ∈ stepA a [p] c := by
  have key : ∀ l, x ∈ stepA a l c ↔ ∃ t : Nat, t < 448 ∧ x = (t : Int) ∧ ∃ p ∈ l, ∃ q ∈ fromA a p, inSet (setAt a q) c = true ∧ t = q.toNat := fun l => by
    unfold stepA ints bitsL upTo
    rw [List.mem_map]
    constructor
    · rintro ⟨t, ht, rfl⟩
      obtain ⟨h1, h2⟩ := List.mem_filter.1 ht
      rw [stepOut_iff] at h2
      exact ⟨t, List.mem_range.1 h1, rfl, h2.resolve_left (by simp)⟩
    · rintro ⟨t, h1, rfl, h2⟩
      exact ⟨t, List.mem_filter.2 ⟨List.mem_range.2 h1, (stepOut_iff a c t l 0).2 (.inr h2)⟩, rfl⟩
  rw [key]
  constructor
  · rintro ⟨t, h1, h2, p, hp, h3⟩
    exact ⟨p, hp, (key [p]).2 ⟨t, h1, h2, p, List.mem_cons_self, h3⟩⟩
  · rintro ⟨p, hp, h⟩
    obtain ⟨t, h1, h2, p', hp', h3⟩ := (key [p]).1 h
    obtain rfl := List.mem_singleton.1 hp'
    exact ⟨t, h1, h2, p', hp, h3⟩
theorem runS_mem (a : Auto) (bs : List Nat) : ∀ (k : Nat), k ≤ bs.length → ∀ x, x ∈ runS a true bs k ↔ ∃ i, i ≤ k ∧ x ∈ runS a false (bs.drop i) (k - i)
  | 0, _, x => by
    have e : ∀ b ys, runS a b ys 0 = [-1] := fun _ _ => rfl
    constructor
    · intro h; exact ⟨0, Nat.le_refl _, by rw [e] at h ⊢; exact h⟩
    · rintro ⟨i, hi, h⟩; rw [Nat.zero_sub, e] at h; rw [e]; exact h
  | k + 1, hk, x => by
    obtain ⟨c, hc⟩ := some_at (show k < bs.length by omega)
    have e0 : ∀ ys, runS a false ys 0 = [-1] := fun _ => rfl
    have hs : ∀ i, i ≤ k → runS a false (bs.drop i) (k + 1 - i) = stepA a (runS a false (bs.drop i) (k - i)) c := fun i hi => by
      rw [show k + 1 - i = (k - i) + 1 by omega, runS_succ (c := c) (by rw [List.getElem?_drop, show i + (k - i) = k by omega]; exact hc)]
      rfl
    rw [runS_succ hc]
    show x ∈ -1 :: stepA a (runS a true bs k) c ↔ _
    rw [List.mem_cons, stepA_mem]
    constructor
    · rintro (rfl | ⟨p, hp, h⟩)
      · exact ⟨k + 1, Nat.le_refl _, by rw [Nat.sub_self, e0]; exact List.mem_cons_self⟩
      · obtain ⟨i, hi, hpi⟩ := (runS_mem a bs k (by omega) p).1 hp
        exact ⟨i, by omega, by rw [hs i hi, stepA_mem]; exact ⟨p, hpi, h⟩⟩
    · rintro ⟨i, hi, h⟩
      by_cases e : i = k + 1
      · subst e
        rw [Nat.sub_self, e0] at h
        exact .inl (List.mem_singleton.1 h)
      · have hi : i ≤ k := by omega
        rw [hs i hi, stepA_mem] at h
        obtain ⟨p, hp, h⟩ := h
        exact .inr ⟨p, (runS_mem a bs k (by omega) p).2 ⟨i, hi, hp⟩, h⟩
/-- a run from i accepts at t -/
def acS (a : Auto) (bs : List Nat) (i t : Nat) : Prop := i ≤ t ∧ accA a (runS a false (bs.drop i) (t - i)) = true
theorem search_iff (a : Auto) (bs : List Nat) (k : Nat) (hk : k ≤ bs.length) : accA a (runS a true bs k) = true ↔ ∃ i, i < bs.length + 1 ∧ acS a bs i k := by
  unfold accA acS
  rw [List.any_eq_true]
  constructor
  · rintro ⟨x, hx, h⟩
    obtain ⟨i, hi, hxi⟩ := (runS_mem a bs k hk x).1 hx
    exact ⟨i, by omega, hi, List.any_eq_true.2 ⟨x, hxi, h⟩⟩
  · rintro ⟨i, _, hi, h⟩
    obtain ⟨x, hxi, h⟩ := List.any_eq_true.1 h
    exact ⟨x, (runS_mem a bs k hk x).2 ⟨i, hi, hxi⟩, h⟩
theorem search_upTo {a : Auto} {bs : List Nat} {m : Nat} (h : ∀ t, m.testBit t = true ↔ t ≤ bs.length ∧ ∃ i, i < bs.length + 1 ∧ acS a bs i t) : ints (upTo m (bs.length + 1)) = searchL a bs (bs.length + 1) := by
  unfold searchL upTo
  congr 1
  refine List.filter_congr fun t ht => ?_
  have ht := List.mem_range.1 ht
  rw [Bool.eq_iff_iff, h, search_iff a bs t (by omega)]
  exact ⟨fun h => h.2, fun h => ⟨by omega, h⟩⟩
/-- the flags in the middle of a row -/
def SearchI (a : Auto) (bs : List Nat) (i k m : Nat) : Prop := ∀ t, m.testBit t = true ↔ t ≤ bs.length ∧ ((∃ j, j < i ∧ acS a bs j t) ∨ (t < k ∧ acS a bs i t))
theorem SearchI.start (a : Auto) (bs : List Nat) : SearchI a bs 0 0 0 := fun t => by simp
theorem SearchI.yes {a : Auto} {bs : List Nat} {i k m : Nat} (h : SearchI a bs i k m) (hk : k ≤ bs.length) (hc : acS a bs i k) : SearchI a bs i (k + 1) (m ||| 2 ^ k) := fun t => by
  rw [show ((m ||| 2 ^ k).testBit t = true) ↔ (m.testBit t = true ∨ t = k) from by
    rw [Nat.testBit_or, Nat.testBit_two_pow, Bool.or_eq_true, decide_eq_true_eq]
    exact ⟨fun h => h.imp id Eq.symm, fun h => h.imp id Eq.symm⟩, h t]
  constructor
  · rintro (⟨h1, h2 | ⟨h2, h3⟩⟩ | rfl)
    · exact ⟨h1, .inl h2⟩
    · exact ⟨h1, .inr ⟨by omega, h3⟩⟩
    · exact ⟨hk, .inr ⟨by omega, hc⟩⟩
  · rintro ⟨h1, h2 | ⟨h2, h3⟩⟩
    · exact .inl ⟨h1, .inl h2⟩
    · by_cases e : t = k
      · exact .inr e
      · exact .inl ⟨h1, .inr ⟨by omega, h3⟩⟩
theorem SearchI.no {a : Auto} {bs : List Nat} {i k m : Nat} (h : SearchI a bs i k m) (hc : ¬ acS a bs i k) : SearchI a bs i (k + 1) m := fun t => by
  rw [h t]
  constructor
  · rintro ⟨h1, h2 | ⟨h2, h3⟩⟩
    · exact ⟨h1, .inl h2⟩
    · exact ⟨h1, .inr ⟨by omega, h3⟩⟩
  · rintro ⟨h1, h2 | ⟨h2, h3⟩⟩
    · exact ⟨h1, .inl h2⟩
    · by_cases e : t = k
      · subst e; exact absurd h3 hc
      · exact ⟨h1, .inr ⟨by omega, h3⟩⟩
theorem SearchI.from {a : Auto} {bs : List Nat} {i m : Nat} (h : SearchI a bs i 0 m) : SearchI a bs i i m := fun t => by
  rw [h t]
  constructor
  · rintro ⟨h1, h2 | ⟨h2, h3⟩⟩
    · exact ⟨h1, .inl h2⟩
    · omega
  · rintro ⟨h1, h2 | ⟨h2, h3⟩⟩
    · exact ⟨h1, .inl h2⟩
    · exact absurd h3.1 (by omega)
theorem SearchI.next {a : Auto} {bs : List Nat} {i m : Nat} (h : SearchI a bs i (bs.length + 1) m) : SearchI a bs (i + 1) 0 m := fun t => by
  rw [h t]
  constructor
  · rintro ⟨h1, ⟨j, hj, h2⟩ | ⟨h2, h3⟩⟩
    · exact ⟨h1, .inl ⟨j, by omega, h2⟩⟩
    · exact ⟨h1, .inl ⟨i, by omega, h3⟩⟩
  · rintro ⟨h1, ⟨j, hj, h2⟩ | ⟨h2, h3⟩⟩
    · by_cases e : j = i
      · subst e; exact ⟨h1, .inr ⟨by omega, h2⟩⟩
      · exact ⟨h1, .inl ⟨j, by omega, h2⟩⟩
    · omega
theorem SearchI.done {a : Auto} {bs : List Nat} {m : Nat} (h : SearchI a bs (bs.length + 1) 0 m) : ints (upTo m (bs.length + 1)) = searchL a bs (bs.length + 1) := search_upTo fun t => by
  rw [h t]
  constructor
  · rintro ⟨h1, h2 | ⟨h2, h3⟩⟩
    · exact ⟨h1, h2⟩
    · omega
  · rintro ⟨h1, h2⟩
    exact ⟨h1, .inl h2⟩

set_option maxRecDepth 100000 in
theorem runR_bad {a : Auto} {bs : List Nat} (hB : Bd a) (hr : rightA a = false) : AC Try.prog 53 [.a (cellsR a), .d (dB bs)] [] fun r L' => r = .t [.nil, .i 171] ∧ L' = [] := by
  have hrt := rightR_a a hB
  rw [hr] at hrt
  refine ac_body _ Try.func53 rfl Try.ntmps53 Try.results53 rfl ?_
  refine aw_seq (aw_region ?_)
  refine aos_cons rfl (aop_box_a rfl rfl rfl rfl ?_)
  intro b2
  show AOs _ _ _ _ ((_, _) :: _) (_ :: _) _
  (repeat (first | ((refine aos_cons rfl ?_); refine aop_call0 rfl rfl rfl (fun _ _ => by kernel_rfl) (hrt) (.refl _) ?_; show AOs _ _ _ _ ((_, _) :: _) _ _) | refine aos_nil ?_ | ((refine aos_cons rfl ?_); (first | refine qd rfl rfl ?_ | refine gla rfl rfl rfl (by repeat first | exact .z | apply At.s) (by rfl) ?_); show AOs _ _ _ _ ((_, _) :: _) _ _) | refine aw_seq ?_ | refine aw_region ?_ | refine aw_ret ?_ | refine aw_cond true rfl ?_))
  exact fpost0 (.inr rfl) (res_tmp2 4 5) rfl
set_option maxRecDepth 100000 in
set_option maxHeartbeats 2000000 in
theorem runR_a {a : Auto} {bs : List Nat} (hB : Bd a) (hr : rightA a = true) (hbs : ∀ c ∈ bs, c < 256) (hlen : bs.length ≤ 4096) : AC Try.prog 53 [.a (cellsR a), .d (dB bs)] [] fun r L' => r = .t [.d (dI (runS a false bs bs.length)), .i 0] ∧ L' = [] := by
  have hrt := rightR_a a hB
  have hP := rightP hr
  rw [hr] at hrt
  have hd0 : decide (4096 < (bs.length : Int)) = false := by simp; omega
  refine ac_body _ Try.func53 rfl Try.ntmps53 Try.results53 rfl ?_
  refine aw_seq (aw_region ?_)
  refine aos_cons rfl (aop_box_a rfl rfl rfl rfl ?_)
  intro b2
  show AOs _ _ _ _ ((_, _) :: _) (_ :: _) _
  (repeat (first | ((refine aos_cons rfl ?_); refine aop_call0 rfl rfl rfl (fun _ _ => by kernel_rfl) (hrt) (.refl _) ?_; show AOs _ _ _ _ ((_, _) :: _) _ _) | refine aos_nil ?_ | ((refine aos_cons rfl ?_); (first | refine qd rfl rfl ?_ | refine gla rfl rfl rfl (by repeat first | exact .z | apply At.s) (by rfl) ?_ | refine gc rfl rfl rfl rfl rfl _ (by assumption) ?_ | refine gn0 rfl rfl rfl ?_ | refine aop_buildSlice rfl rfl _ rfl rfl (by decide) (by decide) ?_); show AOs _ _ _ _ ((_, _) :: _) _ _) | refine aw_seq ?_ | refine aw_region ?_ | refine aw_block ?_ | refine aw_skip ?_ | refine aw_cond false rfl ?_))
  refine aw_for (ι := Nat) (fun k => [(1, V.d (dB bs)), (2, V.ptr b2 0), (6, V.d (dI (runS a false bs k))), (7, V.i k)]) (fun _ => [.box b2 79 (cellsR a)])
    (fun k => k ≤ bs.length) (fun k => bs.length - k) 0 (Nat.zero_le _) (.eqs rfl) ?_
  intro k hk
  by_cases hlt : k < bs.length
  · have hd : decide ((k : Int) < (bs.length : Int)) = true := by simp; omega
    obtain ⟨c, hc⟩ := some_at hlt
    have hld : (bs.map fun (x : Nat) => D.v (.int .u8 (x : Int)))[k * 1]? = some (.v (.int .u8 c)) := by simp [hc]
    have hll : (runS a false bs k).length ≤ 140737488355328 := by
      cases k with
      | zero => show 1 ≤ _; omega
      | succ j =>
        obtain ⟨c', hc'⟩ := some_at (show j < bs.length by omega)
        rw [runS_succ hc']
        have := runStep_len a (runS a false bs j) c'
        show (stepA a (runS a false bs j) c').length ≤ _
        omega
    have hst := stepRef_a a (runS a false bs k) c hB hP hll (runS_bd (again := false) hP k hk) (hbs c (List.mem_of_getElem? hc))
    have hnx : stepA a (runS a false bs k) c = runS a false bs (k + 1) := (runS_succ (a := a) (again := false) hc).symm
    rw [hnx] at hst
    (repeat (first | refine aos_nil ?_ | ((refine aos_cons rfl ?_); (first | refine qd rfl rfl ?_ | refine gc rfl rfl rfl rfl rfl _ (by assumption) ?_ | refine gn0 rfl rfl rfl ?_); show AOs _ _ _ _ ((_, _) :: _) _ _) | refine aw_seq ?_ | refine aw_region ?_ | refine aw_block ?_ | refine aw_skip ?_ | refine aw_cond true rfl ?_))
    refine aw_drawH 7 [21, 22, 23, 24, 25, 26, 27] (by kernel_rfl) (by kernel_rfl) rfl (by kernel_rfl) ?_; refine drawh_q [] rfl rfl rfl (by kernel_rfl) (aq_plain rfl (by exact gla rfl rfl rfl (by repeat first | exact .z | apply At.s) (by rfl) ⟨rfl, rfl⟩)) ?_; refine drawh_q [] rfl rfl rfl (by kernel_rfl) (aq_plain rfl (by exact qd rfl rfl ⟨rfl, rfl⟩)) ?_; refine drawh_q [] rfl rfl rfl (by kernel_rfl) (aq_plain rfl (by exact qd rfl rfl ⟨rfl, rfl⟩)) ?_; refine drawh_q [] rfl rfl rfl (by kernel_rfl) (aq_plain rfl (by exact qd rfl rfl ⟨rfl, rfl⟩)) ?_; refine drawh_q [23, 24] rfl rfl rfl (by kernel_rfl) (aq_plain rfl (by exact aop_index rfl rfl rfl rfl _ rfl (by omega) ⟨rfl, rfl⟩)) ?_; refine drawh_q [25] rfl rfl rfl (by kernel_rfl) (aq_plain rfl (by exact aop_load_e rfl rfl rfl hld ⟨rfl, rfl⟩)) ?_; refine drawh_q [21, 22, 26] rfl rfl rfl (by kernel_rfl) (aq_plain rfl (aop_call0 rfl rfl rfl (fun _ _ => by kernel_rfl) (hst) (.refl _) ⟨rfl, rfl⟩)) ?_; refine drawh_nil (.refl _) ?_; intro β
    (repeat (first | refine aos_nil ?_ | ((refine aos_cons rfl ?_); (first | refine qd rfl rfl ?_ | refine ga rfl rfl rfl rfl rfl (by omega) (by omega) ?_); show AOs _ _ _ _ ((_, _) :: _) _ _) | refine aw_region ?_))
    exact ⟨k + 1, hlt, by omega, .eqs rfl⟩
  · have hd : decide ((k : Int) < (bs.length : Int)) = false := by simp; omega
    obtain rfl : k = bs.length := by omega
    (repeat (first | refine aos_nil ?_ | ((refine aos_cons rfl ?_); (first | refine qd rfl rfl ?_ | refine gc rfl rfl rfl rfl rfl _ (by assumption) ?_ | refine gn0 rfl rfl rfl ?_); show AOs _ _ _ _ ((_, _) :: _) _ _) | refine aw_seq ?_ | refine aw_region ?_ | refine aw_exit ?_ | refine aw_ret ?_ | refine aw_cond false rfl ?_))
    exact fpost0 (.inr rfl) (res_tmp2 4 5) rfl
set_option maxRecDepth 100000 in
set_option maxHeartbeats 2000000 in
theorem searchR_a {a : Auto} {bs : List Nat} (hB : Bd a) (hr : rightA a = true) (hbs : ∀ c ∈ bs, c < 256) (hlen : bs.length ≤ 4096) : AC Try.prog 54 [.a (cellsR a), .d (dB bs)] [] fun r L' => r = .t [.d (dI (searchL a bs (bs.length + 1))), .i 0] ∧ L' = [] := by
  have hrn := runR_a hB hr hbs hlen
  have hP := rightP hr
  refine ac_body _ Try.func54 rfl Try.ntmps54 Try.results54 rfl ?_
  refine aw_seq (aw_region ?_)
  refine aos_cons rfl (aop_box_a rfl rfl rfl rfl ?_)
  intro b2
  show AOs _ _ _ _ ((_, _) :: _) (_ :: _) _
  (repeat (first | ((refine aos_cons rfl ?_); refine aop_call0 rfl rfl rfl (fun _ _ => by kernel_rfl) (hrn) (.refl _) ?_; show AOs _ _ _ _ ((_, _) :: _) _ _) | refine aos_nil ?_ | ((refine aos_cons rfl ?_); (first | refine qd rfl rfl ?_ | refine qt rfl rfl ?_ | refine gla rfl rfl rfl (by repeat first | exact .z | apply At.s) (by rfl) ?_ | refine gc rfl rfl rfl rfl rfl _ (by first | assumption | rfl) ?_ | refine ga rfl rfl rfl rfl rfl (by omega) (by omega) ?_ | refine gn0 rfl rfl rfl ?_); show AOs _ _ _ _ ((_, _) :: _) _ _) | refine aw_seq ?_ | refine aw_region ?_ | refine aw_skip ?_ | refine aw_cond false rfl ?_))
  refine aos_cons rfl (aop_make rfl rfl rfl rfl (bs.length + 1) rfl rfl (by omega) (by omega) ?_)
  intro v hv
  rw [flagsV_zero]
  (repeat (first | refine aos_nil ?_ | ((refine aos_cons rfl ?_); (refine qd rfl rfl ?_); show AOs _ _ _ _ ((_, _) :: _) _ _) | refine aw_seq ?_ | refine aw_region ?_ | refine aw_block ?_))
  refine aw_for (ι := Nat × Nat) (fun i => [(1, V.d (dB bs)), (2, V.ptr b2 0), (8, V.v v), (9, V.i i.1)]) (fun i => [.row v 3 1 (bs.length + 1) (flagsV i.2 (bs.length + 1)), .box b2 79 (cellsR a)])
    (fun i => i.1 ≤ bs.length + 1 ∧ SearchI a bs i.1 0 i.2) (fun i => bs.length + 1 - i.1) (0, 0) ⟨Nat.zero_le _, .start _ _⟩ (.eqs rfl) ?_
  rintro ⟨i, m⟩ ⟨hi, hI⟩
  simp only at hi hI
  by_cases hlt : i ≤ bs.length
  · have hd : decide ((i : Int) ≤ (bs.length : Int)) = true := by simp; omega
    (repeat (first | refine aos_nil ?_ | ((refine aos_cons rfl ?_); (first | refine qd rfl rfl ?_ | refine gc rfl rfl rfl rfl rfl _ (by assumption) ?_ | refine gn0 rfl rfl rfl ?_ | refine aop_buildSlice rfl rfl _ rfl rfl (by decide) (by decide) ?_); show AOs _ _ _ _ ((_, _) :: _) _ _) | refine aw_seq ?_ | refine aw_region ?_ | refine aw_block ?_ | refine aw_skip ?_ | refine aw_cond true rfl ?_))
    refine aw_for (ι := Nat × Nat) (fun k => [(1, V.d (dB bs)), (2, V.ptr b2 0), (8, V.v v), (9, V.i i), (10, V.d (dI (runS a false (bs.drop i) (k.1 - i - (k.1 - bs.length))))), (11, V.i k.1)]) (fun k => [.row v 3 1 (bs.length + 1) (flagsV k.2 (bs.length + 1)), .box b2 79 (cellsR a)])
      (fun k => i ≤ k.1 ∧ k.1 ≤ bs.length + 1 ∧ SearchI a bs i k.1 k.2) (fun k => bs.length + 1 - k.1) (i, m) ⟨Nat.le_refl _, hi, hI.from⟩ (.eqs' (by rw [Nat.sub_self, Nat.zero_sub]; rfl) rfl) ?_
    clear hI hd
    rintro ⟨k, m⟩ ⟨hik, hk, hI⟩
    simp only at hik hk hI
    by_cases hkl : k ≤ bs.length
    · have hd : decide ((k : Int) ≤ (bs.length : Int)) = true := by simp; omega
      have e1 : k - i - (k - bs.length) = k - i := by omega
      have hbd := runS_bd (again := false) (bs := bs.drop i) hP (k - i) (by rw [List.length_drop]; omega)
      have hll : (runS a false (bs.drop i) (k - i)).length ≤ 140737488355328 := by
        cases hki : k - i with
        | zero => show 1 ≤ _; omega
        | succ j =>
          obtain ⟨c', hc'⟩ := some_at (show j < (bs.drop i).length by rw [List.length_drop]; omega)
          rw [runS_succ hc']
          have := runStep_len a (runS a false (bs.drop i) j) c'
          show (stepA a (runS a false (bs.drop i) j) c').length ≤ _
          omega
      have hac := acceptsR_a a (runS a false (bs.drop i) (k - i)) hll
      rw [← acc_eq hP hbd] at hac
      simp only [e1]
      show AW _ _ _ _ ((_, _) :: _) (_ :: _) _
      (repeat (first | refine aos_nil ?_ | ((refine aos_cons rfl ?_); (first | refine qd rfl rfl ?_ | refine gla rfl rfl rfl (by repeat first | exact .z | apply At.s) (by rfl) ?_ | refine gc rfl rfl rfl rfl rfl _ (by assumption) ?_ | refine gn0 rfl rfl rfl ?_); show AOs _ _ _ _ ((_, _) :: _) _ _) | refine aw_seq ?_ | refine aw_region ?_ | refine aw_block ?_ | refine aw_skip ?_ | refine aw_cond true rfl ?_))
      (refine aos_cons rfl ?_); refine aop_call0 rfl rfl rfl (fun _ _ => by kernel_rfl) (hac) (.refl _) ?_; show AOs _ _ _ _ ((_, _) :: _) _ _
      refine aos_nil ?_
      refine aw_meet (ι := Nat) (fun _ => [(1, V.d (dB bs)), (2, V.ptr b2 0), (8, V.v v), (9, V.i i), (10, V.d (dI (runS a false (bs.drop i) (k - i)))), (11, V.i k)]) (fun m' => [.row v 3 1 (bs.length + 1) (flagsV m' (bs.length + 1)), .box b2 79 (cellsR a)]) (fun m' => SearchI a bs i (k + 1) m') ?_ ?_
      · cases hA : accA a (runS a false (bs.drop i) (k - i))
        · (repeat (first | refine aw_skip ?_ | refine aw_cond false rfl ?_))
          exact ⟨m, hI.no (fun h => by rw [h.2] at hA; cases hA), .eqs rfl⟩
        · (repeat (first | ((refine aos_cons rfl ?_); (refine qd rfl rfl ?_); show AOs _ _ _ _ ((_, _) :: _) _ _) | refine aw_region ?_ | refine aw_cond true rfl ?_))
          refine aos_cons rfl (aop_index_row (j := 0) rfl rfl rfl rfl rfl k rfl (by omega) ?_)
          intro g hgb
          refine aos_cons rfl (aop_store1_row (i := 0) rfl rfl rfl rfl hgb rfl (by rw [flagsV_length]; omega) rfl ?_)
          have hset : (flagsV m (bs.length + 1)).set (k * 1) (V.i 1) = flagsV (m ||| 2 ^ k) (bs.length + 1) := by rw [Nat.mul_one]; exact flagsV_set m _ k (by omega)
          (repeat (refine aos_nil ?_))
          exact ⟨m ||| 2 ^ k, hI.yes hkl ⟨hik, hA⟩, .eqs' rfl (by show [Ch.row v _ 1 _ ((flagsV m (bs.length + 1)).set (k * 1) (V.i 1)), _] = _; rw [hset])⟩
      clear hI hd hac
      intro m hI
      by_cases hkn : k < bs.length
      · have hd : decide ((k : Int) < (bs.length : Int)) = true := by simp; omega
        obtain ⟨c, hc⟩ := some_at hkn
        have hld : (bs.map fun (x : Nat) => D.v (.int .u8 (x : Int)))[k * 1]? = some (.v (.int .u8 c)) := by simp [hc]
        have hst := stepRef_a a (runS a false (bs.drop i) (k - i)) c hB hP hll hbd (hbs c (List.mem_of_getElem? hc))
        have hnx : stepA a (runS a false (bs.drop i) (k - i)) c = runS a false (bs.drop i) (k + 1 - i - (k + 1 - bs.length)) := by
          rw [show k + 1 - i - (k + 1 - bs.length) = (k - i) + 1 by omega]
          exact (runS_succ (a := a) (again := false) (by rw [List.getElem?_drop, show i + (k - i) = k by omega]; exact hc)).symm
        rw [hnx] at hst
        (repeat (first | refine aos_nil ?_ | ((refine aos_cons rfl ?_); (first | refine qd rfl rfl ?_ | refine gc rfl rfl rfl rfl rfl _ (by assumption) ?_ | refine gn0 rfl rfl rfl ?_); show AOs _ _ _ _ ((_, _) :: _) _ _) | refine aw_seq ?_ | refine aw_region ?_ | refine aw_cond true rfl ?_))
        refine aw_drawH 7 [49, 50, 51, 52, 53, 54, 55] (by kernel_rfl) (by kernel_rfl) rfl (by kernel_rfl) ?_; refine drawh_q [] rfl rfl rfl (by kernel_rfl) (aq_plain rfl (by exact gla rfl rfl rfl (by repeat first | exact .z | apply At.s) (by rfl) ⟨rfl, rfl⟩)) ?_; refine drawh_q [] rfl rfl rfl (by kernel_rfl) (aq_plain rfl (by exact qd rfl rfl ⟨rfl, rfl⟩)) ?_; refine drawh_q [] rfl rfl rfl (by kernel_rfl) (aq_plain rfl (by exact qd rfl rfl ⟨rfl, rfl⟩)) ?_; refine drawh_q [] rfl rfl rfl (by kernel_rfl) (aq_plain rfl (by exact qd rfl rfl ⟨rfl, rfl⟩)) ?_; refine drawh_q [51, 52] rfl rfl rfl (by kernel_rfl) (aq_plain rfl (by exact aop_index rfl rfl rfl rfl _ rfl (by omega) ⟨rfl, rfl⟩)) ?_; refine drawh_q [53] rfl rfl rfl (by kernel_rfl) (aq_plain rfl (by exact aop_load_e rfl rfl rfl hld ⟨rfl, rfl⟩)) ?_; refine drawh_q [49, 50, 54] rfl rfl rfl (by kernel_rfl) (aq_plain rfl (aop_call0 rfl rfl rfl (fun _ _ => by kernel_rfl) (hst) (.refl _) ⟨rfl, rfl⟩)) ?_; refine drawh_nil (.refl _) ?_; intro β
        (repeat (first | refine aos_nil ?_ | ((refine aos_cons rfl ?_); (first | refine qd rfl rfl ?_ | refine ga rfl rfl rfl rfl rfl (by omega) (by omega) ?_); show AOs _ _ _ _ ((_, _) :: _) _ _) | refine aw_region ?_))
        exact ⟨(k + 1, m), ⟨by show i ≤ k + 1; omega, by show k + 1 ≤ _; omega, hI⟩, by show bs.length + 1 - (k + 1) < bs.length + 1 - k; omega, .eqs rfl⟩
      · have hd : decide ((k : Int) < (bs.length : Int)) = false := by simp; omega
        have hnx : runS a false (bs.drop i) (k - i) = runS a false (bs.drop i) (k + 1 - i - (k + 1 - bs.length)) := by
          rw [show k + 1 - i - (k + 1 - bs.length) = k - i by omega]
        rw [hnx]
        (repeat (first | refine aos_nil ?_ | ((refine aos_cons rfl ?_); (first | refine qd rfl rfl ?_ | refine gc rfl rfl rfl rfl rfl _ (by assumption) ?_ | refine ga rfl rfl rfl rfl rfl (by omega) (by omega) ?_ | refine gn0 rfl rfl rfl ?_); show AOs _ _ _ _ ((_, _) :: _) _ _) | refine aw_seq ?_ | refine aw_region ?_ | refine aw_skip ?_ | refine aw_cond false rfl ?_))
        exact ⟨(k + 1, m), ⟨by show i ≤ k + 1; omega, by show k + 1 ≤ _; omega, hI⟩, by show bs.length + 1 - (k + 1) < bs.length + 1 - k; omega, .eqs rfl⟩
    · have hd : decide ((k : Int) ≤ (bs.length : Int)) = false := by simp; omega
      obtain rfl : k = bs.length + 1 := by omega
      (repeat (first | refine aos_nil ?_ | ((refine aos_cons rfl ?_); (first | refine qd rfl rfl ?_ | refine gc rfl rfl rfl rfl rfl _ (by assumption) ?_ | refine ga rfl rfl rfl rfl rfl (by omega) (by omega) ?_ | refine gn0 rfl rfl rfl ?_); show AOs _ _ _ _ ((_, _) :: _) _ _) | refine aw_seq ?_ | refine aw_region ?_ | refine aw_exit ?_ | refine aw_cond false rfl ?_))
      exact ⟨(i + 1, m), ⟨by show i + 1 ≤ _; omega, hI.next⟩, by show bs.length + 1 - (i + 1) < bs.length + 1 - i; omega, .eqs rfl⟩
  · have hd : decide ((i : Int) ≤ (bs.length : Int)) = false := by simp; omega
    obtain rfl : i = bs.length + 1 := by omega
    have hlr := listR_a m (bs.length + 1) (by omega)
    rw [hI.done] at hlr
    (repeat (first | refine aos_nil ?_ | ((refine aos_cons rfl ?_); (first | refine qd rfl rfl ?_ | refine gc rfl rfl rfl rfl rfl _ (by assumption) ?_ | refine gn0 rfl rfl rfl ?_); show AOs _ _ _ _ ((_, _) :: _) _ _) | refine aw_seq ?_ | refine aw_region ?_ | refine aw_exit ?_ | refine aw_cond false rfl ?_))
    refine aos_le (.freezeAs 56 (j := 0) (dI (flags m (bs.length + 1))) rfl rfl (flagsV_isD _ _) (by rw [flagsV_toD, dI, flags_length])) ?_ rfl
    (refine aos_cons rfl ?_); refine aop_call0 rfl rfl rfl (fun _ _ => by kernel_rfl) (hlr) (.refl _) ?_; show AOs _ _ _ _ ((_, _) :: _) _ _
    (repeat (first | refine aos_nil ?_ | ((refine aos_cons rfl ?_); (refine qd rfl rfl ?_); show AOs _ _ _ _ ((_, _) :: _) _ _) | refine aw_ret ?_))
    exact fpost0 (.inr rfl) (res_tmp2 4 5) rfl
end Go.Proofs.Ytlagablcopmhkaa
/- Walking with descriptions: a queue: a slice of one's own that is read at its begin and appended to at its end. -/
namespace Go.Proofs.Ytlagablcopmhkaa
open Go.RowKit

/-- whose block a slice with room lies in -/
def qOwn (v : Value) (b : Nat) : Prop := ∃ off n cap, v = .slice (some ⟨b, off, none⟩) n cap ∧ 0 < cap
/-- a slice of elements of one cell -/
def QAt (v : Value) (xs : List Value) (w : World) : Prop :=
  (∃ p, v = .slice p 0 0 ∧ xs = []) ∨
  ∃ g off cap, v = .slice (some ⟨g, off, none⟩) xs.length cap ∧ 0 < cap ∧ xs.length ≤ cap ∧ cap ≤ maxLen ∧ (∀ j, j < cap → (w.cell? ⟨g, off + j, none⟩).isSome = true ∧ w.frozen? ⟨g, off + j, none⟩ = false) ∧ (∀ u ∈ xs, u.oneCell' = true) ∧ ∀ (j : Nat) (u : Value), xs[j]? = some u → w.cell? ⟨g, off + j, none⟩ = some u
theorem QAt.st (v : Value) (xs : List Value) : RegSt (qOwn v) (QAt v xs) := fun w1 w2 h h1 => by
  rcases h1 with h1 | ⟨g, off, cap, rfl, hc, h1, h2, h3, h4, h5⟩
  · exact .inl h1
  · have e := h g ⟨off, _, cap, rfl, hc⟩
    exact .inr ⟨g, off, cap, rfl, hc, h1, h2, fun j hj => ⟨by rw [cell_same e]; exact (h3 j hj).1, (frozen_same e _).trans (h3 j hj).2⟩, h4, fun j u hj => (cell_same e _).trans (h5 j u hj)⟩
theorem QAt.lt {v : Value} {xs : List Value} {w : World} (h : QAt v xs w) {b : Nat} (hb : qOwn v b) : b < w.heap.size := by
  obtain ⟨off', n', cap', h2, hp⟩ := hb
  rcases h with ⟨p, rfl, _⟩ | ⟨g, off, cap, rfl, hc, _, _, h3, _⟩
  · simp at h2; omega
  · simp at h2
    obtain ⟨⟨rfl, _⟩, _⟩ := h2
    obtain ⟨u, hu⟩ := Option.isSome_iff_exists.1 (h3 0 hc).1
    exact World.block_lt_of_cell? w _ hu
abbrev Ch.que (v : Value) (xs : List Value) : Ch := .reg (qOwn v) (QAt v xs)
theorem QAt.ok {v : Value} {xs : List Value} {w : World} {S : Nat → Prop} (h : QAt v xs w) : (Ch.que v xs).ok w S := ⟨h, fun _ hb => h.lt hb, QAt.st v xs⟩

/-- a row is a queue -/
theorem Le.toQue {n : Nat} {sl : Sl} {L : List Ch} (j : Nat) {v : Value} {e : TypeId} {m : Nat} {xs : List Value} (hj : L[j]? = some (.row v e 1 m (xs.map V.v))) : Le n sl L sl (L.set j (.que v xs)) := fun w S a hs => by
  obtain ⟨⟨us, hown, hr, hone, hle⟩, hp1⟩ := hs.hp.mem hj
  obtain rfl := RL_vals_eq hr
  have hul : us.length = m := by have := hown.1; omega
  have hq : QAt v us w := by
    rcases hown.2 with ⟨rfl, h0⟩ | ⟨g, cap, cur, rfl, _, hg, hnc, hcm, hcs, htake⟩
    · exact .inl ⟨none, rfl, List.length_eq_zero_iff.1 (by omega)⟩
    · rcases Nat.eq_zero_or_pos cap with h0 | h0
      · subst h0
        exact .inl ⟨some ⟨g, 0, none⟩, by rw [show m = 0 by omega], List.length_eq_zero_iff.1 (by omega)⟩
      · refine .inr ⟨g, 0, cap, by rw [hul], h0, by omega, hcm, fun i hi => ?_, hone, fun i u hi => ?_⟩
        · rw [cell_of_row _ _ _ _ _ _ hg, Nat.zero_add]
          exact ⟨by simp; omega, by simp [World.frozen?, hg]⟩
        · rw [cell_of_row _ _ _ _ _ _ hg, Nat.zero_add]
          rw [← htake, List.getElem?_take] at hi
          split at hi
          · simpa using hi
          · cases hi
  have hsub : ∀ b, qOwn v b → (Ch.row v e 1 m (us.map V.v)).owns b := fun b ⟨off, n', cap', h1, _⟩ => by subst h1; rfl
  have hp2 : Hp w S [.que v us] := ⟨fun c hc => by obtain rfl := List.mem_singleton.1 hc; exact hq.ok, List.pairwise_singleton _ _, fun b hb => hp1.out b (inL_one.2 (hsub b (inL_one.1 hb))), hp1.lt⟩
  obtain ⟨q1, q2⟩ := hs.hp.upd hj hp2 ⟨rfl, rfl, rfl, Nat.le_refl _, fun _ _ _ => rfl, fun _ h => h, fun _ h _ => .inl h, fun b hb _ => inL_one.2 (hsub b (inL_one.1 hb))⟩
  exact ⟨S, ⟨q1, hs.size, hs.sl, hs.df.move q2⟩, q2⟩
section
variable {P : Program} {n : Nat} {ro : Option Nat} {sl : Sl} {L : List Ch} {Q : Exit → Sl → List Ch → Prop} {o : Oper} {K : Sl → List Ch → Prop}
/-- the form of a queue -/
theorem aw_queShape {c : Code} {v : Value} {xs : List Value} (j : Nat) (hj : L[j]? = some (.que v xs)) (h : ∀ p cap, v = .slice p xs.length cap → xs.length ≤ cap → cap ≤ maxLen → (xs ≠ [] → ∃ g off, p = some ⟨g, off, none⟩ ∧ ∀ w, QAt v xs w → ∀ (i : Nat) (u : Value), xs[i]? = some u → w.cell? ⟨g, off + i, none⟩ = some u) → AW P n ro c sl L Q) : AW P n ro c sl L Q := fun w S a B hs hb Qr hQr => by
  have hq := ((hs.hp.mem hj).1).1
  rcases hq with ⟨p, rfl, rfl⟩ | ⟨g, off, cap, rfl, hc, h1, h2, h3, h4, h5⟩
  · exact h p 0 rfl (Nat.le_refl _) (Nat.zero_le _) (fun h => absurd rfl h) w S a B hs hb Qr hQr
  · refine h _ cap rfl h1 h2 (fun _ => ⟨g, off, rfl, fun w' hw' i u hi => ?_⟩) w S a B hs hb Qr hQr
    rcases hw' with ⟨p, h6, h7⟩ | ⟨g', off', cap', h6, _, _, _, _, _, h9⟩
    · rw [h7] at hi; cases hi
    · simp at h6
      obtain ⟨⟨rfl, rfl⟩, _⟩ := h6
      exact h9 i u hi
/-- what stands in a region -/
theorem aop_load_reg {ty : TypeId} {x : Operand} {b o' m : Nat} {u : Value} (j : Nat) {A : Nat → Prop} {Φ : World → Prop} [ht : TyS P ty m false] (ho : o.op = .load ty x) (hd : dstOk n o.dst = true) (hx : ev sl x = .ptr b o') (hj : L[j]? = some (.reg A Φ)) (hc : ∀ w, Φ w → w.cell? ⟨b, o', none⟩ = some u)
    (hK : K (put sl o.dst (.v u)) L) : AOp P n o sl L K :=
  .val hd _ (fun w S a hs => ⟨u, by simp [execOp, ho, hs.evv hx, run_loadAt_cell ht (hc w ((hs.hp.mem hj).1).1)], .v _⟩) hK
/-- a queue without its first -/
theorem aop_que_tail {t e : TypeId} {x y : Operand} {bytes : Nat} {p : Option Addr} {m cap : Nat} [ht : TyL P t e 1 bytes] (ho : o.op = .slice t x (some y) none none) (hd : dstOk n o.dst = true) (hx : ev sl x = .v (.slice p m cap)) (hy : ev sl y = .i 1) (hm : 1 ≤ m) (hc : m ≤ cap)
    (hK : K (put sl o.dst (.v (.slice (if cap = 1 then p else p.map (·.add 1)) (m - 1) (cap - 1)))) L) : AOp P n o sl L K :=
  aop_pure hd _ (fun w S a hs => by
    have e1 : ∀ l : Nat, l ≤ m → (Instr.sliceAt t (.slice p m cap) (some (.int .i64 (l : Int))) none none).run P w = .ok (.slice (if cap = l then p else p.map (·.add (l * 1))) (m - l) (cap - l)) w := fun l hl => by
      simp [Instr.sliceAt, Instr.slice, Instr.sliceBounds, Instr.sliceBound, run_underlying ht.und, ht.size, asIntOf, hl, hc]
    have e2 : (Instr.sliceAt t (.slice p m cap) (some (.int .i64 1)) none none).run P w = .ok (.slice (if cap = 1 then p else p.map (·.add 1)) (m - 1) (cap - 1)) w := e1 1 hm
    simp [execOp, ho, hs.evv hx, hs.evv hy, e2]) hK
theorem Le.queTail {n : Nat} {sl : Sl} {L : List Ch} (j : Nat) {p : Option Addr} {m cap : Nat} {x : Value} {xs : List Value} (hj : L[j]? = some (.que (.slice p m cap) (x :: xs))) : Le n sl L sl (L.set j (.que (.slice (if cap = 1 then p else p.map (·.add 1)) (m - 1) (cap - 1)) xs)) := fun w S a hs => by
  obtain ⟨⟨hq, hlt, _⟩, hp1⟩ := hs.hp.mem hj
  rcases hq with ⟨p', _, h⟩ | ⟨g, off, cap', h0, hc, h1, h2, h3, h4, h5⟩
  · cases h
  · simp only [Value.slice.injEq] at h0
    obtain ⟨rfl, rfl, rfl⟩ := h0
    have hq2 : QAt (.slice (if cap = 1 then some ⟨g, off, none⟩ else (some (⟨g, off, none⟩ : Addr)).map (·.add 1)) ((x :: xs).length - 1) (cap - 1)) xs w := by
      by_cases hc1 : cap = 1
      · subst hc1
        have : xs = [] := List.length_eq_zero_iff.1 (by have h9 : xs.length + 1 ≤ 1 := h1; omega)
        subst this
        exact .inl ⟨_, rfl, rfl⟩
      · rw [if_neg hc1]
        refine .inr ⟨g, off + 1, cap - 1, by simp [Addr.add], by omega, by have h9 : xs.length + 1 ≤ cap := h1; omega, by omega, fun i hi => ?_, fun u hu => h4 u (List.mem_cons_of_mem _ hu), fun i u hi => ?_⟩
        · rw [show off + 1 + i = off + (i + 1) by omega]
          exact h3 (i + 1) (by omega)
        · rw [show off + 1 + i = off + (i + 1) by omega]
          exact h5 (i + 1) u (by simpa using hi)
    have hsub : ∀ b, qOwn (.slice (if cap = 1 then some ⟨g, off, none⟩ else (some (⟨g, off, none⟩ : Addr)).map (·.add 1)) ((x :: xs).length - 1) (cap - 1)) b → qOwn (.slice (some ⟨g, off, none⟩) (x :: xs).length cap) b := fun b ⟨off', n', cap', h6, h7⟩ => by
      by_cases hc1 : cap = 1
      · subst hc1; simp at h6; omega
      · rw [if_neg hc1] at h6
        simp [Addr.add] at h6
        obtain ⟨⟨rfl, _⟩, _⟩ := h6
        exact ⟨off, _, cap, rfl, hc⟩
    have hp2 : Hp w S [.que (.slice (if cap = 1 then some ⟨g, off, none⟩ else (some (⟨g, off, none⟩ : Addr)).map (·.add 1)) ((x :: xs).length - 1) (cap - 1)) xs] := ⟨fun c hc => by obtain rfl := List.mem_singleton.1 hc; exact hq2.ok, List.pairwise_singleton _ _, fun b hb => hp1.out b (inL_one.2 (hsub b (inL_one.1 hb))), hp1.lt⟩
    obtain ⟨q1, q2⟩ := hs.hp.upd hj hp2 ⟨rfl, rfl, rfl, Nat.le_refl _, fun _ _ _ => rfl, fun _ h => h, fun _ h _ => .inl h, fun b hb _ => inL_one.2 (hsub b (inL_one.1 hb))⟩
    exact ⟨S, ⟨q1, hs.size, hs.sl, hs.df.move q2⟩, q2⟩
/-- more behind a queue -/
theorem aop_que_append {t e : TypeId} {x y : Operand} {j q bytes : Nat} {v : Value} {xs news : List Value} [ht : TyL P t e 1 bytes] (ho : o.op = .call { callee := .builtin .append, args := #[x, y], argTypes := #[t, t] }) (hd : dstOk n o.dst = true)
    (hx : ev sl x = .v v) (hj : L[j]? = some (.que v xs)) (hy : ev sl y = .d (.s q 1 (news.map .v))) (h1 : ∀ u ∈ news, u.oneCell' = true) (hb : (xs.length + q) * bytes ≤ 140737488355328) (hm : xs.length + q ≤ 140737488355328)
    (hK : ∀ v', K (put sl o.dst (.v v')) (L.set j (.que v' (xs ++ news)))) : AOp P n o sl L K := by
  refine .of hd fun w S a hs => ?_
  have h := hs.ev y
  rw [hy] at h
  obtain ⟨p, cap0, hv, hm0, hc0, hcm0, hl0, hp0⟩ := h.und.flat
  rw [Nat.mul_one] at hl0
  obtain ⟨⟨hq, hAl, _⟩, hp1⟩ := hs.hp.mem hj
  obtain ⟨i, z, hi, hiz, hzs, hsz, hby⟩ := ht.info
  have hsrc : ∀ w0 : World, w0 = w → Src P i.size t (.slice p q cap0) q news w0 := fun w0 hw0 => by
    subst hw0
    rcases Nat.eq_zero_or_pos q with h0 | h0
    · subst h0
      have hn : news = [] := List.length_eq_zero_iff.1 hl0
      subst hn
      cases p with
      | none => exact .ofNil _ ht.und _
      | some ad => exact .ofSlice _ ht.und ad 0 cap0 [] (by simp) (by simp) (by simp)
    · obtain ⟨b, off, rfl, hS, hc⟩ := hp0 (by intro hn; rw [hn] at hl0; simp at hl0; omega)
      exact .ofSlice _ ht.und _ q cap0 news (by rw [hl0, hsz, Nat.mul_one]) (fun j u hj => by rw [Addr.add_mid]; exact hc j u hj) h1
  have hxs : ∃ p1 cap1, v = .slice p1 xs.length cap1 ∧ xs.length ≤ cap1 ∧ cap1 ≤ maxLen := by
    rcases hq with ⟨p1, rfl, rfl⟩ | ⟨g, off, cap, rfl, hc, h2, h3, _⟩
    · exact ⟨p1, 0, rfl, Nat.le_refl _, Nat.zero_le _⟩
    · exact ⟨_, cap, rfl, h2, h3⟩
  rcases Nat.eq_zero_or_pos q with hq0 | hq0
  · subst hq0
    have hn : news = [] := List.length_eq_zero_iff.1 hl0
    subst hn
    obtain ⟨p1, cap1, hv1, hle1, _⟩ := hxs
    have hrun := run_append_nothing (P := P) w t t o.type e i ht.und hi p1 xs.length cap1 hle1 (.slice p 0 cap0) (hsrc w rfl)
    refine ⟨v, _, w, S, _, by simp [execOp, ho, resolve, invoke, builtin, hs.evv hx, hv, hv1, hrun], .v _, ?_, ?_, hK v⟩
    · rw [List.append_nil, set_self hj]; exact hs.hp
    · rw [List.append_nil, set_self hj]; exact .refl _ _ _
  · -- the new state, in whichever block
    have fin : ∀ (v' : Value) (w' : World), (Builtin.append_ #[t, t] o.type #[v, .slice p q cap0]).run P w = .ok v' w' → QAt v' (xs ++ news) w' → w'.os = w.os → w'.tape = w.tape → w'.output = w.output → w.heap.size ≤ w'.heap.size → (∀ b, b < w.heap.size → ¬ qOwn v b → w'.heap[b]? = w.heap[b]?) → (∀ b, qOwn v' b → qOwn v b ∨ w.heap.size ≤ b) →
        ∃ v c w' S' L', (execOp a.eval o).run P w = .ok (.value v) w' ∧ R w' S' c v ∧ Hp w' S' L' ∧ Fr w S L w' S' L' ∧ K (put sl o.dst c) L' := fun v' w' hrun hq' e1 e2 e3 e4 e5 e6 => by
      have hf : Fr w S [.que v xs] w' S [.que v' (xs ++ news)] := ⟨e1, e2, e3, e4, fun b hb hn => e5 b hb fun h => hn (inL_one.2 h), fun _ h => h, fun _ h _ => .inl h, fun b hb hlt => inL_one.2 ((e6 b (inL_one.1 hb)).elim id fun h => by omega)⟩
      have hp2 : Hp w' S [.que v' (xs ++ news)] := ⟨fun c hc => by obtain rfl := List.mem_singleton.1 hc; exact hq'.ok, List.pairwise_singleton _ _, fun b hb hS => (e6 b (inL_one.1 hb)).elim (fun h => hp1.out b (inL_one.2 h) hS) (fun h => by have := hp1.lt b hS; omega), fun b hS => Nat.lt_of_lt_of_le (hp1.lt b hS) e4⟩
      obtain ⟨g3, g4⟩ := hs.hp.upd hj hp2 hf
      exact ⟨v', _, w', S, _, by simp [execOp, ho, resolve, invoke, builtin, hs.evv hx, hv, hrun], .v _, g3, g4, hK v'⟩
    have grow : ∀ (p1 : Option Addr) (cap1 : Nat), v = .slice p1 xs.length cap1 → cap1 < xs.length + q → cap1 ≤ maxLen → (Builtin.firstCells i.size xs.length (.slice p1 xs.length cap1)).run P w.drew = .ok xs.toArray w.drew → (∀ u ∈ xs, u.oneCell' = true) → _ := fun p1 cap1 hv1 hlt hcm hold hone => by
      have hrun := run_append_grow_src (P := P) w t t o.type e i z ht.und hi hiz p1 xs.length cap1 xs hold (.slice p q cap0) q news (hsrc w rfl) hlt (by omega) (growslice_fits (by omega) (by rw [hby]; exact hb))
      rw [← hv1] at hrun
      have hge := grownCap_ge w (xs.length + q) cap1 e
      have hmx := grownCap_le_maxLen w (xs.length + q) cap1 e (by unfold maxLen; omega)
      have hheap : (w.drew.alloc (.cells ((xs ++ news).toArray ++ Builtin.zeroCells z.cells (grownCap w (xs.length + q) cap1 e - (xs.length + q))) e)).heap[w.heap.size]? = some (.cells ((xs ++ news).toArray ++ Builtin.zeroCells z.cells (grownCap w (xs.length + q) cap1 e - (xs.length + q))) e) := heap_alloc_new w.drew (.cells ((xs ++ news).toArray ++ Builtin.zeroCells z.cells (grownCap w (xs.length + q) cap1 e - (xs.length + q))) e)
      refine fin _ _ hrun (.inr ⟨w.heap.size, 0, grownCap w (xs.length + q) cap1 e, by rw [List.length_append, hl0], by omega, by rw [List.length_append, hl0]; exact hge, hmx, fun j hj => ?_, ?_, fun j u hj => ?_⟩) rfl rfl rfl (by simp) (fun b hb _ => Below.heap_alloc w.drew _ b hb) (fun b ⟨off', n', cap', h6, _⟩ => .inr (by simp at h6; omega))
      · have hsz2 : (Builtin.zeroCells z.cells (grownCap w (xs.length + q) cap1 e - (xs.length + q))).size = grownCap w (xs.length + q) cap1 e - (xs.length + q) := by
          simp [Builtin.zeroCells, hzs]
        rw [cell_of_row _ _ _ _ _ _ hheap, Nat.zero_add]
        refine ⟨?_, by unfold World.frozen?; rw [show (w.drew.alloc _).heap[w.heap.size]? = _ from hheap]; simp⟩
        have hlt2 : j < ((xs ++ news).toArray ++ Builtin.zeroCells z.cells (grownCap w (xs.length + q) cap1 e - (xs.length + q))).size := by
          rw [Array.size_append, hsz2, List.size_toArray, List.length_append, hl0]; omega
        rw [Array.getElem?_eq_getElem hlt2]; rfl
      · intro u hu
        rcases List.mem_append.1 hu with hu | hu
        · exact hone u hu
        · exact h1 u hu
      · rw [cell_of_row _ _ _ _ _ _ hheap, Nat.zero_add]
        have hlt2 := (List.getElem?_eq_some_iff.1 hj).1
        rw [Array.getElem?_append_left (by simpa using hlt2)]
        simpa using hj
    rcases hq with ⟨p1, hv1, hx0⟩ | ⟨g, off, cap, hv1, hc, h2, h3, h4, h5, h6⟩
    · subst hx0
      exact grow p1 0 hv1 (by simp; omega) (Nat.zero_le _) (by
        cases p1 with
        | none => exact run_firstCells_none w.drew i.size 0 0 0
        | some ad => exact run_firstCells_some w.drew i.size 0 ad 0 0 [] (by simp) (by simp)) (by simp)
    · by_cases hroom : xs.length + q ≤ cap
      · have hrun := run_append_room_src (P := P) w t t o.type e i ht.und hi g off xs.length cap (.slice p q cap0) q news (hsrc w rfl) hroom (fun j hj => by rw [hsz, Nat.mul_one, Nat.add_assoc]; exact (h4 _ (by omega)).1) (fun j hj => by rw [hsz, Nat.mul_one, Nat.add_assoc]; exact (h4 _ (by omega)).2)
        rw [← hv1, hsz, Nat.mul_one] at hrun
        have hS := Shp.setCells g news (off + xs.length) w
        refine fin _ _ hrun (.inr ⟨g, off, cap, by rw [List.length_append, hl0], hc, by rw [List.length_append, hl0]; exact hroom, h3, fun j hj => ?_, ?_, fun j u hj => ?_⟩) hS.os hS.tape hS.output (by rw [hS.size]; exact Nat.le_refl _) (fun b hb hn => hS.same b fun e => hn (by subst e; exact ⟨off, _, cap, hv1, hc⟩)) (fun b ⟨off', n', cap', h7, h8⟩ => .inl (by simp at h7; obtain ⟨⟨rfl, rfl⟩, _⟩ := h7; exact ⟨off, _, cap, hv1, hc⟩))
        · exact ⟨by rw [hS.cell]; exact (h4 j hj).1, (hS.fz _).trans (h4 j hj).2⟩
        · intro u hu
          rcases List.mem_append.1 hu with hu | hu
          · exact h5 u hu
          · exact h1 u hu
        · by_cases hjx : j < xs.length
          · rw [World.cell?_setCells_out g news _ w _ (fun _ _ => .inl (by simp only; omega))]
            exact h6 j u (by rwa [List.getElem?_append_left hjx] at hj)
          · rw [List.getElem?_append_right (by omega)] at hj
            have hlt := (List.getElem?_eq_some_iff.1 hj).1
            have := World.cell?_setCells_in g news (off + xs.length) w (fun i hi => by rw [Nat.add_assoc]; exact (h4 _ (by omega)).1) (j - xs.length) hlt
            rw [show off + xs.length + (j - xs.length) = off + j by omega] at this
            rw [this, ← hj, List.getElem?_eq_getElem hlt]
      · refine grow _ cap hv1 (by omega) h3 (run_firstCells_some w.drew i.size xs.length _ xs.length cap xs (by rw [hsz, Nat.mul_one]) (fun j u hj => by rw [Addr.add_mid]; simpa using h6 j u hj)) h5
end
end Go.Proofs.Ytlagablcopmhkaa
/- slices.Clone of numbers, as a row of one's own. -/
namespace Go.Proofs.Ytlagablcopmhkaa
open Go.RowKit

section
variable {P : Program} {n : Nat} {o : Oper} {sl : Sl} {L : List Ch} {K : Sl → List Ch → Prop}
/-- an empty slice literal, as a row of one's own -/
theorem aop_buildRow0 {t e : TypeId} {k bytes : Nat} {z : List Value} [ht : TyL P t e k bytes] [hz : TyZL P e z] (ho : o.op = .buildSlice t 0 #[]) (hd : dstOk n o.dst = true) (hK : ∀ v, K (put sl o.dst (.v v)) (.row v e k 0 [] :: L)) : AOp P n o sl L K := by
  refine .of hd fun w S a hs => ?_
  obtain ⟨i, v, hi, hiz, hic⟩ := hz.info
  have hrun : (Instr.buildSlice t 0 #[]).run P w = .ok (.slice (some ⟨w.heap.size, 0, none⟩) 0 0) (w.alloc (.cells #[] e)) := by
    simp [Instr.buildSlice, run_underlying ht.und, sizeOf, typeInfo, zeroValue, hi, hiz, newRow, Instr.fill]
    have h0 : Array.range 0 = #[] := by decide
    rw [h0]
    simp
  obtain ⟨h3, h4⟩ := hs.hp.newRow (w' := w.alloc (.cells #[] e)) (v := .slice (some ⟨w.heap.size, 0, none⟩) 0 0) (e := e) (k := k) (m := 0) (us := []) (cs := []) (World.grownBy_alloc w _ none)
    ⟨by simp, .inr ⟨w.heap.size, 0, #[], rfl, Nat.zero_le _, heap_alloc_new w _, Nat.le_refl _, by unfold maxLen; omega, by simp, by simp⟩⟩ rfl (.nil _ _) (by simp) (by omega)
  exact ⟨_, _, w.alloc (.cells #[] e), S, _, by simp [execOp, ho, hrun], .v _, h3, h4, hK _⟩
/-- whether data is nil: it may be so if it is empty -/
theorem aop_isnil {t t' e : TypeId} {x y : Operand} {m k k' bytes : Nat} {ds : List D} [ht : TyL P t e k' bytes] (hk : 0 < k) (ho : o.op = .binOp .eql t x y t') (hd : dstOk n o.dst = true) (hx : ev sl x = .d (.s m k ds)) (hy : ev sl y = .nil)
    (h1 : m = 0 → K (put sl o.dst (.b true)) L) (h2 : K (put sl o.dst (.b false)) L) : AOp P n o sl L K := by
  intro w S a hs nx Q hnx
  have h := hs.ev x
  rw [hx] at h
  obtain ⟨p, cap, us, hv, _, _, _, hdl, hul, hp, _⟩ := h.und.slice
  have hrun : (execOp a.eval o).run P w = .ok (.value (.bool p.isNone)) w := by
    simp [execOp, ho, hv, hs.evv hy, eqGuard, Lib.run_eql_slice_nil w t e p m cap 0 0 ht.und]
  unfold Oper.wp
  rw [hrun, Oper.upon_value]
  cases p with
  | none =>
    have hm : m = 0 := by
      rcases Nat.eq_zero_or_pos m with h0 | h0
      · exact h0
      · obtain ⟨b, off, hb, _⟩ := hp (by intro hn; rw [hn] at hul; rw [hdl] at hul; have := Nat.mul_pos h0 hk; simp at hul; omega)
        cases hb
    exact hnx _ _ S _ w (h1 hm) (hs.put hd (.refl _ _ _) hs.hp (.v _)) (.refl _ _ _) ⟨_, rfl⟩
  | some ad => exact hnx _ _ S _ w h2 (hs.put hd (.refl _ _ _) hs.hp (.v _)) (.refl _ _ _) ⟨_, rfl⟩
end

set_option maxRecDepth 100000
theorem cloneI_row {l : List Int} (hl : l.length ≤ 1000000) : AC Try.prog 44 [.d (dI l)] [] fun r L' => ∃ v, r = .v v ∧ L' = [.row v 3 1 l.length (intsR l)] := by
  refine ac_body _ Try.func44 rfl Try.ntmps44 Try.results44 rfl ?_
  refine aw_seq (aw_region ?_)
  (repeat (first | refine aos_nil ?_ | ((refine aos_cons rfl ?_); (refine qd rfl rfl ?_); show AOs _ _ _ _ ((_, _) :: _) _ _) | refine aw_seq ?_ | refine aw_region ?_))
  refine aos_cons rfl (aop_isnil (by decide) rfl rfl rfl rfl (fun h0 => ?_) ?_)
  · have hl0 : l = [] := List.length_eq_zero_iff.1 h0
    subst hl0
    show AOs _ _ _ _ ((_, _) :: _) _ _
    (repeat (first | refine aos_nil ?_ | ((refine aos_cons rfl ?_); (refine qd rfl rfl ?_); show AOs _ _ _ _ ((_, _) :: _) _ _) | refine aw_seq ?_ | refine aw_region ?_ | refine aw_ret ?_ | refine aw_cond true rfl ?_))
    exact fpost (.inr rfl) (.v (.slice none 0 0)) (.addNil 3 1) (res_tmp 2) (.refl _) ⟨_, rfl, rfl⟩
  · show AOs _ _ _ _ ((_, _) :: _) _ _
    (repeat (first | refine aos_nil ?_ | refine aw_seq ?_ | refine aw_region ?_ | refine aw_skip ?_ | refine aw_cond false rfl ?_))
    refine aos_cons rfl (aop_buildRow0 rfl rfl fun v0 => ?_)
    show AOs _ _ _ _ ((_, _) :: _) (_ :: _) _
    (repeat (((refine aos_cons rfl ?_); (refine qd rfl rfl ?_); show AOs _ _ _ _ ((_, _) :: _) _ _)))
    refine aos_cons rfl (aop_append (j := 0) (m := 0) (q := l.length) (k := 1) (bytes := 8) rfl rfl rfl rfl rfl (dI_one _) (by omega) (by omega) fun v' => ?_)
    show AOs _ _ _ _ ((_, _) :: _) (_ :: _) _
    (repeat (first | refine aos_nil ?_ | ((refine aos_cons rfl ?_); (refine qd rfl rfl ?_); show AOs _ _ _ _ ((_, _) :: _) _ _) | refine aw_ret ?_))
    refine fpost (.inr rfl) (.v v') (.refl _ _) (res_tmp 2) (.refl _) ⟨v', rfl, ?_⟩
    show [Ch.row v' 3 1 (0 + l.length) ([] ++ (l.map fun x => D.v (.int .i64 x)).map V.d)] = _
    rw [Nat.zero_add, List.nil_append, List.map_map]
    rfl
end Go.Proofs.Ytlagablcopmhkaa
