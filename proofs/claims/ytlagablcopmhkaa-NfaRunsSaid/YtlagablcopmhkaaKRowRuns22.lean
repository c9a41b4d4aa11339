/- Packed: AlReach, AlLive, AlTurnLaw, AlRefTurn, AlRefReach -/
import Derived.Test.YtlagablcopmhkaaKRowRuns21
set_option linter.unusedVariables false
set_option linter.unusedSimpArgs false
/- nfa: reached. -/
namespace Go.Proofs.Ytlagablcopmhkaa
open Go.RowKit

theorem has_a {b o m p : Nat} {ch : Ch} (hb : ch.bitsAt b o m) (hp : p < 448) : AC Try.prog 115 [.ptr b o, .i p] [ch] fun r L' => r = .b (m.testBit p) ∧ L' = [ch] :=
  ac_realL fun w S vs hp0 hr => by
    obtain ⟨v, v', rfl, h, h'⟩ := hr.two
    obtain rfl := h.unv
    obtain rfl := h'.unv
    refine (bits_has p hp (bitsAt_of (hp0.ok ch List.mem_cons_self) hb)).mono ?_
    rintro e w' ⟨rfl, rfl⟩
    exact ⟨_, rfl, .v _, Below.refl _ _⟩

/-- the positions that the first ones lead to -/
inductive Reach (a : Auto) : Nat → Prop
  | first {p : Nat} (h : (p : Int) ∈ a.first) : Reach a p
  | step {p q : Nat} (h : Reach a p) (hq : (q : Int) ∈ a.follow.getD p []) : Reach a q
theorem follow_bd {a : Auto} (hP : RightP a) {p : Nat} {q : Int} (h : q ∈ a.follow.getD p []) : 0 ≤ q ∧ q < (a.sets.length : Int) := by
  rw [List.getD_eq_getElem?_getD] at h
  cases hf : a.follow[p]? with
  | none => rw [hf] at h; cases h
  | some f => rw [hf] at h; exact hP.each f (List.mem_of_getElem? hf) q h
theorem Reach.lt {a : Auto} (hP : RightP a) {p : Nat} (h : Reach a p) : p < a.sets.length := by
  cases h with
  | first h => have := hP.first _ h; omega
  | step _ hq => have := follow_bd hP hq; omega
/-- how many are not in yet -/
def unset (n m : Nat) : Nat := (List.range n).countP fun t => !m.testBit t
theorem unset_succ (n m : Nat) : unset (n + 1) m = unset n m + if m.testBit n then 0 else 1 := by
  unfold unset
  rw [List.range_succ, List.countP_append]
  cases h : m.testBit n <;> simp [h]
theorem unset_le (n m : Nat) : unset n m ≤ n := by
  have := List.countP_le_length (p := fun t => !m.testBit t) (l := List.range n)
  rw [List.length_range] at this
  exact this
theorem unset_out {p m : Nat} : ∀ n, n ≤ p → unset n (m ||| 2 ^ p) = unset n m
  | 0, _ => rfl
  | n + 1, h => by
    rw [unset_succ, unset_succ, unset_out n (by omega), Nat.testBit_or, Nat.testBit_two_pow]
    have : decide (p = n) = false := by simp; omega
    rw [this, Bool.or_false]
theorem unset_put {p m : Nat} (hm : m.testBit p = false) : ∀ n, p < n → unset n (m ||| 2 ^ p) + 1 = unset n m
  | 0, h => by omega
  | n + 1, h => by
    rw [unset_succ, unset_succ, Nat.testBit_or, Nat.testBit_two_pow]
    by_cases e : p = n
    · subst e
      rw [unset_out p (Nat.le_refl _), hm]
      simp
    · have h1 := unset_put hm n (by omega)
      have : decide (p = n) = false := by simpa using e
      rw [this, Bool.or_false]
      omega
/-- what stands on the way -/
structure RI (a : Auto) (todo : List Nat) (m : Nat) : Prop where
  left : ∀ t ∈ todo, Reach a t
  seen : ∀ t, m.testBit t = true → Reach a t
  first : ∀ p : Nat, (p : Int) ∈ a.first → m.testBit p = true ∨ p ∈ todo
  step : ∀ p q : Nat, m.testBit p = true → (q : Int) ∈ a.follow.getD p [] → m.testBit q = true ∨ q ∈ todo
  size : 401 * unset a.sets.length m + todo.length ≤ 160800
theorem RI.done {a : Auto} {m : Nat} (h : RI a [] m) (t : Nat) : m.testBit t = true ↔ Reach a t := by
  refine ⟨h.seen t, fun hr => ?_⟩
  induction hr with
  | first hp => exact (h.first _ hp).elim id fun h => by cases h
  | step _ hq ih => exact (h.step _ _ ih hq).elim id fun h => by cases h
theorem RI.skip {a : Auto} {x m : Nat} {todo : List Nat} (h : RI a (x :: todo) m) (hm : m.testBit x = true) : RI a todo m where
  left t ht := h.left t (List.mem_cons_of_mem _ ht)
  seen := h.seen
  first p hp := (h.first p hp).elim .inl fun h => (List.mem_cons.1 h).elim (fun e => .inl (e ▸ hm)) .inr
  step p q hp hq := (h.step p q hp hq).elim .inl fun h => (List.mem_cons.1 h).elim (fun e => .inl (e ▸ hm)) .inr
  size := by have := h.size; simp at this; omega
theorem testBit_put (m x t : Nat) : (m ||| 2 ^ x).testBit t = true ↔ m.testBit t = true ∨ t = x := by
  rw [Nat.testBit_or, Nat.testBit_two_pow, Bool.or_eq_true, decide_eq_true_eq]
  exact ⟨fun h => h.imp id Eq.symm, fun h => h.imp id Eq.symm⟩
theorem RI.put {a : Auto} {x m : Nat} {todo f : List Nat} (hP : RightP a) (hf : a.follow.getD x [] = f.map Int.ofNat) (hl : f.length ≤ 400) (h : RI a (x :: todo) m) (hm : m.testBit x = false) : RI a (todo ++ f) (m ||| 2 ^ x) where
  left t ht := (List.mem_append.1 ht).elim (fun ht => h.left t (List.mem_cons_of_mem _ ht)) fun ht => .step (h.left x List.mem_cons_self) (by rw [hf]; exact List.mem_map.2 ⟨t, ht, rfl⟩)
  seen t ht := ((testBit_put m x t).1 ht).elim (h.seen t) fun e => e ▸ h.left x List.mem_cons_self
  first p hp := (h.first p hp).elim (fun h => .inl ((testBit_put m x p).2 (.inl h))) fun h => (List.mem_cons.1 h).elim (fun e => .inl ((testBit_put m x p).2 (.inr e))) fun h => .inr (List.mem_append_left _ h)
  step p q hp hq := ((testBit_put m x p).1 hp).elim (fun hp => (h.step p q hp hq).elim (fun h => .inl ((testBit_put m x q).2 (.inl h))) fun h => (List.mem_cons.1 h).elim (fun e => .inl ((testBit_put m x q).2 (.inr e))) fun h => .inr (List.mem_append_left _ h)) fun e => by
    subst e
    rw [hf] at hq
    obtain ⟨t, ht, e⟩ := List.mem_map.1 hq
    exact .inr (List.mem_append_right _ (by rw [← Int.ofNat.inj e]; exact ht))
  size := by
    have h1 := h.size
    have h2 := unset_put hm a.sets.length ((h.left x List.mem_cons_self).lt hP)
    simp at h1 ⊢
    omega
theorem RI.start {a : Auto} (hP : RightP a) {f : List Nat} (hf : a.first = f.map Int.ofNat) (hl : f.length ≤ 400) : RI a f 0 where
  left t ht := .first (by rw [hf]; exact List.mem_map.2 ⟨t, ht, rfl⟩)
  seen t ht := by simp at ht
  first p hp := by
    rw [hf] at hp
    obtain ⟨t, ht, e⟩ := List.mem_map.1 hp
    exact .inr (by rw [← Int.ofNat.inj e]; exact ht)
  step p q hp := by simp at hp
  size := by have := unset_le a.sets.length 0; have := hP.len; omega
theorem nats_of {l : List Int} (h : ∀ x ∈ l, 0 ≤ x) : ∃ f : List Nat, l = f.map Int.ofNat := ⟨l.map Int.toNat, by
  rw [List.map_map]
  conv => lhs; rw [← List.map_id l]
  exact List.map_congr_left fun x hx => (Int.toNat_of_nonneg (h x hx)).symm⟩

set_option maxRecDepth 100000 in
theorem zbits : zV [.int .u64 0, .int .u64 0, .int .u64 0, .int .u64 0, .int .u64 0, .int .u64 0, .int .u64 0] = bitsV 0 := by kernel_rfl
/-- numbers as values -/
def natU (l : List Nat) : List Value := l.map fun (t : Nat) => Value.int .i64 (t : Int)
theorem natU_one (l : List Nat) : ∀ u ∈ natU l, u.oneCell' = true := fun u hu => by
  obtain ⟨t, _, rfl⟩ := List.mem_map.1 hu; rfl
set_option exponentiation.threshold 1000 in
set_option maxRecDepth 100000 in
set_option maxHeartbeats 2000000 in
theorem reached_a {a : Auto} (hr : rightA a = true) : AC Try.prog 69 [.a (cellsA a)] [] fun r L' => ∃ m, r = .a (bitsV m) ∧ (∀ t, m.testBit t = true ↔ Reach a t) ∧ L' = [] := by
  have hP := rightP hr
  obtain ⟨l1, l2, l3, l4, l5⟩ := rightA_len hr
  have hcl := cloneI_row (l := a.first) (by omega)
  obtain ⟨f0, hf0⟩ := nats_of (l := a.first) fun x hx => (hP.first x hx).1
  have hf0l : f0.length ≤ 400 := by rw [hf0, List.length_map] at l3; exact l3
  refine ac_body _ Try.func69 rfl Try.ntmps69 Try.results69 rfl ?_
  refine aw_seq (aw_region ?_)
  refine aos_cons rfl (aop_box_a rfl rfl rfl rfl ?_)
  intro b1
  refine aos_cons rfl (aop_alloc rfl rfl ?_)
  intro b2
  show AOs _ _ _ _ ((_, _) :: _) (_ :: _) _
  refine aos_nil (aw_seq (aw_region ?_))
  refine aos_cons rfl (aop_alloc rfl rfl ?_)
  intro b3
  show AOs _ _ _ _ ((_, _) :: _) (_ :: _) _
  (repeat (first | refine aos_nil ?_ | ((refine aos_cons rfl ?_); (first | refine gl rfl rfl rfl (by repeat first | exact .z | apply At.s) (by rfl) ?_ | refine aop_fieldAddr rfl rfl rfl ?_); show AOs _ _ _ _ ((_, _) :: _) _ _) | refine aw_seq ?_ | refine aw_region ?_))
  refine aos_cons rfl (aop_call (L1 := []) rfl rfl rfl (fun _ _ => by kernel_rfl) (.refl _) hcl (.refl _) ?_)
  rintro r L' ⟨v0, rfl, rfl⟩
  refine aos_le (.toQue (v := v0) (e := 3) (m := a.first.length) (xs := natU f0) 0 (by rw [hf0]; simp [intsR, natU])) ?_ rfl
  show AOs _ _ _ _ ((_, _) :: _) (_ :: _) _
  (repeat (first | refine aos_nil ?_ | ((refine aos_cons rfl ?_); (refine qd rfl rfl ?_); show AOs _ _ _ _ ((_, _) :: _) _ _) | refine aw_seq ?_ | refine aw_block ?_))
  refine aw_for (ι := Value × List Nat × Nat) (fun i => [(1, V.ptr b1 0), (2, V.ptr b2 0), (3, V.ptr b3 0), (4, V.v i.1)])
    (fun i => [.que i.1 (natU i.2.1), .box b3 100 (bitsV i.2.2), .box b2 100 (zV [.int .u64 0, .int .u64 0, .int .u64 0, .int .u64 0, .int .u64 0, .int .u64 0, .int .u64 0]), .box b1 26 (cellsA a)])
    (fun i => RI a i.2.1 i.2.2) (fun i => 401 * unset a.sets.length i.2.2 + i.2.1.length) (v0, f0, 0) (.start hP hf0 hf0l) (.eqs' rfl (by rw [zbits]; rfl)) ?_
  rintro ⟨v, todo, m⟩ hI
  have hI : RI a todo m := hI
  show AW _ _ _ _ [(1, V.ptr b1 0), (2, V.ptr b2 0), (3, V.ptr b3 0), (4, V.v v)] [.que v (natU todo), .box b3 100 (bitsV m), .box b2 100 (zV [.int .u64 0, .int .u64 0, .int .u64 0, .int .u64 0, .int .u64 0, .int .u64 0, .int .u64 0]), .box b1 26 (cellsA a)] _
  refine aw_queShape 0 rfl fun p cap hv hle hcm hcell => ?_
  subst hv
  cases todo with
  | nil =>
    have hd : decide ((0 : Int) < ((natU []).length : Int)) = false := rfl
    (repeat (first | refine aos_nil ?_ | ((refine aos_cons rfl ?_); (first | refine qd rfl rfl ?_ | refine gla rfl rfl rfl (by repeat first | exact .z | apply At.s) (by rfl) ?_ | refine gc rfl rfl rfl rfl rfl _ (by assumption) ?_ | refine gn0 rfl rfl rfl ?_ | refine gsa rfl rfl rfl rfl (by repeat first | exact .z | apply At.s) rfl (by rfl) rfl ?_); show AOs _ _ _ _ ((_, _) :: _) _ _) | refine aw_seq ?_ | refine aw_region ?_ | refine aw_exit ?_ | refine aw_ret ?_ | refine aw_cond false rfl ?_))
    exact fpost (.inr rfl) (.a (bitsV m)) (.refl _ _) (res_cell (i := 2) rfl rfl rfl) (List.nil_sublist _) ⟨m, rfl, hI.done, rfl⟩
  | cons x r =>
    have hd : decide ((0 : Int) < ((natU (x :: r)).length : Int)) = true := by simp [natU]
    have hxs := (hI.left x List.mem_cons_self).lt hP
    have hx448 : x < 448 := by have := hP.len; omega
    obtain ⟨g, off, rfl, hc⟩ := hcell (by simp [natU])
    have hpos : 0 < (natU (x :: r)).length := by simp [natU]
    (repeat (first | ((refine aos_cons rfl ?_); refine aop_index_ptr rfl rfl rfl rfl 0 rfl hpos ?_; show AOs _ _ _ _ ((_, _) :: _) _ _) | ((refine aos_cons rfl ?_); refine aop_load_reg 0 rfl rfl rfl rfl (fun w hw => hc w hw 0 (.int .i64 x) rfl) ?_; show AOs _ _ _ _ ((_, _) :: _) _ _) | ((refine aos_cons rfl ?_); refine aop_que_tail rfl rfl rfl rfl hpos hle ?_; show AOs _ _ _ _ ((_, _) :: _) _ _) | refine aos_nil ?_ | ((refine aos_cons rfl ?_); (first | refine qd rfl rfl ?_ | refine gc rfl rfl rfl rfl rfl _ (by assumption) ?_ | refine gn0 rfl rfl rfl ?_); show AOs _ _ _ _ ((_, _) :: _) _ _) | refine aw_seq ?_ | refine aw_region ?_ | refine aw_block ?_ | refine aw_skip ?_ | refine aw_cond true rfl ?_))
    refine aos_le (.queTail (x := .int .i64 x) (xs := natU r) 0 rfl) ?_ rfl
    generalize Value.slice (if cap = 1 then some ⟨g, off, none⟩ else (some (⟨g, off, none⟩ : Addr)).map (·.add 1)) ((natU (x :: r)).length - 1) (cap - 1) = v1
    show AOs _ _ _ _ ((_, _) :: _) (_ :: _) _
    (repeat (first | fail))
    (refine aos_cons rfl ?_); refine aop_callL 1 rfl rfl rfl (fun _ _ => by kernel_rfl) rfl (has_a (b := b3) (o := 0) (m := m) (p := x) (ch := .box b3 100 (bitsV m)) ⟨[], [], rfl, rfl, by simp⟩ hx448) (.refl _) ?_; show AOs _ _ _ _ ((_, _) :: _) _ _
    cases hb : m.testBit x
    · have hxf : x < a.follow.length := by rw [hP.fol]; exact hxs
      obtain ⟨f, hf⟩ := some_at hxf
      obtain ⟨ff, hff⟩ := nats_of (l := f) fun y hy => (hP.each f (List.mem_of_getElem? hf) y hy).1
      have hfl := l5 f (List.mem_of_getElem? hf)
      rw [hff, List.length_map] at hfl
      have hD : dI f = .s ff.length 1 ((natU ff).map .v) := by rw [hff]; simp [dI, natU]
      have hgd : a.follow.getD x [] = ff.map Int.ofNat := by rw [List.getD_eq_getElem?_getD, hf]; exact hff
      have hnx := hI.put hP hgd hfl hb
      have hsz := hI.size
      have hrl : (natU r).length = r.length := by simp [natU]
      simp only [List.length_cons] at hsz
      have hap : natU r ++ natU ff = natU (r ++ ff) := by simp [natU]
      (repeat (first | refine aos_nil ?_ | ((refine aos_cons rfl ?_); (refine qd rfl rfl ?_); show AOs _ _ _ _ ((_, _) :: _) _ _) | refine aw_seq ?_ | refine aw_region ?_ | refine aw_cond true rfl ?_))
      refine aos_cons rfl (aop_call rfl rfl rfl (fun _ _ => by kernel_rfl) (perm_at (i := 1) rfl .emp).1 (put_a (m := m) (p := x) [] [] 0 hx448 rfl) (.refl _) ?_)
      rintro r2 L' ⟨rfl, rfl⟩
      show AOs _ _ _ _ ((_, _) :: _) (_ :: _) _
      (repeat (first | refine aos_nil ?_ | ((refine aos_cons rfl ?_); (first | refine qd rfl rfl ?_ | refine gl rfl rfl rfl (by repeat first | exact .z | apply At.s) (by rfl) ?_ | refine aop_fieldAddr rfl rfl rfl ?_ | refine aop_index rfl rfl rfl rfl _ rfl (by omega) ?_); show AOs _ _ _ _ ((_, _) :: _) _ _) | refine aw_region ?_))
      (refine aos_cons rfl ?_); refine aop_load_e rfl rfl rfl (dL_at hf) ?_; show AOs _ _ _ _ ((_, _) :: _) _ _
      refine aos_cons rfl (aop_que_append (j := 1) (q := ff.length) (news := natU ff) (xs := natU r) (bytes := 8) rfl rfl rfl rfl (congrArg V.d hD) (natU_one ff) (by omega) (by omega) fun v2 => ?_)
      show AOs _ _ _ _ ((_, _) :: _) (_ :: _) _
      (repeat (first | refine aos_nil ?_ | ((refine aos_cons rfl ?_); (refine qd rfl rfl ?_); show AOs _ _ _ _ ((_, _) :: _) _ _)))
      refine ⟨(v2, r ++ ff, m ||| 2 ^ x), hnx, ?_, .trans (.perm (.swap _ _ _)) (.eqs' rfl ?_)⟩
      · have h2 := unset_put hb a.sets.length hxs
        show 401 * unset _ (m ||| 2 ^ x) + (r ++ ff).length < 401 * unset _ m + (r.length + 1)
        rw [List.length_append]
        omega
      · rw [hap]
        rfl
    · (repeat (first | refine aos_nil ?_ | ((refine aos_cons rfl ?_); (refine qd rfl rfl ?_); show AOs _ _ _ _ ((_, _) :: _) _ _) | refine aw_skip ?_ | refine aw_cond false rfl ?_))
      exact ⟨(v1, r, m), hI.skip hb, by show 401 * unset _ m + r.length < 401 * unset _ m + (r.length + 1); omega, .eqs' rfl rfl⟩
end Go.Proofs.Ytlagablcopmhkaa
/- nfa: Live. -/
namespace Go.Proofs.Ytlagablcopmhkaa
open Go.RowKit

theorem bits_of (P : Nat → Prop) : ∀ n : Nat, ∃ m : Nat, ∀ t, m.testBit t = true ↔ t < n ∧ P t
  | 0 => ⟨0, fun t => by simp⟩
  | n + 1 => by
    obtain ⟨m, hm⟩ := bits_of P n
    by_cases h : P n
    · refine ⟨m ||| 2 ^ n, fun t => ?_⟩
      rw [testBit_put, hm]
      constructor
      · rintro (⟨h1, h2⟩ | rfl)
        · exact ⟨by omega, h2⟩
        · exact ⟨by omega, h⟩
      · rintro ⟨h1, h2⟩
        by_cases e : t = n
        · exact .inr e
        · exact .inl ⟨by omega, h2⟩
    · refine ⟨m, fun t => ?_⟩
      rw [hm]
      constructor
      · rintro ⟨h1, h2⟩; exact ⟨by omega, h2⟩
      · rintro ⟨h1, h2⟩
        refine ⟨?_, h2⟩
        rcases Nat.lt_succ_iff_lt_or_eq.1 h1 with h3 | h3
        · exact h3
        · subst h3; exact absurd h2 h
/-- those that the first ones lead to, as a set -/
noncomputable def reachM (a : Auto) : Nat := Classical.choose (bits_of (Reach a) a.sets.length)
theorem reachM_iff (a : Auto) (t : Nat) : (reachM a).testBit t = true ↔ t < a.sets.length ∧ Reach a t := Classical.choose_spec (bits_of (Reach a) a.sets.length) t
theorem reachM_eq {a : Auto} (hP : RightP a) {m : Nat} (h : ∀ t, m.testBit t = true ↔ Reach a t) : m = reachM a := by
  apply Nat.eq_of_testBit_eq
  intro t
  rw [Bool.eq_iff_iff, h, reachM_iff]
  exact ⟨fun h => ⟨h.lt hP, h⟩, fun h => h.2⟩
theorem reachedM_a {a : Auto} (hr : rightA a = true) : AC Try.prog 69 [.a (cellsA a)] [] fun r L' => r = .a (bitsV (reachM a)) ∧ L' = [] :=
  (reached_a hr).mono fun r L' ⟨m, h1, h2, h3⟩ => ⟨by rw [h1, reachM_eq (rightP hr) h2], h3⟩

/-- turned, it is right -/
def RightT (a : Auto) : Prop := rightA (turnA a) = true
set_option exponentiation.threshold 1000 in
set_option maxRecDepth 100000 in
set_option maxHeartbeats 2000000 in
theorem Live_a {a : Auto} (hr : rightA a = true) (ht : RightT a) : AC Try.prog 20 [.a (cellsA a)] [] fun r L' => r = .t [.d (dI (ints (bitsL (reachM a &&& reachM (turnA a))))), .i 0] ∧ L' = [] := by
  have hta := turn_a a hr
  have h1 := reachedM_a hr
  have h2 := reachedM_a ht
  generalize reachM a = m at h1
  generalize reachM (turnA a) = m2 at h2
  refine ac_body _ Try.func20 rfl Try.ntmps20 Try.results20 rfl ?_
  refine aw_seq (aw_region ?_)
  refine aos_cons rfl (aop_box_a rfl rfl rfl rfl ?_)
  intro b1
  show AOs _ _ _ _ ((_, _) :: _) (_ :: _) _
  (repeat (first | ((refine aos_cons rfl ?_); refine aop_call0 rfl rfl rfl (fun _ _ => by kernel_rfl) (hta) (.refl _) ?_; show AOs _ _ _ _ ((_, _) :: _) _ _) | refine aos_nil ?_ | ((refine aos_cons rfl ?_); (first | refine qd rfl rfl ?_ | refine qa rfl rfl ?_ | refine qt rfl rfl ?_ | refine gla rfl rfl rfl (by repeat first | exact .z | apply At.s) (by rfl) ?_); show AOs _ _ _ _ ((_, _) :: _) _ _) | refine aw_seq ?_ | refine aw_region ?_))
  refine aos_cons rfl (aop_alloc rfl rfl ?_)
  intro b4
  show AOs _ _ _ _ ((_, _) :: _) (_ :: _) _
  (repeat (first | refine aos_nil ?_ | ((refine aos_cons rfl ?_); (first | refine qd rfl rfl ?_ | refine gc rfl rfl rfl rfl rfl _ (by first | assumption | rfl) ?_ | refine gsa rfl rfl rfl rfl (by repeat first | exact .z | apply At.s) rfl (by rfl) rfl ?_); show AOs _ _ _ _ ((_, _) :: _) _ _) | refine aw_seq ?_ | refine aw_region ?_ | refine aw_skip ?_ | refine aw_cond false rfl ?_))
  refine aw_le (sl' := [(1, V.ptr b1 0), (4, V.ptr b4 0)]) (.eqs rfl) ?_
  refine aw_drawH 6 [17, 18, 19, 20, 6, 7] (by kernel_rfl) (by kernel_rfl) rfl (by kernel_rfl) ?_; refine drawh_q [] rfl rfl rfl (by kernel_rfl) (aq_plain rfl (by exact gla rfl rfl rfl (by repeat first | exact .z | apply At.s) (by rfl) ⟨rfl, rfl⟩)) ?_; refine drawh_q [17] rfl rfl rfl (by kernel_rfl) (aq_plain rfl (by exact aop_call0 rfl rfl rfl (fun _ _ => by kernel_rfl) (h1) (.refl _) ⟨rfl, rfl⟩)) ?_; refine drawh_q [] rfl rfl rfl (by kernel_rfl) (aq_plain rfl (by exact gla rfl rfl rfl (by repeat first | exact .z | apply At.s) (by rfl) ⟨rfl, rfl⟩)) ?_; refine drawh_q [18, 19] rfl rfl rfl (by kernel_rfl) (aq_plain rfl (by exact aop_call0 rfl rfl rfl (fun _ _ => by kernel_rfl) (h2) (.refl _) ⟨rfl, rfl⟩)) ?_; refine drawh_al rfl rfl rfl rfl ?_; refine drawh_al rfl rfl rfl rfl ?_; refine drawh_nil (.refl _) ?_; intro β
  refine aos_cons rfl (aop_store_all (i := 1) rfl rfl rfl rfl rfl rfl rfl rfl ?_)
  show AOs _ _ _ _ ((_, _) :: _) (_ :: _) _
  refine aos_cons rfl (aop_store_all (i := 0) rfl rfl rfl rfl rfl rfl rfl rfl ?_)
  show AOs _ _ _ _ ((_, _) :: _) (_ :: _) _
  (repeat (first | refine aos_nil ?_ | ((refine aos_cons rfl ?_); (refine qd rfl rfl ?_); show AOs _ _ _ _ ((_, _) :: _) _ _) | refine aw_seq ?_ | refine aw_region ?_ | refine aw_block ?_))
  obtain ⟨b6, hb6⟩ : ∃ b6, b6 = (β 4).1 := ⟨_, rfl⟩
  obtain ⟨b7, hb7⟩ : ∃ b7, b7 = (β 5).1 := ⟨_, rfl⟩
  refine aw_for (ι := Nat) (fun k => [(6, V.ptr b6 0), (7, V.ptr b7 0), (21, V.i k)]) (fun k => [.box b7 100 (bitsV m2), .box b6 100 (bitsH m (m &&& m2) k)])
    (fun k => k ≤ 7) (fun k => 7 - k) 0 (Nat.zero_le _) ?_ ?_
  · subst hb6 hb7
    rw [bitsH_zero]
    exact .trans (.sub (.cons_cons _ (.cons_cons _ (.cons _ (.cons _ (.refl _)))))) (.eqs' rfl rfl)
  clear hb6 hb7
  intro k hk
  by_cases hlt : k < 7
  · have hd : decide ((k : Int) < 7) = true := by simp; omega
    have q1 : (bitsH m (m &&& m2) k)[0 + k * 1]? = some (V.v (.int .u64 (bw m k))) := by
      rw [Nat.mul_one, Nat.zero_add, bitsH_at _ _ _ _ hlt, if_neg (Nat.lt_irrefl _)]
    have q2 : (bitsV m2)[0 + k * 1]? = some (V.v (.int .u64 (bw m2 k))) := by rw [Nat.mul_one, Nat.zero_add]; exact bitsV_own m2 k hlt
    have q3 : Nat.blt (0 + k * 1) (bitsH m (m &&& m2) k).length = true := by simp [bitsH_length]; omega
    (repeat (first | refine aos_nil ?_ | ((refine aos_cons rfl ?_); (first | refine qd rfl rfl ?_ | refine gc rfl rfl rfl rfl rfl _ (by assumption) ?_); show AOs _ _ _ _ ((_, _) :: _) _ _) | refine aw_seq ?_ | refine aw_region ?_ | refine aw_block ?_ | refine aw_skip ?_ | refine aw_cond true rfl ?_))
    refine aw_le (sl' := [(6, V.ptr b6 0), (7, V.ptr b7 0), (8, V.i k), (21, V.i k)]) (.eqs rfl) ?_
    refine aw_drawH 8 [24, 25, 26, 27, 28, 29, 30, 31] (by kernel_rfl) (by kernel_rfl) rfl (by kernel_rfl) ?_; refine drawh_q [] rfl rfl rfl (by kernel_rfl) (aq_plain rfl (by exact qd rfl rfl ⟨rfl, rfl⟩)) ?_; refine drawh_q [24] rfl rfl rfl (by kernel_rfl) (aq_plain rfl (by exact aop_index_arr rfl rfl rfl rfl k rfl hlt ⟨rfl, rfl⟩)) ?_; refine drawh_q [25] rfl rfl rfl (by kernel_rfl) (aq_plain rfl (by exact aop_load (i := 1) rfl rfl rfl rfl ⟨rfl, rfl⟩ q1 ⟨rfl, rfl⟩)) ?_; refine drawh_q [] rfl rfl rfl (by kernel_rfl) (aq_plain rfl (by exact qd rfl rfl ⟨rfl, rfl⟩)) ?_; refine drawh_q [27] rfl rfl rfl (by kernel_rfl) (aq_plain rfl (by exact aop_index_arr rfl rfl rfl rfl k rfl hlt ⟨rfl, rfl⟩)) ?_; refine drawh_q [28] rfl rfl rfl (by kernel_rfl) (aq_plain rfl (by exact aop_load (i := 0) rfl rfl rfl rfl ⟨rfl, rfl⟩ q2 ⟨rfl, rfl⟩)) ?_; refine drawh_q [26, 29] rfl rfl rfl (by kernel_rfl) (aq_plain rfl (by exact aop_and rfl rfl rfl rfl ⟨rfl, rfl⟩)) ?_; refine drawh_q [24, 25, 26, 27, 28, 29, 30] rfl rfl rfl (by kernel_rfl) (aq_plain rfl (by exact aop_index_arr rfl rfl rfl rfl k rfl hlt ⟨rfl, rfl⟩)) ?_; refine drawh_nil (.refl _) ?_; intro β
    refine aos_cons rfl (aop_store1 (i := 1) rfl rfl rfl rfl rfl q3 rfl ?_)
    (repeat (first | refine aos_nil ?_ | ((refine aos_cons rfl ?_); (first | refine qd rfl rfl ?_ | refine ga rfl rfl rfl rfl rfl (by omega) (by omega) ?_); show AOs _ _ _ _ ((_, _) :: _) _ _) | refine aw_region ?_))
    refine ⟨k + 1, by omega, by omega, .eqs' rfl ?_⟩
    show [_, Ch.box b6 100 ((bitsH m (m &&& m2) k).set (0 + k * 1) (V.v (.int .u64 (bits .and .u64 (bw m k) (bw m2 k)))))] = _
    rw [bw_and, Nat.mul_one, Nat.zero_add, bitsH_set _ _ _ hlt]
  · have hd : decide ((k : Int) < 7) = false := by simp; omega
    obtain rfl : k = 7 := by omega
    rw [bitsH_full]
    (repeat (first | ((refine aos_cons rfl ?_); refine aop_callL 1 rfl rfl rfl (fun _ _ => by kernel_rfl) rfl (list_a (b := b6) (m := m &&& m2) (ch := .box b6 100 (bitsV (m &&& m2))) ⟨[], [], rfl, rfl, by simp⟩) (.refl _) ?_; show AOs _ _ _ _ ((_, _) :: _) _ _) | refine aos_nil ?_ | ((refine aos_cons rfl ?_); (first | refine qd rfl rfl ?_ | refine gc rfl rfl rfl rfl rfl _ (by assumption) ?_); show AOs _ _ _ _ ((_, _) :: _) _ _) | refine aw_seq ?_ | refine aw_region ?_ | refine aw_exit ?_ | refine aw_ret ?_ | refine aw_cond false rfl ?_))
    exact fpost (.inr rfl) _ (.refl _ _) (res_tmp2 2 3) (List.nil_sublist _) ⟨rfl, rfl⟩
end Go.Proofs.Ytlagablcopmhkaa
/- The turned automaton: what its lists are; it is right. -/
namespace Go.Proofs.Ytlagablcopmhkaa
open Go.RowKit

theorem rises_gt {l : List Int} : ∀ {lo hi : Int}, risesB lo hi l = true → ∀ x ∈ l, lo < x := fun h x hx => (rises_bd h x hx).1
theorem rises_nodup {l : List Int} : ∀ {lo hi : Int}, risesB lo hi l = true → l.Nodup := by
  induction l with
  | nil => intro _ _ _; exact List.nodup_nil
  | cons x l ih =>
    intro lo hi h
    rw [risesB] at h
    split at h
    · cases h
    · exact List.nodup_cons.2 ⟨fun hx => by have := rises_gt h x hx; omega, ih h⟩
theorem goodFrom_at {hi : Int} : ∀ {fs : List (List Int)} {ss : List (BitVec 256)}, fs.length = ss.length → (goodFrom hi fs ss = true ↔ ∀ (i : Nat) (f : List Int) (s : BitVec 256), fs[i]? = some f → ss[i]? = some s → risesB (0 - 1) hi f = true ∧ s ≠ 0)
  | [], [], _ => ⟨fun _ i f s h => by simp at h, fun _ => by simp [goodFrom]⟩
  | f :: fs, s :: ss, h => by
    have ih := goodFrom_at (hi := hi) (fs := fs) (ss := ss) (by simpa using h)
    rw [goodFrom]
    simp only [Bool.and_eq_true, Bool.not_eq_true', beq_eq_false_iff_ne, ne_eq]
    constructor
    · rintro ⟨⟨h1, h2⟩, h3⟩ i f' s' hf hs
      cases i with
      | zero => simp at hf hs; subst hf hs; exact ⟨h1, h2⟩
      | succ i => exact ih.1 h3 i f' s' (by simpa using hf) (by simpa using hs)
    · intro h4
      exact ⟨h4 0 f s rfl rfl, ih.2 fun i f' s' hf hs => h4 (i + 1) f' s' (by simpa using hf) (by simpa using hs)⟩
  | [], _ :: _, h => by simp at h
  | _ :: _, [], h => by simp at h

theorem turnIn_at (p : Int) : ∀ (f : List Int) (T : List (List Int)), f.Nodup → (∀ x ∈ f, 0 ≤ x) → ∀ q : Nat, (turnIn p f T)[q]? = (T[q]?).map fun l => if (q : Int) ∈ f then l ++ [p] else l
  | [], T, _, _, q => by simp [turnIn]
  | x :: f, T, hn, h0, q => by
    obtain ⟨hx, hn2⟩ := List.nodup_cons.1 hn
    obtain ⟨xn, rfl⟩ := Int.eq_ofNat_of_zero_le (h0 x List.mem_cons_self)
    rw [turnIn, turnIn_at p f _ hn2 (fun y hy => h0 y (List.mem_cons_of_mem _ hy)) q, List.getElem?_set]
    have e0 : ((xn : Int)).toNat = xn := rfl
    rw [e0]
    by_cases e : xn = q
    · subst e
      rw [if_pos rfl]
      by_cases hlt : xn < T.length
      · rw [if_pos hlt]
        obtain ⟨l, hl⟩ := some_at hlt
        rw [hl]
        simp [hx, hl]
      · rw [if_neg hlt, List.getElem?_eq_none_iff.2 (by omega)]
        rfl
    · rw [if_neg e]
      have e2 : ((q : Int) ∈ (xn : Int) :: f) ↔ (q : Int) ∈ f := by
        rw [List.mem_cons]
        constructor
        · rintro (h | h)
          · omega
          · exact h
        · exact .inr
      simp only [e2]
theorem turnOut_at : ∀ (r : List (List Int)) (i : Nat) (T : List (List Int)), (∀ f ∈ r, f.Nodup ∧ ∀ x ∈ f, 0 ≤ x) → ∀ q : Nat, (turnOut r i T)[q]? = (T[q]?).map fun l => l ++ ((List.range r.length).filter fun k => decide ((q : Int) ∈ r.getD k [])).map fun k => ((i + k : Nat) : Int)
  | [], i, T, _, q => by simp [turnOut]
  | f :: r, i, T, h, q => by
    obtain ⟨h1, h2⟩ := h f List.mem_cons_self
    rw [turnOut, turnOut_at r (i + 1) _ (fun g hg => h g (List.mem_cons_of_mem _ hg)) q, turnIn_at _ f T h1 h2 q]
    cases hT : T[q]? with
    | none => rfl
    | some l =>
      simp only [Option.map_some]
      congr 1
      rw [List.length_cons, List.range_succ_eq_map, List.filter_cons, List.filter_map]
      have e1 : (fun k => ((i + 1 + k : Nat) : Int)) = (fun k => ((i + k : Nat) : Int)) ∘ Nat.succ := by
        funext k; simp only [Function.comp]; omega
      have e2 : ((fun k => decide ((q : Int) ∈ (f :: r).getD k [])) ∘ Nat.succ) = fun k => decide ((q : Int) ∈ r.getD k []) := by
        funext k; simp
      rw [e2, e1]
      by_cases hq : (q : Int) ∈ f
      · simp [hq, List.map_map]
      · simp [hq, List.map_map]
/-- from where a position is followed -/
def turnL (a : Auto) (q : Nat) : List Nat := (List.range a.follow.length).filter fun p => decide ((q : Int) ∈ a.follow.getD p [])
theorem each_ok {a : Auto} (h : rightA a = true) : ∀ f ∈ a.follow, risesB (0 - 1) (a.sets.length - 1) f = true := fun f hf => by
  have hP := rightP h
  unfold rightA at h
  simp only [Bool.and_eq_true, decide_eq_true_eq] at h
  obtain ⟨i, hi⟩ := List.getElem?_of_mem hf
  have hlt := (List.getElem?_eq_some_iff.1 hi).1
  obtain ⟨s, hs⟩ := some_at (show i < a.sets.length by rw [← hP.fol]; exact hlt)
  exact ((goodFrom_at hP.fol).1 h.2 i f s hi hs).1
theorem turn_at {a : Auto} (h : rightA a = true) {q : Nat} (hq : q < a.follow.length) : (turnA a).follow[q]? = some (ints (turnL a q)) := by
  have := turnOut_at a.follow 0 (List.replicate a.follow.length []) (fun f hf => ⟨rises_nodup (each_ok h f hf), fun x hx => by have := rises_gt (each_ok h f hf) x hx; omega⟩) q
  rw [show (turnA a).follow = turnOut a.follow 0 (List.replicate a.follow.length []) from rfl, this, List.getElem?_replicate, if_pos hq]
  simp [turnL, ints]
theorem turn_follow {a : Auto} (h : rightA a = true) : (turnA a).follow = (List.range a.follow.length).map fun q => ints (turnL a q) := by
  apply List.ext_getElem?
  intro q
  by_cases hq : q < a.follow.length
  · rw [turn_at h hq, List.getElem?_map, List.getElem?_range hq]; rfl
  · rw [List.getElem?_eq_none_iff.2 (by simp [turnA, turnOut_len]; omega), List.getElem?_eq_none_iff.2 (by simp; omega)]
theorem rises_of {hi : Int} : ∀ {l : List Nat} {lo : Int}, l.Pairwise (· < ·) → (∀ x ∈ l, lo < (x : Int) ∧ (x : Int) ≤ hi) → risesB lo hi (ints l) = true
  | [], _, _, _ => rfl
  | x :: l, lo, hp, hb => by
    obtain ⟨h1, h2⟩ := List.pairwise_cons.1 hp
    have hx := hb x List.mem_cons_self
    show risesB lo hi ((x : Int) :: ints l) = true
    rw [risesB, if_neg (by omega)]
    exact rises_of h2 fun y hy => ⟨by have := h1 y hy; omega, (hb y (List.mem_cons_of_mem _ hy)).2⟩
theorem filter_rises (n : Nat) (P : Nat → Bool) : risesB (0 - 1) ((n : Int) - 1) (ints ((List.range n).filter P)) = true :=
  rises_of (List.pairwise_lt_range.filter _) fun x hx => by
    have := List.mem_range.1 (List.mem_filter.1 hx).1
    omega
theorem turn_right {a : Auto} (h : rightA a = true) : rightA (turnA a) = true := by
  have hP := rightP h
  have h0 := h
  unfold rightA at h ⊢
  simp only [Bool.and_eq_true, decide_eq_true_eq] at h ⊢
  obtain ⟨⟨⟨⟨h1, h2⟩, h3⟩, h4⟩, h5⟩ := h
  have hl : (turnA a).follow.length = a.sets.length := by simp [turnA, turnOut_len, h2]
  refine ⟨⟨⟨⟨h1, hl⟩, h4⟩, h3⟩, ?_⟩
  show goodFrom (a.sets.length - 1) (turnA a).follow a.sets = true
  refine (goodFrom_at hl).2 fun i f s hf hs => ?_
  have hi : i < a.follow.length := by have := (List.getElem?_eq_some_iff.1 hs).1; omega
  rw [turn_at h0 hi] at hf
  cases hf
  obtain ⟨g, hg⟩ := some_at hi
  refine ⟨?_, ((goodFrom_at h2).1 h5 i g s hg hs).2⟩
  rw [← h2]
  exact filter_rises _ _
theorem RightT.of {a : Auto} (h : rightA a = true) : RightT a := turn_right h
end Go.Proofs.Ytlagablcopmhkaa
/- The reference's Turn. -/
namespace Go.Proofs.Ytlagablcopmhkaa
open Go.RowKit

/-- from where a position is followed, among the first -/
def turnLk (a : Auto) (q j : Nat) : List Nat := (List.range j).filter fun p => decide ((q : Int) ∈ a.follow.getD p [])
theorem turnLk_succ (a : Auto) (q j : Nat) : turnLk a q (j + 1) = turnLk a q j ++ if (q : Int) ∈ a.follow.getD j [] then [j] else [] := by
  unfold turnLk
  rw [List.range_succ, List.filter_append]
  by_cases h : (q : Int) ∈ a.follow.getD j []
  · rw [if_pos h, List.filter_cons, List.filter_nil, if_pos (decide_eq_true h)]
  · rw [if_neg h, List.filter_cons, List.filter_nil, if_neg (by rw [decide_eq_false h]; simp)]
theorem turnLk_len (a : Auto) (q j : Nat) : (turnLk a q j).length ≤ j := by
  have := List.length_filter_le (fun p => decide ((q : Int) ∈ a.follow.getD p [])) (List.range j)
  rw [List.length_range] at this
  exact this
def natsR (l : List Nat) : List V := intsR (ints l)
def folT (a : Auto) (k : Nat) : List V := (List.range k).map fun q => V.d (dI (ints (turnL a q)))
theorem folT_succ (a : Auto) (k : Nat) : folT a (k + 1) = folT a k ++ [V.d (dI (ints (turnL a k)))] := by
  unfold folT; rw [List.range_succ, List.map_append]; rfl
theorem folT_isD (a : Auto) (k : Nat) : (folT a k).all V.isD = true := by simp [folT, V.isD]
theorem folT_toD {a : Auto} (h : rightA a = true) : (folT a a.follow.length).map V.toD = (turnA a).follow.map dI := by
  rw [turn_follow h, folT, List.map_map, List.map_map]; rfl
set_option maxRecDepth 100000 in
set_option maxHeartbeats 2000000 in
theorem turnRef_a {a : Auto} (hr : rightA a = true) : AC Try.prog 55 [.a (cellsR a)] [] fun r L' => r = .a (cellsR (turnA a)) ∧ L' = [] := by
  have hP := rightP hr
  obtain ⟨l1, l2, l3, l4, l5⟩ := rightA_len hr
  have hfol := hP.fol
  refine ac_body _ Try.func55 rfl Try.ntmps55 Try.results55 rfl ?_
  refine aw_seq (aw_region ?_)
  refine aos_cons rfl (aop_box_a rfl rfl rfl rfl ?_)
  intro b1
  refine aos_cons rfl (aop_alloc rfl rfl ?_)
  intro b2
  show AOs _ _ _ _ ((_, _) :: _) (_ :: _) _
  (repeat (first | refine aos_nil ?_ | ((refine aos_cons rfl ?_); (first | refine gl rfl rfl rfl (by repeat first | exact .z | apply At.s) (by rfl) ?_ | refine aop_fieldAddr rfl rfl rfl ?_); show AOs _ _ _ _ ((_, _) :: _) _ _) | refine aw_seq ?_ | refine aw_region ?_))
  (refine aos_cons rfl ?_); refine aop_build rfl rfl [V.d (dSetsW a.sets), V.nil, V.d (dI a.last), V.d (dI a.first), V.b a.empty] rfl ?_; show AOs _ _ _ _ ((_, _) :: _) _ _
  refine aos_cons rfl (aop_alloc rfl rfl ?_)
  intro b3
  show AOs _ _ _ _ ((_, _) :: _) (_ :: _) _
  (repeat (first | refine aos_nil ?_ | ((refine aos_cons rfl ?_); (first | refine qd rfl rfl ?_ | refine gsa rfl rfl rfl rfl (by repeat first | exact .z | apply At.s) rfl (by rfl) rfl ?_); show AOs _ _ _ _ ((_, _) :: _) _ _) | refine aw_seq ?_ | refine aw_region ?_ | refine aw_block ?_))
  refine aw_le (.addNil 24 1) ?_
  refine aw_for (ι := Nat × Value) (fun i => [(1, V.ptr b1 0), (2, V.ptr b2 0), (3, V.ptr b3 0), (4, V.i i.1)])
    (fun i => [.row i.2 24 1 i.1 (folT a i.1), .box b3 79 [V.d (dSetsW a.sets), V.v i.2, V.d (dI a.last), V.d (dI a.first), V.b a.empty], .box b2 79 [V.nil, V.nil, V.nil, V.nil, V.b false], .box b1 79 (cellsR a)])
    (fun i => i.1 ≤ a.sets.length) (fun i => a.sets.length - i.1) (0, .slice none 0 0) (Nat.zero_le _) (.trans (.perm (.cons _ (.cons _ (.refl _)))) (.eqs' rfl rfl)) ?_
  rintro ⟨i, vo⟩ hi
  have hi : i ≤ a.sets.length := hi
  show AW _ _ _ _ [(1, V.ptr b1 0), (2, V.ptr b2 0), (3, V.ptr b3 0), (4, V.i i)] [.row vo 24 1 i (folT a i), .box b3 79 [V.d (dSetsW a.sets), V.v vo, V.d (dI a.last), V.d (dI a.first), V.b a.empty], .box b2 79 [V.nil, V.nil, V.nil, V.nil, V.b false], .box b1 79 (cellsR a)] _
  refine aw_rowShape 0 rfl fun o1 o2 o3 hvo => ?_
  subst hvo
  by_cases hlt : i < a.sets.length
  · have hd : decide ((i : Int) < (a.sets.length : Int)) = true := by simp; omega
    (repeat (first | refine aos_nil ?_ | ((refine aos_cons rfl ?_); (first | refine qd rfl rfl ?_ | refine gl rfl rfl rfl (by repeat first | exact .z | apply At.s) (by rfl) ?_ | refine aop_fieldAddr rfl rfl rfl ?_ | refine gc rfl rfl rfl rfl rfl _ (by assumption) ?_ | refine gn0 rfl rfl rfl ?_); show AOs _ _ _ _ ((_, _) :: _) _ _) | refine aw_seq ?_ | refine aw_region ?_ | refine aw_block ?_ | refine aw_skip ?_ | refine aw_cond true rfl ?_))
    refine aw_le (.addNil 3 1) ?_
    refine aw_for (ι := Nat × Value) (fun j => [(1, V.ptr b1 0), (2, V.ptr b2 0), (3, V.ptr b3 0), (4, V.i i), (5, V.v j.2), (6, V.i j.1)])
      (fun j => [.row j.2 3 1 (ints (turnLk a i j.1)).length (natsR (turnLk a i j.1)), .row (.slice o1 o2 o3) 24 1 i (folT a i), .box b3 79 [V.d (dSetsW a.sets), V.v (.slice o1 o2 o3), V.d (dI a.last), V.d (dI a.first), V.b a.empty], .box b2 79 [V.nil, V.nil, V.nil, V.nil, V.b false], .box b1 79 (cellsR a)])
      (fun j => j.1 ≤ a.sets.length) (fun j => a.sets.length - j.1) (0, .slice none 0 0) (Nat.zero_le _) (.eqs' rfl rfl) ?_
    rintro ⟨j, vj⟩ hj
    have hj : j ≤ a.sets.length := hj
    show AW _ _ _ _ [(1, V.ptr b1 0), (2, V.ptr b2 0), (3, V.ptr b3 0), (4, V.i i), (5, V.v vj), (6, V.i j)] [.row vj 3 1 (ints (turnLk a i j)).length (natsR (turnLk a i j)), .row (.slice o1 o2 o3) 24 1 i (folT a i), .box b3 79 [V.d (dSetsW a.sets), V.v (.slice o1 o2 o3), V.d (dI a.last), V.d (dI a.first), V.b a.empty], .box b2 79 [V.nil, V.nil, V.nil, V.nil, V.b false], .box b1 79 (cellsR a)] _
    by_cases hjl : j < a.sets.length
    · have hd2 : decide ((j : Int) < (a.sets.length : Int)) = true := by simp; omega
      have hjf : j < a.follow.length := by omega
      obtain ⟨f, hf⟩ := some_at hjf
      have hgd : a.follow.getD j [] = f := by rw [List.getD_eq_getElem?_getD, hf]; rfl
      have hnx := turnLk_succ a i j
      rw [hgd] at hnx
      have hln := turnLk_len a i j
      have hil : (ints (turnLk a i j)).length = (turnLk a i j).length := by simp [ints]
      have hcl := hasR_a f i
      refine aw_rowShape 0 rfl fun j1 j2 j3 hvj => ?_
      subst hvj
      (repeat (first | ((refine aos_cons rfl ?_); refine aop_load_e rfl rfl rfl (dL_at hf) ?_; show AOs _ _ _ _ ((_, _) :: _) _ _) | ((refine aos_cons rfl ?_); refine aop_call0 rfl rfl rfl (fun _ _ => by kernel_rfl) (hcl) (.refl _) ?_; show AOs _ _ _ _ ((_, _) :: _) _ _) | refine aos_nil ?_ | ((refine aos_cons rfl ?_); (first | refine qd rfl rfl ?_ | refine gl rfl rfl rfl (by repeat first | exact .z | apply At.s) (by rfl) ?_ | refine aop_fieldAddr rfl rfl rfl ?_ | refine gc rfl rfl rfl rfl rfl _ (by assumption) ?_ | refine gn0 rfl rfl rfl ?_ | refine aop_index rfl rfl rfl rfl _ rfl (by omega) ?_); show AOs _ _ _ _ ((_, _) :: _) _ _) | refine aw_seq ?_ | refine aw_region ?_ | refine aw_block ?_ | refine aw_skip ?_ | refine aw_cond true rfl ?_))
      cases hq : decide ((i : Int) ∈ f)
      · have hq' : ¬ (i : Int) ∈ f := by simpa using hq
        rw [if_neg hq', List.append_nil] at hnx
        (repeat (first | refine aos_nil ?_ | ((refine aos_cons rfl ?_); (first | refine qd rfl rfl ?_ | refine ga rfl rfl rfl rfl rfl (by omega) (by omega) ?_); show AOs _ _ _ _ ((_, _) :: _) _ _) | refine aw_region ?_ | refine aw_skip ?_ | refine aw_cond false rfl ?_))
        exact ⟨(j + 1, _), hjl, by show a.sets.length - (j + 1) < a.sets.length - j; omega, .eqs' rfl (by rw [hnx])⟩
      · have hq' : (i : Int) ∈ f := by simpa using hq
        rw [if_pos hq'] at hnx
        (repeat (first | ((refine aos_cons rfl ?_); (refine qd rfl rfl ?_); show AOs _ _ _ _ ((_, _) :: _) _ _) | refine aw_region ?_ | refine aw_cond true rfl ?_))
        (refine aos_cons rfl ?_); refine aop_buildSlice (len := 1) (k := 1) rfl rfl [V.i j] rfl rfl (by decide) (by decide) ?_; show AOs _ _ _ _ ((_, _) :: _) _ _
        refine aos_cons rfl (aop_append (j := 0) (m := (ints (turnLk a i j)).length) (q := 1) (k := 1) (bytes := 8) rfl rfl rfl rfl rfl rfl (by omega) (by omega) fun v' => ?_)
        show AOs _ _ _ _ ((_, _) :: _) (_ :: _) _
        (repeat (first | refine aos_nil ?_ | ((refine aos_cons rfl ?_); (first | refine qd rfl rfl ?_ | refine ga rfl rfl rfl rfl rfl (by omega) (by omega) ?_); show AOs _ _ _ _ ((_, _) :: _) _ _) | refine aw_region ?_))
        refine ⟨(j + 1, v'), hjl, by show a.sets.length - (j + 1) < a.sets.length - j; omega, .eqs' rfl ?_⟩
        show _ = [Ch.row v' 3 1 (ints (turnLk a i (j + 1))).length (natsR (turnLk a i (j + 1))), _, _, _, _]
        rw [hnx]
        have e1 : (ints (turnLk a i j ++ [j])).length = (ints (turnLk a i j)).length + 1 := by simp [ints]
        have e2 : natsR (turnLk a i j ++ [j]) = natsR (turnLk a i j) ++ [V.i j] := by simp [natsR, intsR, ints]
        rw [e1, e2]
        rfl
    · have hd2 : decide ((j : Int) < (a.sets.length : Int)) = false := by simp; omega
      obtain rfl : j = a.sets.length := by omega
      have hT : turnLk a i a.sets.length = turnL a i := by rw [turnL, hfol]; rfl
      rw [hT]
      refine aw_le (.trans (.freezeAs 5 (j := 0) (dI (ints (turnL a i))) rfl rfl (intsR_isD _) (intsR_dI _)) (.eqs (sl' := [(1, V.ptr b1 0), (2, V.ptr b2 0), (3, V.ptr b3 0), (4, V.i i), (5, V.d (dI (ints (turnL a i)))), (6, V.i a.sets.length)]) rfl)) ?_
      show AW _ _ _ _ [(1, V.ptr b1 0), (2, V.ptr b2 0), (3, V.ptr b3 0), (4, V.i i), (5, V.d (dI (ints (turnL a i)))), (6, V.i a.sets.length)] [.emp, .row (.slice o1 o2 o3) 24 1 i (folT a i), .box b3 79 [V.d (dSetsW a.sets), V.v (.slice o1 o2 o3), V.d (dI a.last), V.d (dI a.first), V.b a.empty], .box b2 79 [V.nil, V.nil, V.nil, V.nil, V.b false], .box b1 79 (cellsR a)] _
      (repeat (first | refine aos_nil ?_ | ((refine aos_cons rfl ?_); (first | refine qd rfl rfl ?_ | refine gl rfl rfl rfl (by repeat first | exact .z | apply At.s) (by rfl) ?_ | refine aop_fieldAddr rfl rfl rfl ?_ | refine gc rfl rfl rfl rfl rfl _ (by assumption) ?_ | refine gn0 rfl rfl rfl ?_); show AOs _ _ _ _ ((_, _) :: _) _ _) | refine aw_seq ?_ | refine aw_region ?_ | refine aw_exit ?_ | refine aw_cond false rfl ?_))
      (refine aos_cons rfl ?_); refine aop_buildSlice (len := 1) (k := 1) rfl rfl [V.d (dI (ints (turnL a i)))] rfl rfl (by decide) (by decide) ?_; show AOs _ _ _ _ ((_, _) :: _) _ _
      refine aos_cons rfl (aop_append (j := 1) (m := i) (q := 1) (k := 1) (bytes := 24) rfl rfl rfl rfl rfl rfl (by omega) (by omega) fun v' => ?_)
      refine aos_cons rfl (aop_rowOne 1 rfl fun hone => aop_fieldAddr rfl rfl rfl ?_)
      refine aos_cons rfl (aop_store1 (i := 2) rfl rfl rfl rfl rfl rfl hone ?_)
      show AOs _ _ _ _ ((_, _) :: _) (_ :: _) _
      (repeat (first | refine aos_nil ?_ | ((refine aos_cons rfl ?_); (first | refine qd rfl rfl ?_ | refine ga rfl rfl rfl rfl rfl (by omega) (by omega) ?_); show AOs _ _ _ _ ((_, _) :: _) _ _) | refine aw_region ?_))
      refine ⟨(i + 1, v'), hlt, by show a.sets.length - (i + 1) < a.sets.length - i; omega, .trans (.sub (.cons _ (.refl _))) (.eqs' rfl ?_)⟩
      show _ = [Ch.row v' 24 1 (i + 1) (folT a (i + 1)), _, _, _]
      rw [folT_succ]
      rfl
  · have hd : decide ((i : Int) < (a.sets.length : Int)) = false := by simp; omega
    obtain rfl : i = a.sets.length := by omega
    have hfr : cellsR (turnA a) = [.d (dSetsW a.sets), .d (.s a.sets.length 1 ((folT a a.sets.length).map V.toD)), .d (dI a.last), .d (dI a.first), .b a.empty] := by
      have e1 : (turnA a).follow.length = a.sets.length := by simp [turnA, turnOut_len, hfol]
      rw [cellsR, dLists, e1, ← hfol, folT_toD hr]
      rfl
    (repeat (first | refine aos_nil ?_ | ((refine aos_cons rfl ?_); (first | refine qd rfl rfl ?_ | refine gl rfl rfl rfl (by repeat first | exact .z | apply At.s) (by rfl) ?_ | refine gla rfl rfl rfl (by repeat first | exact .z | apply At.s) (by rfl) ?_ | refine aop_fieldAddr rfl rfl rfl ?_ | refine gc rfl rfl rfl rfl rfl _ (by assumption) ?_ | refine gn0 rfl rfl rfl ?_ | refine gsa rfl rfl rfl rfl (by repeat first | exact .z | apply At.s) rfl (by rfl) rfl ?_); show AOs _ _ _ _ ((_, _) :: _) _ _) | refine aw_seq ?_ | refine aw_region ?_ | refine aw_exit ?_ | refine aw_ret ?_ | refine aw_cond false rfl ?_))
    refine fpost (.inr rfl) _ (.freezeIn (j := 0) (i := 2) (o := 1) rfl rfl rfl (folT_isD _ _)) (res_cell (i := 2) rfl rfl rfl) (List.nil_sublist _) ⟨?_, rfl⟩
    rw [hfr]
    rfl
end Go.Proofs.Ytlagablcopmhkaa
/- The reference's reach and Live. -/
namespace Go.Proofs.Ytlagablcopmhkaa
open Go.RowKit

theorem flagsV_at (m n i : Nat) (h : i < n) : (flagsV m n)[i * 1]? = some (V.i (if m.testBit i then 1 else 0)) := by
  rw [Nat.mul_one, flagsV, List.getElem?_map, flags_at m n i h]; rfl
theorem flagsV_put (m n i : Nat) (h : i < n) : (flagsV m n).set (i * 1) (V.i 1) = flagsV (m ||| 2 ^ i) n := by
  rw [Nat.mul_one]; exact flagsV_set m n i h
/-- what is in leads on to what is in -/
def Clo (a : Auto) (m p : Nat) : Prop := m.testBit p = true → ∀ q : Nat, (q : Int) ∈ a.follow.getD p [] → m.testBit q = true
def CloK (a : Auto) (m p k : Nat) : Prop := m.testBit p = true → ∀ q : Nat, (q : Int) ∈ (a.follow.getD p []).take k → m.testBit q = true
structure RJ (a : Auto) (m : Nat) : Prop where
  seen : ∀ t, m.testBit t = true → Reach a t
  first : ∀ p : Nat, (p : Int) ∈ a.first → m.testBit p = true
theorem RJ.put {a : Auto} {m p q : Nat} (h : RJ a m) (hp : m.testBit p = true) (hq : (q : Int) ∈ a.follow.getD p []) : RJ a (m ||| 2 ^ q) where
  seen t ht := ((testBit_put m q t).1 ht).elim (h.seen t) fun e => e ▸ .step (h.seen p hp) hq
  first t ht := (testBit_put m q t).2 (.inl (h.first t ht))
theorem RJ.done {a : Auto} (hP : RightP a) {m : Nat} (h : RJ a m) (hc : ∀ p, p < a.sets.length → Clo a m p) : m = reachM a := reachM_eq hP fun t => ⟨h.seen t, fun hr => by
  induction hr with
  | first hp => exact h.first _ hp
  | step hr hq ih => exact hc _ (hr.lt hP) ih _ hq⟩
/-- a round of the search: what has been looked at -/
structure RK (a : Auto) (m0 m p : Nat) (more : Bool) : Prop where
  j : RJ a m
  old : more = false → m = m0 ∧ ∀ t, t < p → Clo a m t
  new : more = true → unset a.sets.length m < unset a.sets.length m0
theorem RK.put {a : Auto} {m0 m p q : Nat} {more : Bool} (hP : RightP a) (h : RK a m0 m p more) (hp : m.testBit p = true) (hq : (q : Int) ∈ a.follow.getD p []) (hm : m.testBit q = false) : RK a m0 (m ||| 2 ^ q) p true where
  j := h.j.put hp hq
  old := fun e => by cases e
  new := fun _ => by
    have h1 := unset_put hm a.sets.length (by have := follow_bd hP hq; omega)
    cases hmo : more with
    | false => have := (h.old hmo).1; subst this; omega
    | true => have := h.new hmo; omega
theorem RK.next {a : Auto} {m0 m p : Nat} {more : Bool} (h : RK a m0 m p more) (hc : more = false → Clo a m p) : RK a m0 m (p + 1) more where
  j := h.j
  old := fun e => ⟨(h.old e).1, fun t ht => by
    rcases Nat.lt_succ_iff_lt_or_eq.1 ht with h1 | h1
    · exact (h.old e).2 t h1
    · subst h1; exact hc e⟩
  new := h.new
theorem take_succ_mem {l : List Int} {k : Nat} {x y : Int} (hx : l[k]? = some x) (h : y ∈ l.take (k + 1)) : y ∈ l.take k ∨ y = x := by
  rw [List.take_add_one, hx] at h
  simpa using h
theorem firstU {l : List Int} {k : Nat} {x : Int} (hx : l[k]? = some x) (q : Nat) (hq : x = (q : Int)) {m : Nat} (h : ∀ t : Nat, m.testBit t = true ↔ (t : Int) ∈ l.take k) (t : Nat) : (m ||| 2 ^ q).testBit t = true ↔ (t : Int) ∈ l.take (k + 1) := by
  rw [testBit_put, h, List.take_add_one, hx, List.mem_append]
  have e : ((t : Int) = (q : Int)) ↔ t = q := Int.ofNat_inj
  simp [hq, e]
set_option exponentiation.threshold 1000 in
set_option maxRecDepth 100000 in
set_option maxHeartbeats 2000000 in
theorem reachR_a {a : Auto} (hr : rightA a = true) : AC Try.prog 105 [.a (cellsR a)] [] fun r L' => ∃ v, r = .v v ∧ L' = [.row v 3 1 a.sets.length (flagsV (reachM a) a.sets.length)] := by
  have hP := rightP hr
  obtain ⟨l1, l2, l3, l4, l5⟩ := rightA_len hr
  have hfol := hP.fol
  refine ac_body _ Try.func105 rfl Try.ntmps105 Try.results105 rfl ?_
  refine aw_seq (aw_region ?_)
  refine aos_cons rfl (aop_box_a rfl rfl rfl rfl ?_)
  intro b1
  show AOs _ _ _ _ ((_, _) :: _) (_ :: _) _
  (repeat (first | refine aos_nil ?_ | ((refine aos_cons rfl ?_); (first | refine qd rfl rfl ?_ | refine gl rfl rfl rfl (by repeat first | exact .z | apply At.s) (by rfl) ?_ | refine aop_fieldAddr rfl rfl rfl ?_ | refine gn0 rfl rfl rfl ?_); show AOs _ _ _ _ ((_, _) :: _) _ _) | refine aw_seq ?_ | refine aw_region ?_))
  refine aos_cons rfl (aop_make rfl rfl rfl rfl a.sets.length rfl rfl (by omega) (by omega) ?_)
  intro v hv
  rw [flagsV_zero]
  (repeat (first | refine aos_nil ?_ | ((refine aos_cons rfl ?_); (refine qd rfl rfl ?_); show AOs _ _ _ _ ((_, _) :: _) _ _) | refine aw_seq ?_ | refine aw_region ?_ | refine aw_block ?_))
  refine aw_for (ι := Nat × Nat) (fun i => [(1, V.ptr b1 0), (3, V.v v), (4, V.i i.1)]) (fun i => [.row v 3 1 a.sets.length (flagsV i.2 a.sets.length), .box b1 79 (cellsR a)])
    (fun i => i.1 ≤ a.first.length ∧ ∀ t : Nat, i.2.testBit t = true ↔ (t : Int) ∈ a.first.take i.1) (fun i => a.first.length - i.1) (0, 0) ⟨Nat.zero_le _, fun t => by simp⟩ (.eqs rfl) ?_
  rintro ⟨k, m⟩ ⟨hk, hm⟩
  simp only at hk hm
  by_cases hlt : k < a.first.length
  · have hd : decide ((k : Int) < (a.first.length : Int)) = true := by simp; omega
    obtain ⟨x, hx⟩ := some_at hlt
    have hxb := hP.first x (List.mem_of_getElem? hx)
    obtain ⟨q, hq⟩ := Int.eq_ofNat_of_zero_le hxb.1
    (repeat (first | refine aos_nil ?_ | ((refine aos_cons rfl ?_); (first | refine qd rfl rfl ?_ | refine gl rfl rfl rfl (by repeat first | exact .z | apply At.s) (by rfl) ?_ | refine aop_fieldAddr rfl rfl rfl ?_ | refine gc rfl rfl rfl rfl rfl _ (by assumption) ?_ | refine gn0 rfl rfl rfl ?_ | refine aop_index rfl rfl rfl rfl _ rfl (by omega) ?_); show AOs _ _ _ _ ((_, _) :: _) _ _) | refine aw_seq ?_ | refine aw_region ?_ | refine aw_block ?_ | refine aw_skip ?_ | refine aw_cond true rfl ?_))
    (refine aos_cons rfl ?_); refine aop_load_e rfl rfl rfl (dI_at hx) ?_; show AOs _ _ _ _ ((_, _) :: _) _ _
    refine aos_cons rfl (aop_index_row (j := 0) rfl rfl rfl rfl rfl q hq (by omega) ?_)
    intro g hgb
    refine aos_cons rfl (aop_store1_row (i := 0) rfl rfl rfl rfl hgb rfl (by rw [flagsV_length]; omega) rfl ?_)
    have hset := flagsV_put m a.sets.length q (by omega)
    (repeat (first | refine aos_nil ?_ | ((refine aos_cons rfl ?_); (first | refine qd rfl rfl ?_ | refine ga rfl rfl rfl rfl rfl (by omega) (by omega) ?_); show AOs _ _ _ _ ((_, _) :: _) _ _) | refine aw_region ?_))
    exact ⟨(k + 1, m ||| 2 ^ q), ⟨hlt, firstU hx q hq hm⟩, by show a.first.length - (k + 1) < a.first.length - k; omega, .eqs' rfl (by show [Ch.row v _ 1 _ ((flagsV m a.sets.length).set (q * 1) (V.i 1)), _] = _; rw [hset])⟩
  have hd : decide ((k : Int) < (a.first.length : Int)) = false := by simp; omega
  obtain rfl : k = a.first.length := by omega
  rw [List.take_length] at hm
  have hJ : RJ a m := ⟨fun t ht => .first ((hm t).1 ht), fun p hp => (hm p).2 hp⟩
  (repeat (first | refine aos_nil ?_ | ((refine aos_cons rfl ?_); (first | refine qd rfl rfl ?_ | refine gl rfl rfl rfl (by repeat first | exact .z | apply At.s) (by rfl) ?_ | refine aop_fieldAddr rfl rfl rfl ?_ | refine gc rfl rfl rfl rfl rfl _ (by assumption) ?_ | refine gn0 rfl rfl rfl ?_); show AOs _ _ _ _ ((_, _) :: _) _ _) | refine aw_seq ?_ | refine aw_region ?_ | refine aw_block ?_ | refine aw_exit ?_ | refine aw_cond false rfl ?_))
  refine aw_for (ι := Bool × Nat) (fun i => [(1, V.ptr b1 0), (3, V.v v), (5, V.b i.1)]) (fun i => [.row v 3 1 a.sets.length (flagsV i.2 a.sets.length), .box b1 79 (cellsR a)])
    (fun i => RJ a i.2 ∧ (i.1 = false → ∀ p, p < a.sets.length → Clo a i.2 p)) (fun i => 2 * unset a.sets.length i.2 + i.1.toNat) (true, m) ⟨hJ, fun e => by cases e⟩ (.eqs rfl) ?_
  clear hm hJ hd m
  rintro ⟨more, m0⟩ ⟨hJ, hC⟩
  simp only at hJ hC
  cases more with
  | false =>
    obtain rfl := hJ.done hP (hC rfl)
    (repeat (first | refine aos_nil ?_ | ((refine aos_cons rfl ?_); (refine qd rfl rfl ?_); show AOs _ _ _ _ ((_, _) :: _) _ _) | refine aw_seq ?_ | refine aw_region ?_ | refine aw_exit ?_ | refine aw_ret ?_ | refine aw_cond false rfl ?_))
    exact fpost (.inr rfl) _ (.refl _ _) (res_tmp 2) ((List.nil_sublist _).cons_cons _) ⟨v, rfl, rfl⟩
  | true =>
    (repeat (first | refine aos_nil ?_ | ((refine aos_cons rfl ?_); (refine qd rfl rfl ?_); show AOs _ _ _ _ ((_, _) :: _) _ _) | refine aw_seq ?_ | refine aw_region ?_ | refine aw_block ?_ | refine aw_skip ?_ | refine aw_cond true rfl ?_))
    refine aw_for (ι := Nat × Bool × Nat) (fun i => [(1, V.ptr b1 0), (3, V.v v), (5, V.b i.2.1), (6, V.i i.1)]) (fun i => [.row v 3 1 a.sets.length (flagsV i.2.2 a.sets.length), .box b1 79 (cellsR a)])
      (fun i => i.1 ≤ a.sets.length ∧ RK a m0 i.2.2 i.1 i.2.1) (fun i => a.sets.length - i.1) (0, false, m0) ⟨Nat.zero_le _, hJ, fun _ => ⟨rfl, fun t ht => absurd ht (Nat.not_lt_zero _)⟩, fun e => by cases e⟩ (.eqs rfl) ?_
    rintro ⟨p, more, m⟩ ⟨hp, hK⟩
    simp only at hp hK
    by_cases hpl : p < a.sets.length
    · have hd2 : decide ((p : Int) < (a.sets.length : Int)) = true := by simp; omega
      obtain ⟨f, hf⟩ := some_at (show p < a.follow.length by omega)
      have hgd : a.follow.getD p [] = f := by rw [List.getD_eq_getElem?_getD, hf]; rfl
      have hfl := l5 f (List.mem_of_getElem? hf)
      (repeat (first | refine aos_nil ?_ | ((refine aos_cons rfl ?_); (first | refine qd rfl rfl ?_ | refine gc rfl rfl rfl rfl rfl _ (by assumption) ?_ | refine gn rfl rfl rfl (by repeat first | exact .z | apply At.s) ?_); show AOs _ _ _ _ ((_, _) :: _) _ _) | refine aw_seq ?_ | refine aw_region ?_ | refine aw_block ?_ | refine aw_skip ?_ | refine aw_cond true rfl ?_))
      refine aw_for (ι := Nat × Bool × Nat) (fun i => [(1, V.ptr b1 0), (3, V.v v), (5, V.b i.2.1), (6, V.i p), (7, V.i i.1)]) (fun i => [.row v 3 1 a.sets.length (flagsV i.2.2 a.sets.length), .box b1 79 (cellsR a)])
        (fun i => i.1 ≤ f.length ∧ RK a m0 i.2.2 p i.2.1 ∧ (i.2.1 = false → CloK a i.2.2 p i.1)) (fun i => f.length - i.1) (0, more, m) ⟨Nat.zero_le _, hK, fun _ _ q hq => by simp at hq⟩ (.eqs rfl) ?_
      clear hK hd2
      rintro ⟨k, more, m⟩ ⟨hk, hK, hL⟩
      simp only at hk hK hL
      have hat := flagsV_at m a.sets.length p hpl
      (repeat (first | ((refine aos_cons rfl ?_); (refine qd rfl rfl ?_); show AOs _ _ _ _ ((_, _) :: _) _ _) | refine aw_seq ?_ | refine aw_region ?_))
      refine aos_cons rfl (aop_index_row (j := 0) rfl rfl rfl rfl rfl p rfl hpl ?_)
      intro g hgb
      cases hb : m.testBit p
      · rw [hb] at hat
        refine aos_cons rfl (aop_load (i := 0) rfl rfl rfl rfl ⟨hgb, rfl⟩ hat ?_)
        (repeat (first | refine aos_nil ?_ | refine aos_no rfl rfl rfl rfl rfl ?_ | ((refine aos_cons rfl ?_); (first | refine qd rfl rfl ?_ | refine gc rfl rfl rfl rfl rfl _ (by first | assumption | rfl) ?_ | refine ga rfl rfl rfl rfl rfl (by omega) (by omega) ?_); show AOs _ _ _ _ ((_, _) :: _) _ _) | refine aw_region ?_ | refine aw_exit ?_ | refine aw_cond false rfl ?_))
        exact ⟨(p + 1, more, m), ⟨hpl, hK.next fun _ h => by rw [hb] at h; cases h⟩, by show a.sets.length - (p + 1) < a.sets.length - p; omega, .eqs rfl⟩
      · rw [hb] at hat
        refine aos_cons rfl (aop_load (i := 0) rfl rfl rfl rfl ⟨hgb, rfl⟩ hat ?_)
        by_cases hkl : k < f.length
        · have hd2 : decide ((k : Int) < (f.length : Int)) = true := by simp; omega
          obtain ⟨x, hx⟩ := some_at hkl
          have hxm := List.mem_of_getElem? hx
          have hxb := follow_bd hP (p := p) (by rw [hgd]; exact hxm)
          obtain ⟨q, hq⟩ := Int.eq_ofNat_of_zero_le hxb.1
          have hqm : (q : Int) ∈ a.follow.getD p [] := by rw [hgd, ← hq]; exact hxm
          have hqt := flagsV_at m a.sets.length q (by omega)
          (repeat (first | ((first | refine aos_cons rfl ?_ | refine aos_yes rfl rfl rfl ?_); refine aop_load_e rfl rfl rfl (dL_at hf) ?_; show AOs _ _ _ _ ((_, _) :: _) _ _) | ((first | refine aos_cons rfl ?_ | refine aos_yes rfl rfl rfl ?_); refine aop_load_e rfl rfl rfl (dI_at hx) ?_; show AOs _ _ _ _ ((_, _) :: _) _ _) | refine aos_nil ?_ | ((first | refine aos_cons rfl ?_ | refine aos_yes rfl rfl rfl ?_); (first | refine qd rfl rfl ?_ | refine gl rfl rfl rfl (by repeat first | exact .z | apply At.s) (by rfl) ?_ | refine aop_fieldAddr rfl rfl rfl ?_ | refine gc rfl rfl rfl rfl rfl _ (by first | assumption | rfl) ?_ | refine gn0 rfl rfl rfl ?_ | refine aop_index rfl rfl rfl rfl _ rfl (by omega) ?_); show AOs _ _ _ _ ((_, _) :: _) _ _) | refine aw_seq ?_ | refine aw_region ?_ | refine aw_block ?_ | refine aw_skip ?_ | refine aw_cond true rfl ?_))
          refine aos_cons rfl (aop_index_row (j := 0) rfl rfl rfl rfl rfl q hq (by omega) ?_)
          intro g2 hgb2
          cases hbq : m.testBit q
          · rw [hbq] at hqt
            refine aos_cons rfl (aop_load (i := 0) rfl rfl rfl rfl ⟨hgb2, rfl⟩ hqt ?_)
            (repeat (first | ((refine aos_cons rfl ?_); refine aop_load_e rfl rfl rfl (dL_at hf) ?_; show AOs _ _ _ _ ((_, _) :: _) _ _) | ((refine aos_cons rfl ?_); refine aop_load_e rfl rfl rfl (dI_at hx) ?_; show AOs _ _ _ _ ((_, _) :: _) _ _) | refine aos_nil ?_ | ((refine aos_cons rfl ?_); (first | refine qd rfl rfl ?_ | refine gl rfl rfl rfl (by repeat first | exact .z | apply At.s) (by rfl) ?_ | refine aop_fieldAddr rfl rfl rfl ?_ | refine gc rfl rfl rfl rfl rfl _ (by first | assumption | rfl) ?_ | refine aop_index rfl rfl rfl rfl _ rfl (by omega) ?_); show AOs _ _ _ _ ((_, _) :: _) _ _) | refine aw_seq ?_ | refine aw_region ?_ | refine aw_cond true rfl ?_))
            refine aos_cons rfl (aop_index_row (j := 0) rfl rfl rfl rfl rfl q hq (by omega) ?_)
            intro g3 hgb3
            refine aos_cons rfl (aop_store1_row (i := 0) rfl rfl rfl rfl hgb3 rfl (by rw [flagsV_length]; omega) rfl ?_)
            have hset := flagsV_put m a.sets.length q (by omega)
            (repeat (first | refine aos_nil ?_ | ((refine aos_cons rfl ?_); (first | refine qd rfl rfl ?_ | refine ga rfl rfl rfl rfl rfl (by omega) (by omega) ?_); show AOs _ _ _ _ ((_, _) :: _) _ _) | refine aw_region ?_))
            exact ⟨(k + 1, true, m ||| 2 ^ q), ⟨hkl, hK.put hP hb hqm hbq, fun e => by cases e⟩, by show f.length - (k + 1) < f.length - k; omega, .eqs' rfl (by show [Ch.row v _ 1 _ ((flagsV m a.sets.length).set (q * 1) (V.i 1)), _] = _; rw [hset])⟩
          · rw [hbq] at hqt
            refine aos_cons rfl (aop_load (i := 0) rfl rfl rfl rfl ⟨hgb2, rfl⟩ hqt ?_)
            (repeat (first | refine aos_nil ?_ | ((refine aos_cons rfl ?_); (first | refine qd rfl rfl ?_ | refine gc rfl rfl rfl rfl rfl _ (by first | assumption | rfl) ?_ | refine ga rfl rfl rfl rfl rfl (by omega) (by omega) ?_); show AOs _ _ _ _ ((_, _) :: _) _ _) | refine aw_region ?_ | refine aw_skip ?_ | refine aw_cond false rfl ?_))
            refine ⟨(k + 1, more, m), ⟨hkl, hK, fun e hb t ht => ?_⟩, by show f.length - (k + 1) < f.length - k; omega, .eqs rfl⟩
            rw [hgd] at ht
            rcases take_succ_mem hx ht with h | h
            · exact hL e hb t (by rw [hgd]; exact h)
            · have : t = q := by omega
              subst this; exact hbq
        · have hd2 : decide ((k : Int) < (f.length : Int)) = false := by simp; omega
          (repeat (first | ((first | refine aos_cons rfl ?_ | refine aos_yes rfl rfl rfl ?_); refine aop_load_e rfl rfl rfl (dL_at hf) ?_; show AOs _ _ _ _ ((_, _) :: _) _ _) | refine aos_nil ?_ | ((first | refine aos_cons rfl ?_ | refine aos_yes rfl rfl rfl ?_); (first | refine qd rfl rfl ?_ | refine gl rfl rfl rfl (by repeat first | exact .z | apply At.s) (by rfl) ?_ | refine aop_fieldAddr rfl rfl rfl ?_ | refine gc rfl rfl rfl rfl rfl _ (by first | assumption | rfl) ?_ | refine ga rfl rfl rfl rfl rfl (by omega) (by omega) ?_ | refine gn0 rfl rfl rfl ?_ | refine aop_index rfl rfl rfl rfl _ rfl (by omega) ?_); show AOs _ _ _ _ ((_, _) :: _) _ _) | refine aw_region ?_ | refine aw_exit ?_ | refine aw_cond false rfl ?_))
          refine ⟨(p + 1, more, m), ⟨hpl, hK.next fun e h t ht => hL e h t ?_⟩, by show a.sets.length - (p + 1) < a.sets.length - p; omega, .eqs rfl⟩
          rw [hgd] at ht ⊢
          rwa [List.take_of_length_le (by omega)]
    · have hd2 : decide ((p : Int) < (a.sets.length : Int)) = false := by simp; omega
      obtain rfl : p = a.sets.length := by omega
      (repeat (first | refine aos_nil ?_ | ((refine aos_cons rfl ?_); (first | refine qd rfl rfl ?_ | refine gc rfl rfl rfl rfl rfl _ (by assumption) ?_ | refine gn rfl rfl rfl (by repeat first | exact .z | apply At.s) ?_); show AOs _ _ _ _ ((_, _) :: _) _ _) | refine aw_seq ?_ | refine aw_region ?_ | refine aw_exit ?_ | refine aw_cond false rfl ?_))
      refine ⟨(more, m), ⟨hK.j, fun e => (hK.old e).2⟩, ?_, .eqs rfl⟩
      show 2 * unset a.sets.length m + more.toNat < 2 * unset a.sets.length m0 + 1
      cases hmo : more with
      | false => have := (hK.old hmo).1; subst this; simp
      | true => have := hK.new hmo; simp; omega
end Go.Proofs.Ytlagablcopmhkaa
