/- Packed: Right, Bits, Auto, Lists -/
import Derived.Laws.AppendOwn
import Derived.Laws.AppendOwnNone
import Derived.Lib.EndianBits
import Derived.StillTailTactics
import Derived.Test.YtlagablcopmhkaaProg
import Derived.Test.YtlagablcopmhkaaKRowRuns1
import Derived.Test.YtlagablcopmhkaaKRowRuns7
set_option linter.unusedVariables false
set_option linter.unusedSimpArgs false
/- rx: which nodes are right by themselves. -/
namespace Go.Proofs.Ytlagablcopmhkaa
open Go.RowKit

def idxK (kd : Int) : List Node → Nat → Int
  | [], _ => -1
  | y :: l, i => if (y.kind : Int) = kd then i else idxK kd l (i + 1)

theorem box_new2 (w : World) (o : Obj) (v : Value) (t : TypeId) : ((w.alloc o).alloc (.cells #[v] t)).cell? ⟨w.heap.size + 1, 0, none⟩ = some v := by
  rw [cell_of_row _ _ 0 _ _ _ (heap_alloc2_new w o (.cells #[v] t))]; rfl

theorem has1_any (y : Node) (sv : Value) (kd : Int) (bk : Nat) (w : World) (hb : w.cell? ⟨bk, 0, none⟩ = some (.int .u8 kd)) :
    Calls Try.prog 163 #[.agg (nodeC y sv), .pointer (some ⟨bk, 0, none⟩)] w fun e w' => e = .returned (.bool ((y.kind : Int) == kd)) ∧ Below w.heap.size w w' := by
  have hlt := World.block_lt_of_cell? w _ hb
  simp only at hlt
  go_enter Try.func163, Try.ntmps163
  go_wp2
  go_ret
  exact ⟨rfl, (Below.refl _ _).alloc (Nat.le_refl _) _⟩

set_option maxHeartbeats 1000000 in
theorem indexK_any {S : Nat → Prop} (l : List Node) (sv : Value) (kd : Int) (bk : Nat) (w : World) (hR : RepL w S l sv) (hb : w.cell? ⟨bk, 0, none⟩ = some (.int .u8 kd)) :
    Calls Try.prog 166 #[sv, .func (.func 163) #[] #[.pointer (some ⟨bk, 0, none⟩)]] w fun e w' => e = .returned (.int .i64 (idxK kd l 0)) ∧ Below w.heap.size w w' := by
  obtain ⟨p, cap, rfl, hm, hcap, hcm, hc⟩ := hR.at
  have hbk := World.block_lt_of_cell? w _ hb
  simp only at hbk
  go_enter Try.func166, Try.ntmps166
  go_wp2
  go_loopw [8] (fun i W => ∃ j : Nat, j ≤ l.length ∧ i = .int .i64 j ∧ Hid (idxK kd l 0 = idxK kd (l.drop j) j) ∧ Below w.heap.size w W) (fun i _ => l.length - (intOf i).toNat)
  case atStart => exact ⟨0, by omega, rfl, rfl, Below.refl _ _⟩
  case round =>
    obtain ⟨j, hj, rfl, hi, hbw⟩ := hrel
    by_cases hlt : j < l.length
    · obtain ⟨y, hy⟩ := some_at hlt
      obtain ⟨b, off, rfl, hS, hbl, sy, hRy, hN⟩ := hc j y hy
      obtain ⟨py, capy, rfl⟩ := hRy.shape
      obtain ⟨c0, c1, c2, c3, c4, c5, c6, c7⟩ := hN.move (hbw.block b hbl)
      have HY := Lib.hid hy; clear hy hc hN
      have hcb := (hbw.cell (p := ⟨bk, 0, none⟩) hbk).trans hb
      have hit : Hid (idxK kd l 0 = if (y.kind : Int) = kd then (j : Int) else idxK kd (l.drop (j + 1)) (j + 1)) := by rw [Hid, hi.out, drop_cons HY.out, idxK]
      rcases eqb y.kind kd with ⟨hk, hK⟩ | ⟨hk, hK⟩
      · have HK := Lib.hid hK; clear hK
        go_wp2_with (go_at_call 163; refine (has1_any y _ kd bk _ hcb).mono ?_; rintro e w' ⟨rfl, hb'⟩)
        go_ret
        exact ⟨ret_int (by have := HK.out; rw [hit.out, if_pos this]), hbw.trans (hb'.mono hbw.size)⟩
      · have HK := Lib.hid hK; clear hK
        go_wp2_with (go_at_call 163; refine (has1_any y _ kd bk _ hcb).mono ?_; rintro e w' ⟨rfl, hb'⟩)
        go_roundw
        case rel => exact ⟨j + 1, by omega, by go_num, by have := HK.out; rw [Hid, hit.out, if_neg this], hbw.trans (hb'.mono hbw.size)⟩
        case measure => simp [intOf]; omega
    · go_wp2
      go_ret
      exact ⟨ret_int (by rw [hi.out, List.drop_of_length_le (by omega), idxK]), hbw⟩

def hasK (kd : Int) (l : List Node) : Bool := l.any fun y => (y.kind : Int) == kd
theorem idxK_ge (kd : Int) (l : List Node) : ∀ i, decide (0 ≤ idxK kd l i) = hasK kd l := by
  induction l with
  | nil => intro i; rfl
  | cons y l ih =>
    intro i
    by_cases h : (y.kind : Int) = kd
    · have e : idxK kd (y :: l) i = i := by rw [idxK, if_pos h]
      rw [e]; simp [hasK, h]
    · have e : idxK kd (y :: l) i = idxK kd l (i + 1) := by rw [idxK, if_neg h]
      rw [e, ih (i + 1)]; simp [hasK, h]

theorem containsK_any {S : Nat → Prop} (l : List Node) (sv : Value) (kd : Int) (bk : Nat) (w : World) (hR : RepL w S l sv) (hb : w.cell? ⟨bk, 0, none⟩ = some (.int .u8 kd)) :
    Calls Try.prog 162 #[sv, .func (.func 163) #[] #[.pointer (some ⟨bk, 0, none⟩)]] w fun e w' => e = .returned (.bool (hasK kd l)) ∧ Below w.heap.size w w' := by
  have hg := Lib.hid (idxK_ge kd l 0)
  obtain ⟨p, cap, rfl⟩ := hR.shape
  go_enter Try.func162, Try.ntmps162
  go_wp2_with (go_at_call 166; refine (indexK_any l _ kd bk _ hR hb).mono ?_; rintro e w' ⟨rfl, hb'⟩)
  go_ret
  exact ⟨ret_bool (by rw [← hg.out]), hb'⟩

theorem has_any {S : Nat → Prop} (x : Node) (sv : Value) (kd : Int) (w : World) (hR : RepL w S x.subs sv) :
    Calls Try.prog 134 #[.agg (nodeC x sv), .int .u8 kd] w fun e w' => e = .returned (.bool (hasK kd x.subs)) ∧ Below w.heap.size w w' := by
  obtain ⟨p, cap, rfl⟩ := hR.shape
  go_enter Try.func134, Try.ntmps134
  go_wp2_with (go_at_call 162; refine (containsK_any x.subs _ kd (w.heap.size + 1) _ (hR.grow (((Below.refl _ w).alloc (Nat.le_refl _) _).alloc (by simp) _)) (box_new2 _ _ _ _)).mono ?_; rintro e w' ⟨rfl, hb'⟩)
  go_ret
  exact ⟨rfl, (((Below.refl _ w).alloc (Nat.le_refl _) _).alloc (by simp) _).trans (hb'.mono (by simp; omega))⟩

theorem eq_set (d : Nat) (a b c e a' b' c' e' : Int) (w : World) :
    (Op.equalIn (d + 2) 38 (.agg #[.int .u64 a, .int .u64 b, .int .u64 c, .int .u64 e]) (.agg #[.int .u64 a', .int .u64 b', .int .u64 c', .int .u64 e'])).run Try.prog w = .ok (a == a' && b == b' && c == c' && e == e') w := by
  have hi : ∀ (x y : Int) w, (Op.equalIn (d + 1) 36 (.int .u64 x) (.int .u64 y)).run Try.prog w = .ok (x == y) w := fun x y w => run_equalIn_int w d 36 .u64 .u64 x y Try.underlying36
  have hs : (sizeOf 36).run Try.prog w = .ok 1 w := by kernel_rfl
  have hp : ∀ (x0 x1 x2 x3 : Int) w, (part 36 #[.int .u64 x0, .int .u64 x1, .int .u64 x2, .int .u64 x3] 0).run Try.prog w = .ok (.int .u64 x0) w ∧
      (part 36 #[.int .u64 x0, .int .u64 x1, .int .u64 x2, .int .u64 x3] 1).run Try.prog w = .ok (.int .u64 x1) w ∧
      (part 36 #[.int .u64 x0, .int .u64 x1, .int .u64 x2, .int .u64 x3] 2).run Try.prog w = .ok (.int .u64 x2) w ∧
      (part 36 #[.int .u64 x0, .int .u64 x1, .int .u64 x2, .int .u64 x3] 3).run Try.prog w = .ok (.int .u64 x3) w := fun x0 x1 x2 x3 w => ⟨by kernel_rfl, by kernel_rfl, by kernel_rfl, by kernel_rfl⟩
  rw [Op.equalIn]
  simp only [Sem.run_bind, run_underlying Try.underlying38, Result.andThen_ok, hs]
  simp [List.range', Sem.run_bind, Sem.run_ite, (hp _ _ _ _ _).1, (hp _ _ _ _ _).2.1, (hp _ _ _ _ _).2.2.1, (hp _ _ _ _ _).2.2.2, hi]
  by_cases h1 : a = a' <;> by_cases h2 : b = b' <;> by_cases h3 : c = c' <;> by_cases h4 : e = e' <;> simp [h1, h2, h3, h4]

theorem words_inj {s t : BitVec 256} (h0 : word s 0 = word t 0) (h1 : word s 1 = word t 1) (h2 : word s 2 = word t 2) (h3 : word s 3 = word t 3) : s = t := by
  apply BitVec.eq_of_toNat_eq
  have a := s.isLt
  have b := t.isLt
  simp only [word] at h0 h1 h2 h3
  omega
def eqSet (s t : BitVec 256) : Bool := decide (s = t)
theorem eqSet_words (s t : BitVec 256) : (word s 0 == word t 0 && word s 1 == word t 1 && word s 2 == word t 2 && word s 3 == word t 3) = eqSet s t := by
  by_cases h : s = t
  · simp [h, eqSet]
  · have : eqSet s t = false := by simp [eqSet, h]
    rw [this]
    by_cases h0 : word s 0 = word t 0 <;> by_cases h1 : word s 1 = word t 1 <;> by_cases h2 : word s 2 = word t 2 <;> by_cases h3 : word s 3 = word t 3
    all_goals first | exact absurd (words_inj h0 h1 h2 h3) h | simp [h0, h1, h2, h3]
def zeroB (s : BitVec 256) : Bool := eqSet s 0
theorem eq_zero (s : BitVec 256) (w : World) : (Op.equalIn 10000 38 (.agg #[.int .u64 (word s 0), .int .u64 (word s 1), .int .u64 (word s 2), .int .u64 (word s 3)]) (.agg #[.int .u64 0, .int .u64 0, .int .u64 0, .int .u64 0])).run Try.prog w = .ok (zeroB s) w := by
  have h := eq_set 9998 (word s 0) (word s 1) (word s 2) (word s 3) (word 0 0) (word 0 1) (word 0 2) (word 0 3) w
  rw [eqSet_words] at h
  exact h

/-- bounds of a Repeat -/
def boundsB (mn mx : Int) : Bool :=
  if mn < 0 ∨ 16 < mn ∨ (mn = 1 ∧ mx = 1) then false else decide (mx = -1) || (decide (1 ≤ mx) && decide (mx ≤ 16) && decide (mn ≤ mx))

set_option maxHeartbeats 1000000 in
theorem bounds_any (mn mx : Int) (w : World) : Calls Try.prog 84 #[.int .i64 mn, .int .i64 mx] w fun e w' => e = .returned (.bool (boundsB mn mx)) ∧ w = w' := by
  by_cases h1 : mn < 0
  · go_enter Try.func84, Try.ntmps84
    go_wp2
    go_ret
    exact ⟨ret_bool (by unfold boundsB; rw [if_pos (by omega)]), rfl⟩
  by_cases h2 : 16 < mn
  · go_enter Try.func84, Try.ntmps84
    go_wp2
    go_ret
    exact ⟨ret_bool (by unfold boundsB; rw [if_pos (by omega)]), rfl⟩
  by_cases h3 : mn = 1 ∧ mx = 1
  · obtain ⟨rfl, rfl⟩ := h3
    go_enter Try.func84, Try.ntmps84
    go_wp2
    go_ret
    exact ⟨ret_bool (by unfold boundsB; rw [if_pos (by omega)]), rfl⟩
  have hb : boundsB mn mx = (decide (mx = -1) || (decide (1 ≤ mx) && decide (mx ≤ 16) && decide (mn ≤ mx))) := by unfold boundsB; rw [if_neg (by omega)]
  have HB := Lib.hid hb; clear hb
  by_cases h4 : mx = -1
  · subst h4
    rcases eqb2 mn 1 with ⟨g1, g2, g3⟩ | ⟨g1, g2, g3⟩
    all_goals
      clear h3
      go_enter Try.func84, Try.ntmps84
      go_wp2
      go_ret
      exact ⟨ret_bool (by rw [HB.out]; simp), rfl⟩
  obtain ⟨g4, g4'⟩ := nepos h4
  rcases eqb2 mn 1 with ⟨g1, g2, g3⟩ | ⟨g1, g2, g3⟩
  · have h5 : mx ≠ 1 := fun h => h3 ⟨g3, h⟩
    obtain ⟨g5, g5'⟩ := nepos h5
    have H4 := Lib.hid h4; clear h3 h4 h5
    by_cases k1 : 1 ≤ mx <;> by_cases k2 : mx ≤ 16 <;> by_cases k3 : mn ≤ mx
    all_goals
      go_enter Try.func84, Try.ntmps84
      go_wp2
      go_ret
      exact ⟨ret_bool (by rw [HB.out]; simp; have := H4.out; have := g3.out; omega), rfl⟩
  · have H4 := Lib.hid h4; clear h3 h4
    by_cases k1 : 1 ≤ mx <;> by_cases k2 : mx ≤ 16 <;> by_cases k3 : mn ≤ mx
    all_goals
      go_enter Try.func84, Try.ntmps84
      go_wp2
      go_ret
      exact ⟨ret_bool (by rw [HB.out]; simp; have := H4.out; omega), rfl⟩

/-- whether a node is right by itself -/
def rightB (x : Node) : Bool :=
  if (x.kind ≠ 2 ∧ x.set ≠ 0) ∨ (x.kind ≠ 5 ∧ (x.min ≠ 0 ∨ x.max ≠ 0)) ∨ (x.kind < 3 ∧ 0 < x.subs.length) then false
  else if x.kind = 1 then true
  else if x.kind = 2 then !zeroB x.set
  else if x.kind = 3 then decide (1 < x.subs.length) && !hasK 1 x.subs && !hasK 3 x.subs
  else if x.kind = 4 then decide (1 < x.subs.length) && !hasK 4 x.subs
  else if x.kind = 5 then decide (x.subs.length = 1) && boundsB x.min x.max && !hasK 1 x.subs
  else decide (x.kind = 6) && decide (x.subs.length = 1)

theorem zeroB_true {s : BitVec 256} (h : zeroB s = true) : s = 0 := by simpa [zeroB, eqSet] using h
theorem zeroB_false {s : BitVec 256} (h : zeroB s = false) : s ≠ 0 := by simpa [zeroB, eqSet] using h
theorem eqSet_true {s t : BitVec 256} (h : eqSet s t = true) : s = t := by simpa [eqSet] using h
theorem eqSet_false {s t : BitVec 256} (h : eqSet s t = false) : s ≠ t := by simpa [eqSet] using h

/-- what is known in the walk of 'right' -/
def StR (w W : World) (S : Nat → Prop) (x : Node) (sv : Value) : Prop := RepL W S x.subs sv ∧ BoxN W w.heap.size x sv ∧ Below w.heap.size w W
theorem StR.new {w : World} {S : Nat → Prop} {x : Node} {sv : Value} (h : RepL w S x.subs sv) (t : TypeId) : StR w (w.alloc (.cells (nodeC x sv) t)) S x sv :=
  ⟨h.grow ((Below.refl _ w).alloc (Nat.le_refl _) _), BoxN.new w x sv t, (Below.refl _ w).alloc (Nat.le_refl _) _⟩
theorem StR.next {w W W' : World} {S : Nat → Prop} {x : Node} {sv : Value} (h : StR w W S x sv) (hb : Below W.heap.size W W') : StR w W' S x sv :=
  ⟨h.1.grow hb, h.2.1.below hb, h.2.2.trans (hb.mono h.2.2.size)⟩

set_option maxRecDepth 100000 in
set_option maxHeartbeats 2000000 in
theorem right_bad {S : Nat → Prop} (x : Node) (sv : Value) (w : World) (hR : RepL w S x.subs sv)
    (hbad : (x.kind ≠ 2 ∧ x.set ≠ 0) ∨ (x.kind ≠ 5 ∧ (x.min ≠ 0 ∨ x.max ≠ 0)) ∨ (x.kind < 3 ∧ 0 < x.subs.length)) :
    Calls Try.prog 108 #[.agg (nodeC x sv)] w fun e w' => e = .returned (.bool false) ∧ Below w.heap.size w w' := by
  obtain ⟨p, cap, rfl⟩ := hR.shape
  have hz := eq_zero x.set
  have key : (((x.kind : Int) != 2) = true ∧ zeroB x.set = false) ∨ ((((x.kind : Int) != 2) = false ∨ (((x.kind : Int) != 2) = true ∧ zeroB x.set = true)) ∧ ((((x.kind : Int) != 5) = true ∧ (x.min != 0) = true) ∨ (((x.kind : Int) != 5) = true ∧ (x.min != 0) = false ∧ (x.max != 0) = true) ∨
      ((((x.kind : Int) != 5) = false ∨ ((x.kind : Int) != 5) = true ∧ (x.min != 0) = false ∧ (x.max != 0) = false) ∧ (x.kind : Int) < 3 ∧ 0 < x.subs.length))) := by
    simp only [bne_iff_ne, ne_eq, bne_eq_false_iff_eq]
    have hzz : (x.kind : Int) = 2 ∨ (¬ (x.kind : Int) = 2 ∧ zeroB x.set = false) ∨ (¬ (x.kind : Int) = 2 ∧ zeroB x.set = true) := by
      cases zeroB x.set <;> simp <;> omega
    rcases hzz with h | h | h
    · refine .inr ⟨.inl h, ?_⟩
      rcases hbad with ⟨h1, _⟩ | h1 | h1 <;> omega
    · exact .inl h
    · refine .inr ⟨.inr h, ?_⟩
      rcases hbad with ⟨_, h1⟩ | h1 | h1
      · exact absurd (zeroB_true h.2) h1
      · omega
      · omega
  clear hbad
  rcases key with ⟨h1, h2⟩ | ⟨h0, h1⟩
  · go_enter Try.func108, Try.ntmps108
    go_wp2_with fail
    go_ret
    exact ⟨rfl, (Below.refl _ _).alloc (Nat.le_refl _) _⟩
  · rcases h0 with h0 | ⟨h0, h00⟩
    all_goals
      rcases h1 with ⟨h2, h3⟩ | ⟨h2, h3, h4⟩ | ⟨h2, h3, h4⟩
      · go_enter Try.func108, Try.ntmps108
        go_wp2_with fail
        go_ret
        exact ⟨rfl, (Below.refl _ _).alloc (Nat.le_refl _) _⟩
      · go_enter Try.func108, Try.ntmps108
        go_wp2_with fail
        go_ret
        exact ⟨rfl, (Below.refl _ _).alloc (Nat.le_refl _) _⟩
      · rcases h2 with h2 | ⟨h2, h5, h6⟩
        all_goals
          go_enter Try.func108, Try.ntmps108
          go_wp2_with fail
          go_ret
          exact ⟨rfl, (Below.refl _ _).alloc (Nat.le_refl _) _⟩
theorem StR.bel {w W : World} {S : Nat → Prop} {x : Node} {sv : Value} (h : StR w W S x sv) : Below w.heap.size w W := h.2.2
theorem StR.rep {w W : World} {S : Nat → Prop} {x : Node} {sv : Value} (h : StR w W S x sv) : RepL W S x.subs sv := h.1

set_option maxRecDepth 100000 in
set_option maxHeartbeats 4000000 in
theorem right_good {S : Nat → Prop} (x : Node) (sv : Value) (w : World) (hR : RepL w S x.subs sv)
    (hgood : ¬ ((x.kind ≠ 2 ∧ x.set ≠ 0) ∨ (x.kind ≠ 5 ∧ (x.min ≠ 0 ∨ x.max ≠ 0)) ∨ (x.kind < 3 ∧ 0 < x.subs.length))) :
    Calls Try.prog 108 #[.agg (nodeC x sv)] w fun e w' => e = .returned (.bool (rightB x)) ∧ Below w.heap.size w w' := by
  obtain ⟨p, cap, rfl⟩ := hR.shape
  have hz := eq_zero x.set
  have hs0 := StR.new hR 41
  have hr : Hid (rightB x = if x.kind = 1 then true
    else if x.kind = 2 then !zeroB x.set
    else if x.kind = 3 then decide (1 < x.subs.length) && !hasK 1 x.subs && !hasK 3 x.subs
    else if x.kind = 4 then decide (1 < x.subs.length) && !hasK 4 x.subs
    else if x.kind = 5 then decide (x.subs.length = 1) && boundsB x.min x.max && !hasK 1 x.subs
    else decide (x.kind = 6) && decide (x.subs.length = 1)) := by rw [Hid, rightB, if_neg hgood]
  have h1 : ((x.kind : Int) != 2) = false ∨ (((x.kind : Int) != 2) = true ∧ zeroB x.set = true) := by
    by_cases h : x.kind = 2
    · exact .inl (by simp [h])
    · refine .inr ⟨by simp; omega, ?_⟩
      cases hz : zeroB x.set
      · exact absurd (.inl ⟨h, zeroB_false hz⟩) hgood
      · rfl
  have h2 : ((x.kind : Int) != 5) = false ∨ (((x.kind : Int) != 5) = true ∧ (x.min != 0) = false ∧ (x.max != 0) = false) := by
    simp only [bne_iff_ne, ne_eq, bne_eq_false_iff_eq]
    have : ¬ (x.kind ≠ 5 ∧ (x.min ≠ 0 ∨ x.max ≠ 0)) := fun h => hgood (.inr (.inl h))
    omega
  have h3 : ¬ (x.kind < 3 ∧ 0 < x.subs.length) := fun h => hgood (.inr (.inr h))
  clear hgood
  by_cases k1 : x.kind = 1
  · obtain ⟨a1, b1⟩ := nepos (show (x.kind : Int) ≠ 2 by omega)
    obtain ⟨a5, b5⟩ := nepos (show (x.kind : Int) ≠ 5 by omega)
    obtain ⟨_, z1⟩ := h1.resolve_left (by rw [b1]; simp)
    obtain ⟨_, z2, z3⟩ := h2.resolve_left (by rw [b5]; simp)
    have e1 : ((x.kind : Int) == 1) = true := by simp [k1]
    have l0 : ¬ 0 < x.subs.length := by omega
    have l3 : (x.kind : Int) < 3 := by omega
    have K := Lib.hid k1
    clear k1 h1 h2 h3
    go_enter Try.func108, Try.ntmps108
    go_wp2_with fail
    go_ret
    exact ⟨ret_bool (by rw [hr.out, if_pos K.out]), hs0.2.2⟩
  by_cases k2 : x.kind = 2
  · have a1 : ((x.kind : Int) == 2) = true := by simp [k2]
    have b1 : ((x.kind : Int) != 2) = false := by simp [k2]
    obtain ⟨a5, b5⟩ := nepos (show (x.kind : Int) ≠ 5 by omega)
    obtain ⟨e1, _⟩ := nepos (show (x.kind : Int) ≠ 1 by omega)
    obtain ⟨_, z2, z3⟩ := h2.resolve_left (by rw [b5]; simp)
    have l0 : ¬ 0 < x.subs.length := by omega
    have l3 : (x.kind : Int) < 3 := by omega
    have K := Lib.hid k2
    clear k1 k2 h1 h2 h3
    go_enter Try.func108, Try.ntmps108
    go_wp2_with fail
    go_ret
    exact ⟨ret_bool (by have := K.out; rw [hr.out, if_neg (by omega), if_pos this]), hs0.2.2⟩
  obtain ⟨a1, b1⟩ := nepos (show (x.kind : Int) ≠ 2 by omega)
  obtain ⟨e1, _⟩ := nepos (show (x.kind : Int) ≠ 1 by omega)
  obtain ⟨_, z1⟩ := h1.resolve_left (by rw [b1]; simp)
  by_cases k5 : x.kind = 5
  · have b5 : ((x.kind : Int) != 5) = false := by simp [k5]
    have a5 : ((x.kind : Int) == 5) = true := by simp [k5]
    obtain ⟨e3, _⟩ := nepos (show (x.kind : Int) ≠ 3 by omega)
    obtain ⟨e4, _⟩ := nepos (show (x.kind : Int) ≠ 4 by omega)
    have l3 : ¬ (x.kind : Int) < 3 := by omega
    have K := Lib.hid k5
    have hr5 : Hid (rightB x = (decide (x.subs.length = 1) && boundsB x.min x.max && !hasK 1 x.subs)) := by
      rw [Hid, hr.out, if_neg k1, if_neg k2, if_neg (by omega), if_neg (by omega), if_pos k5]
    clear k1 k2 k5 h1 h2 h3 hr
    rcases eqb2 x.subs.length 1 with ⟨g1, g2, g3⟩ | ⟨g1, g2, g3⟩
    · cases hb : boundsB x.min x.max
      · go_enter Try.func108, Try.ntmps108
        go_wp2_with (first
        | (go_at_call 134; refine (has_any x _ _ _ (StR.rep (by assumption))).mono ?_; rintro e w' ⟨rfl, hb'⟩; have hs' := StR.next (by assumption) hb'; obtain ⟨c0, c1, c2, c3, c4, c5, c6, c7⟩ := hs'.2.1; clear hb')
        | (go_at_call 84; refine (bounds_any _ _ _).mono ?_; rintro e w' ⟨rfl, rfl⟩))
        go_ret
        exact ⟨ret_bool (by rw [hr5.out, hb]; simp), StR.bel (by assumption)⟩
      · cases hh : hasK 1 x.subs
        all_goals
          go_enter Try.func108, Try.ntmps108
          go_wp2_with (first
        | (go_at_call 134; refine (has_any x _ _ _ (StR.rep (by assumption))).mono ?_; rintro e w' ⟨rfl, hb'⟩; have hs' := StR.next (by assumption) hb'; obtain ⟨c0, c1, c2, c3, c4, c5, c6, c7⟩ := hs'.2.1; clear hb')
        | (go_at_call 84; refine (bounds_any _ _ _).mono ?_; rintro e w' ⟨rfl, rfl⟩))
          go_ret
          exact ⟨ret_bool (by have := g3.out; rw [hr5.out, hb, hh, decide_eq_true (show x.subs.length = 1 by omega)]; rfl), StR.bel (by assumption)⟩
    · go_enter Try.func108, Try.ntmps108
      go_wp2_with (first
        | (go_at_call 134; refine (has_any x _ _ _ (StR.rep (by assumption))).mono ?_; rintro e w' ⟨rfl, hb'⟩; have hs' := StR.next (by assumption) hb'; obtain ⟨c0, c1, c2, c3, c4, c5, c6, c7⟩ := hs'.2.1; clear hb')
        | (go_at_call 84; refine (bounds_any _ _ _).mono ?_; rintro e w' ⟨rfl, rfl⟩))
      go_ret
      exact ⟨ret_bool (by have := g3.out; rw [hr5.out, decide_eq_false (show ¬ x.subs.length = 1 by omega)]; simp), StR.bel (by assumption)⟩
  obtain ⟨a5, b5⟩ := nepos (show (x.kind : Int) ≠ 5 by omega)
  obtain ⟨_, z2, z3⟩ := h2.resolve_left (by rw [b5]; simp)
  by_cases k3 : x.kind = 3
  · have e3 : ((x.kind : Int) == 3) = true := by simp [k3]
    have l3 : ¬ (x.kind : Int) < 3 := by omega
    have hr5 : Hid (rightB x = (decide (1 < x.subs.length) && !hasK 1 x.subs && !hasK 3 x.subs)) := by
      rw [Hid, hr.out, if_neg k1, if_neg k2, if_pos k3]
    clear k1 k2 k3 k5 h1 h2 h3 hr
    by_cases hl : 1 < x.subs.length
    · cases hh : hasK 1 x.subs
      · cases hh3 : hasK 3 x.subs
        all_goals
          go_enter Try.func108, Try.ntmps108
          go_wp2_with (first
        | (go_at_call 134; refine (has_any x _ _ _ (StR.rep (by assumption))).mono ?_; rintro e w' ⟨rfl, hb'⟩; have hs' := StR.next (by assumption) hb'; obtain ⟨c0, c1, c2, c3, c4, c5, c6, c7⟩ := hs'.2.1; clear hb')
        | (go_at_call 84; refine (bounds_any _ _ _).mono ?_; rintro e w' ⟨rfl, rfl⟩))
          go_ret
          exact ⟨ret_bool (by rw [hr5.out, hh, hh3, decide_eq_true hl]; rfl), StR.bel (by assumption)⟩
      · go_enter Try.func108, Try.ntmps108
        go_wp2_with (first
        | (go_at_call 134; refine (has_any x _ _ _ (StR.rep (by assumption))).mono ?_; rintro e w' ⟨rfl, hb'⟩; have hs' := StR.next (by assumption) hb'; obtain ⟨c0, c1, c2, c3, c4, c5, c6, c7⟩ := hs'.2.1; clear hb')
        | (go_at_call 84; refine (bounds_any _ _ _).mono ?_; rintro e w' ⟨rfl, rfl⟩))
        go_ret
        exact ⟨ret_bool (by rw [hr5.out, hh]; simp), StR.bel (by assumption)⟩
    · go_enter Try.func108, Try.ntmps108
      go_wp2_with (first
        | (go_at_call 134; refine (has_any x _ _ _ (StR.rep (by assumption))).mono ?_; rintro e w' ⟨rfl, hb'⟩; have hs' := StR.next (by assumption) hb'; obtain ⟨c0, c1, c2, c3, c4, c5, c6, c7⟩ := hs'.2.1; clear hb')
        | (go_at_call 84; refine (bounds_any _ _ _).mono ?_; rintro e w' ⟨rfl, rfl⟩))
      go_ret
      exact ⟨ret_bool (by rw [hr5.out, decide_eq_false hl]; rfl), StR.bel (by assumption)⟩
  obtain ⟨e3, _⟩ := nepos (show (x.kind : Int) ≠ 3 by omega)
  by_cases k4 : x.kind = 4
  · have e4 : ((x.kind : Int) == 4) = true := by simp [k4]
    have l3 : ¬ (x.kind : Int) < 3 := by omega
    have hr5 : Hid (rightB x = (decide (1 < x.subs.length) && !hasK 4 x.subs)) := by
      rw [Hid, hr.out, if_neg k1, if_neg k2, if_neg k3, if_pos k4]
    clear k1 k2 k3 k4 k5 h1 h2 h3 hr
    by_cases hl : 1 < x.subs.length
    · cases hh : hasK 4 x.subs
      all_goals
        go_enter Try.func108, Try.ntmps108
        go_wp2_with (first
        | (go_at_call 134; refine (has_any x _ _ _ (StR.rep (by assumption))).mono ?_; rintro e w' ⟨rfl, hb'⟩; have hs' := StR.next (by assumption) hb'; obtain ⟨c0, c1, c2, c3, c4, c5, c6, c7⟩ := hs'.2.1; clear hb')
        | (go_at_call 84; refine (bounds_any _ _ _).mono ?_; rintro e w' ⟨rfl, rfl⟩))
        go_ret
        exact ⟨ret_bool (by rw [hr5.out, hh, decide_eq_true hl]; rfl), StR.bel (by assumption)⟩
    · go_enter Try.func108, Try.ntmps108
      go_wp2_with (first
        | (go_at_call 134; refine (has_any x _ _ _ (StR.rep (by assumption))).mono ?_; rintro e w' ⟨rfl, hb'⟩; have hs' := StR.next (by assumption) hb'; obtain ⟨c0, c1, c2, c3, c4, c5, c6, c7⟩ := hs'.2.1; clear hb')
        | (go_at_call 84; refine (bounds_any _ _ _).mono ?_; rintro e w' ⟨rfl, rfl⟩))
      go_ret
      exact ⟨ret_bool (by rw [hr5.out, decide_eq_false hl]; rfl), StR.bel (by assumption)⟩
  obtain ⟨e4, _⟩ := nepos (show (x.kind : Int) ≠ 4 by omega)
  have hr5 : Hid (rightB x = (decide (x.kind = 6) && decide (x.subs.length = 1))) := by
    rw [Hid, hr.out, if_neg k1, if_neg k2, if_neg k3, if_neg k4, if_neg k5]
  by_cases k6 : x.kind = 6
  · have e6 : ((x.kind : Int) == 6) = true := by simp [k6]
    have l3 : ¬ (x.kind : Int) < 3 := by omega
    have hr6 : Hid (rightB x = decide (x.subs.length = 1)) := by rw [Hid, hr5.out, decide_eq_true k6]; rfl
    clear k1 k2 k3 k4 k5 k6 h1 h2 h3 hr hr5
    rcases eqb2 x.subs.length 1 with ⟨g1, g2, g3⟩ | ⟨g1, g2, g3⟩
    · go_enter Try.func108, Try.ntmps108
      go_wp2_with fail
      go_ret
      exact ⟨ret_bool (by have := g3.out; rw [hr6.out, decide_eq_true (show x.subs.length = 1 by omega)]), hs0.2.2⟩
    · go_enter Try.func108, Try.ntmps108
      go_wp2_with fail
      go_ret
      exact ⟨ret_bool (by have := g3.out; rw [hr6.out, decide_eq_false (show ¬ x.subs.length = 1 by omega)]), hs0.2.2⟩
  obtain ⟨e6, _⟩ := nepos (show (x.kind : Int) ≠ 6 by omega)
  have hr6 : Hid (rightB x = false) := by rw [Hid, hr5.out, decide_eq_false k6]; rfl
  by_cases l3 : (x.kind : Int) < 3
  · have l0 : ¬ 0 < x.subs.length := by omega
    clear k1 k2 k3 k4 k5 k6 h1 h2 h3 hr hr5
    go_enter Try.func108, Try.ntmps108
    go_wp2_with fail
    go_ret
    exact ⟨ret_bool hr6.out.symm, hs0.2.2⟩
  · clear k1 k2 k3 k4 k5 k6 h1 h2 h3 hr hr5
    go_enter Try.func108, Try.ntmps108
    go_wp2_with fail
    go_ret
    exact ⟨ret_bool hr6.out.symm, hs0.2.2⟩

theorem right_any {S : Nat → Prop} (x : Node) (sv : Value) (w : World) (hR : RepL w S x.subs sv) :
    Calls Try.prog 108 #[.agg (nodeC x sv)] w fun e w' => e = .returned (.bool (rightB x)) ∧ Below w.heap.size w w' := by
  by_cases h : (x.kind ≠ 2 ∧ x.set ≠ 0) ∨ (x.kind ≠ 5 ∧ (x.min ≠ 0 ∨ x.max ≠ 0)) ∨ (x.kind < 3 ∧ 0 < x.subs.length)
  · refine (right_bad x sv w hR h).mono fun e w' ⟨he, hb⟩ => ⟨?_, hb⟩
    rw [he, rightB, if_pos h]
  · exact right_good x sv w hR h
end Go.Proofs.Ytlagablcopmhkaa
/- nfa: sets of positions as words; put, has, or. -/
namespace Go.Proofs.Ytlagablcopmhkaa
open Go.RowKit

/-- word i of a set of positions -/
def bw (m i : Nat) : Int := ((m / 2 ^ (64 * i) % 2 ^ 64 : Nat) : Int)
theorem bw_bd (m i : Nat) : 0 ≤ bw m i ∧ bw m i < 18446744073709551616 := by
  have : m / 2 ^ (64 * i) % 2 ^ 64 < 2 ^ 64 := Nat.mod_lt _ (by decide)
  unfold bw
  omega
theorem u64_wrap (n : Int) (h₀ : 0 ≤ n) (h₁ : n < 2 ^ 64) : IntKind.u64.wrap n = n := wraps_u64 n h₀ h₁
theorem bits_and_nat (a b : Nat) (ha : a < 2 ^ 64) (hb : b < 2 ^ 64) : bits .and .u64 a b = ((a &&& b : Nat) : Int) := (bits_nat .u64 64 (by decide) u64_wrap a b ha hb).1
theorem bits_or_nat (a b : Nat) (ha : a < 2 ^ 64) (hb : b < 2 ^ 64) : bits .or .u64 a b = ((a ||| b : Nat) : Int) := (bits_nat .u64 64 (by decide) u64_wrap a b ha hb).2

theorem bw_has (m i j : Nat) (_ : j < 64) : (bits .and .u64 (bw m i / 2 ^ j) 1 == 1) = m.testBit (64 * i + j) := by
  have hlt : m / 2 ^ (64 * i) % 2 ^ 64 < 2 ^ 64 := Nat.mod_lt _ (by decide)
  have e : bw m i / 2 ^ j = ((m / 2 ^ (64 * i) % 2 ^ 64 / 2 ^ j : Nat) : Int) := by unfold bw; simp
  have hlt2 : m / 2 ^ (64 * i) % 2 ^ 64 / 2 ^ j < 2 ^ 64 := Nat.lt_of_le_of_lt (Nat.div_le_self _ _) hlt
  rw [e]
  show (bits .and .u64 _ ((1 : Nat) : Int) == 1) = _
  rw [bits_and_nat _ 1 hlt2 (by decide)]
  have h1 : m.testBit (64 * i + j) = (m / 2 ^ (64 * i) % 2 ^ 64 / 2 ^ j).testBit 0 := by
    rw [Nat.testBit_div_two_pow, Nat.testBit_mod_two_pow, Nat.testBit_div_two_pow]
    simp [*, Nat.add_comm]
  rw [h1, Nat.and_one_is_mod, Nat.testBit_zero]
  generalize m / 2 ^ (64 * i) % 2 ^ 64 / 2 ^ j = y
  rcases Nat.mod_two_eq_zero_or_one y with h | h <;> simp [h]

theorem bw_op {f : Nat → Nat → Nat} {g : Bool → Bool → Bool} (hg : g false false = false) (hf : ∀ x y i, (f x y).testBit i = g (x.testBit i) (y.testBit i)) (m n i : Nat) :
    f (m / 2 ^ (64 * i) % 2 ^ 64) (n / 2 ^ (64 * i) % 2 ^ 64) = f m n / 2 ^ (64 * i) % 2 ^ 64 := by
  apply Nat.eq_of_testBit_eq
  intro j
  rw [hf, Nat.testBit_mod_two_pow, Nat.testBit_mod_two_pow, Nat.testBit_mod_two_pow, Nat.testBit_div_two_pow, Nat.testBit_div_two_pow, Nat.testBit_div_two_pow, hf]
  by_cases h : j < 64 <;> simp [h, hg]
theorem bw_or (m n i : Nat) : bits .or .u64 (bw m i) (bw n i) = bw (m ||| n) i := by
  unfold bw
  rw [bits_or_nat _ _ (Nat.mod_lt _ (by decide)) (Nat.mod_lt _ (by decide)), bw_op (f := (· ||| ·)) (g := or) rfl Nat.testBit_or]
theorem bw_and (m n i : Nat) : bits .and .u64 (bw m i) (bw n i) = bw (m &&& n) i := by
  unfold bw
  rw [bits_and_nat _ _ (Nat.mod_lt _ (by decide)) (Nat.mod_lt _ (by decide)), bw_op (f := (· &&& ·)) (g := and) rfl Nat.testBit_and]

theorem bw_pow (i j k : Nat) (hj : j < 64) : bw (2 ^ (64 * i + j)) k = if k = i then 2 ^ j else 0 := by
  have : 2 ^ (64 * i + j) / 2 ^ (64 * k) % 2 ^ 64 = if k = i then 2 ^ j else 0 := by
    apply Nat.eq_of_testBit_eq
    intro t
    rw [Nat.testBit_mod_two_pow, Nat.testBit_div_two_pow, Nat.testBit_two_pow]
    by_cases h : k = i
    · subst h
      rw [if_pos rfl, Nat.testBit_two_pow]
      by_cases h2 : j = t
      · subst h2; simp [hj, Nat.add_comm]
      · simp [h2]; omega
    · rw [if_neg h]
      simp
      omega
  unfold bw
  rw [this]
  split <;> simp
theorem bw_put (m i j : Nat) (hj : j < 64) : bits .or .u64 (bw m i) (IntKind.u64.wrap (2 ^ j)) = bw (m ||| 2 ^ (64 * i + j)) i := by
  rw [← bw_or, bw_pow i j i hj, if_pos rfl]
  have : (2 : Int) ^ j < 2 ^ 64 := by
    have := Nat.pow_lt_pow_right (a := 2) (by decide) hj
    exact_mod_cast this
  rw [u64_wrap _ (by exact_mod_cast Nat.zero_le _) this]
theorem bw_zero (i : Nat) : bw 0 i = 0 := by simp [bw]
theorem bw_put_other (m i j k : Nat) (hj : j < 64) (hk : k ≠ i) : bw (m ||| 2 ^ (64 * i + j)) k = bw m k := by
  rw [← bw_or, bw_pow i j k hj, if_neg hk]
  show bits .or .u64 (bw m k) ((0 : Nat) : Int) = _
  unfold bw
  rw [bits_or_nat _ _ (Nat.mod_lt _ (by decide)) (by decide)]
  simp

@[reducible] def bitsC (m : Nat) : Array Value := #[.int .u64 (bw m 0), .int .u64 (bw m 1), .int .u64 (bw m 2), .int .u64 (bw m 3), .int .u64 (bw m 4), .int .u64 (bw m 5), .int .u64 (bw m 6)]
theorem bitsC_at (m i : Nat) (hi : i < 7) : (bitsC m)[i]? = some (.int .u64 (bw m i)) := by
  have : i = 0 ∨ i = 1 ∨ i = 2 ∨ i = 3 ∨ i = 4 ∨ i = 5 ∨ i = 6 := by omega
  rcases this with rfl | rfl | rfl | rfl | rfl | rfl | rfl <;> rfl

/-- the block holds the set -/
def BitBox (w : World) (b m : Nat) : Prop := w.heap[b]? = some (.cells (bitsC m) 100 (0, 0))
theorem BitBox.lt {w : World} {b m : Nat} (h : BitBox w b m) : b < w.heap.size := (Array.getElem?_eq_some_iff.1 h).1
theorem BitBox.cell {w : World} {b m : Nat} (h : BitBox w b m) (i : Nat) (hi : i < 7) : w.cell? ⟨b, i, none⟩ = some (.int .u64 (bw m i)) := by
  rw [cell_of_row w b i _ _ _ h, bitsC_at m i hi]
theorem BitBox.frozen {w : World} {b m : Nat} (h : BitBox w b m) (i : Nat) : w.frozen? ⟨b, i, none⟩ = false := frozen_of_row w b i _ _ h
theorem BitBox.move {w w' : World} {b m : Nat} (h : BitBox w b m) (hb : w'.heap[b]? = w.heap[b]?) : BitBox w' b m := hb.trans h

/-- seven cells that hold the set -/
def BitAt (w : World) (b o m : Nat) : Prop := ∀ i, i < 7 → w.cell? ⟨b, o + i, none⟩ = some (.int .u64 (bw m i))
theorem BitBox.at {w : World} {b m : Nat} (h : BitBox w b m) : BitAt w b 0 m := fun i hi => by rw [Nat.zero_add]; exact h.cell i hi
theorem BitAt.move {w w' : World} {b o m : Nat} (h : BitAt w b o m) (hb : w'.heap[b]? = w.heap[b]?) : BitAt w' b o m := fun i hi => (World.cell?_of_block (w := w) (a := ⟨b, o + i, none⟩) hb).trans (h i hi)
theorem BitAt.lt {w : World} {b o m : Nat} (h : BitAt w b o m) : b < w.heap.size := World.block_lt_of_cell? w _ (h 0 (by omega))
theorem bits_has {w : World} {b o m : Nat} (p : Nat) (hp : p < 448) (h : BitAt w b o m) :
    Calls Try.prog 115 #[.pointer (some ⟨b, o, none⟩), .int .i64 p] w fun e w' => e = .returned (.bool (m.testBit p)) ∧ w = w' := by
  obtain ⟨i, hi⟩ : ∃ i, i = p / 64 := ⟨_, rfl⟩
  obtain ⟨j, hj⟩ : ∃ j, j = p % 64 := ⟨_, rfl⟩
  obtain ⟨q, hq⟩ : ∃ q : Int, q = p := ⟨_, rfl⟩
  have h0 : 0 ≤ q := by omega
  have h1 : q < 448 := by omega
  have hqi : q / 64 = (i : Int) := by omega
  have hqj : q % 64 = (j : Int) := by omega
  have hi7 : i < 7 := by omega
  have hj64 : j < 64 := by omega
  have e : m.testBit p = m.testBit (64 * i + j) := by congr 1; omega
  have hc := h i hi7
  obtain ⟨hx0, hx1⟩ := bw_bd m i
  have he := Lib.hid (bw_has m i j hj64)
  rw [e, ← hq]
  clear e hq hi hj hp
  generalize bw m i = x at *
  go_enter Try.func115, Try.ntmps115
  go_wp2
  go_ret
  exact ⟨ret_bool he.out, rfl⟩

/-- only block b has turned, and holds m -/
structure Turned (b m : Nat) (w w' : World) : Prop where
  os : w'.os = w.os
  tape : w'.tape = w.tape
  output : w'.output = w.output
  size : w'.heap.size = w.heap.size
  same : ∀ k, k ≠ b → w'.heap[k]? = w.heap[k]?
  box : BitBox w' b m
theorem Turned.below {b m B : Nat} {w w' : World} (h : Turned b m w w') (hB : B ≤ b) : Below B w w' := ⟨h.os, h.tape, h.output, Nat.le_of_eq h.size.symm, fun k hk => h.same k (by omega)⟩
theorem Turned.trans {b m n : Nat} {w w' w2 : World} (h : Turned b m w w') (k : Turned b n w' w2) : Turned b n w w2 := ⟨k.os.trans h.os, k.tape.trans h.tape, k.output.trans h.output, k.size.trans h.size, fun j hj => (k.same j hj).trans (h.same j hj), k.box⟩
theorem Turned.store {w : World} {b m m' : Nat} (h : BitBox w b m) (i : Nat) (v : Value) (hv : bitsC m' = (bitsC m).setIfInBounds i v) : Turned b m' w (w.setCell ⟨b, i, none⟩ v) :=
  ⟨rfl, rfl, rfl, by simp, fun k hk => Below.heap_setCell _ _ _ k hk, by unfold BitBox; rw [hv]; exact heap_setCell_same w b i _ _ _ h⟩

theorem put_row (m i j : Nat) (hi : i < 7) (hj : j < 64) : bitsC (m ||| 2 ^ (64 * i + j)) = (bitsC m).setIfInBounds i (.int .u64 (bits .or .u64 (bw m i) (IntKind.u64.wrap (2 ^ j)))) := by
  have o := fun k (hk : k ≠ i) => bw_put_other m i j k hj hk
  have s := bw_put m i j hj
  have : i = 0 ∨ i = 1 ∨ i = 2 ∨ i = 3 ∨ i = 4 ∨ i = 5 ∨ i = 6 := by omega
  rcases this with rfl | rfl | rfl | rfl | rfl | rfl | rfl <;> (rw [s]; unfold bitsC; (try rw [o 0 (by decide)]); (try rw [o 1 (by decide)]); (try rw [o 2 (by decide)]); (try rw [o 3 (by decide)]); (try rw [o 4 (by decide)]); (try rw [o 5 (by decide)]); (try rw [o 6 (by decide)]); rfl)

set_option maxRecDepth 100000 in
theorem bits_put {w : World} {b m : Nat} (p : Nat) (hp : p < 448) (h : BitBox w b m) :
    Calls Try.prog 116 #[.pointer (some ⟨b, 0, none⟩), .int .i64 p] w fun e w' => e = .returned (.tuple #[]) ∧ Turned b (m ||| 2 ^ p) w w' := by
  obtain ⟨i, hi⟩ : ∃ i, i = p / 64 := ⟨_, rfl⟩
  obtain ⟨j, hj⟩ : ∃ j, j = p % 64 := ⟨_, rfl⟩
  obtain ⟨q, hq⟩ : ∃ q : Int, q = p := ⟨_, rfl⟩
  have h0 : 0 ≤ q := by omega
  have h1 : q < 448 := by omega
  have hi7 : i < 7 := by omega
  have hj64 : j < 64 := by omega
  have e1 : IntKind.i64.wrap (q.tdiv 64) = (i : Int) := by
    rw [Int.tdiv_eq_ediv_of_nonneg h0, IntKind.wrap_i64]; omega
  have e2 : q.tmod 64 = (j : Int) := by rw [Int.tmod_eq_emod_of_nonneg h0]; omega
  have g1 : 0 ≤ (i : Int) := by omega
  have g2 : (i : Int) < 7 := by omega
  have g3 : 0 ≤ (j : Int) := by omega
  have e : p = 64 * i + j := by omega
  have hc := h.cell i hi7
  have hf := h.frozen i
  obtain ⟨hx0, hx1⟩ := bw_bd m i
  have hr := Lib.hid (put_row m i j hi7 hj64)
  have H := Lib.hid h
  rw [← hq, e]
  clear e hq hi hj hp h
  generalize hX : bw m i = x at *
  have hX := Lib.hid hX
  go_enter Try.func116, Try.ntmps116
  go_wp2
  go_still_tail 12, (by kernel_rfl)
  change wpList _ _ _ _ _ w.drew
  have hw : w.drew.os = w.os ∧ w.drew.tape = w.tape ∧ w.drew.output = w.output ∧ w.drew.heap = w.heap := ⟨rfl, rfl, rfl, rfl⟩
  generalize w.drew = w2 at *
  have hc2 : w2.cell? ⟨b, i, none⟩ = some (.int .u64 x) := (World.cell?_of_block (w := w) (by rw [hw.2.2.2])).trans hc
  have hf2 : w2.frozen? ⟨b, i, none⟩ = false := (World.frozen?_of_block (w := w) (by rw [hw.2.2.2])).trans hf
  have HW := Lib.hid hw
  clear hw
  go_wp2
  go_end0
  refine ⟨rfl, ?_⟩
  have hw := HW.out
  have hr2 := hr.out
  have H2 : BitBox w2 b m := H.out.move (by rw [hw.2.2.2])
  have ht := Turned.store H2 i _ hr2
  exact ⟨ht.os.trans hw.1, ht.tape.trans hw.2.1, ht.output.trans hw.2.2.1, ht.size.trans (by rw [hw.2.2.2]), fun k hk => (ht.same k hk).trans (by rw [hw.2.2.2]), ht.box⟩

/-- the four words of a set of bytes -/
@[reducible] def setC (s : BitVec 256) : Array Value := #[.int .u64 (word s 0), .int .u64 (word s 1), .int .u64 (word s 2), .int .u64 (word s 3)]
theorem setC_at (s : BitVec 256) (i : Nat) (hi : i < 4) : (setC s)[i]? = some (.int .u64 (bw s.toNat i)) := by
  have : i = 0 ∨ i = 1 ∨ i = 2 ∨ i = 3 := by omega
  rcases this with rfl | rfl | rfl | rfl <;> rfl
def inSet (s : BitVec 256) (c : Nat) : Bool := s.toNat.testBit c

theorem sets_has (w : World) (s : BitVec 256) (c : Nat) (hc256 : c < 256) :
    Calls Try.prog 117 #[.agg (setC s), .int .u8 c] w fun e w' => e = .returned (.bool (inSet s c)) ∧ Below w.heap.size w w' := by
  obtain ⟨i, hi⟩ : ∃ i, i = c / 64 := ⟨_, rfl⟩
  obtain ⟨j, hj⟩ : ∃ j, j = c % 64 := ⟨_, rfl⟩
  obtain ⟨q, hq⟩ : ∃ q : Int, q = c := ⟨_, rfl⟩
  have h0 : 0 ≤ q := by omega
  have h1 : q < 256 := by omega
  have hs : q / 64 = (i : Int) := by omega
  have hm : q % 64 = (j : Int) := by omega
  have hi4 : i < 4 := by omega
  have hj64 : j < 64 := by omega
  have e : inSet s c = s.toNat.testBit (64 * i + j) := by unfold inSet; congr 1; omega
  have hc : (w.alloc (.cells (setC s) 38)).cell? ⟨w.heap.size, i, none⟩ = some (.int .u64 (bw s.toNat i)) := by
    rw [cell_of_row _ _ i _ _ _ (heap_alloc_new w _), setC_at s i hi4]
  obtain ⟨hx0, hx1⟩ := bw_bd s.toNat i
  have he := Lib.hid (bw_has s.toNat i j hj64)
  rw [e, ← hq]
  clear e hq hi hj hc256
  generalize bw s.toNat i = x at *
  go_enter Try.func117, Try.ntmps117
  go_wp2
  go_ret
  exact ⟨ret_bool he.out, (Below.refl _ _).alloc (Nat.le_refl _) _⟩

theorem BitBox.grown {w w' : World} {b m : Nat} {row : Option Nat} (h : BitBox w b m) (hg : w.grownBy w' row) (hr : row ≠ some b) : BitBox w' b m := h.move (hg.block b h.lt (Ne.symm hr))

end Go.Proofs.Ytlagablcopmhkaa
/- nfa: automata as data; rising, Right, check. -/
namespace Go.Proofs.Ytlagablcopmhkaa
open Go.RowKit

structure Auto where
  sets : List (BitVec 256)
  follow : List (List Int)
  first : List Int
  last : List Int
  empty : Bool

def setU (s : BitVec 256) : List Value := [.int .u64 (word s 0), .int .u64 (word s 1), .int .u64 (word s 2), .int .u64 (word s 3)]
def setsU : List (BitVec 256) → List Value
  | [] => []
  | s :: l => setU s ++ setsU l
theorem setsU_length (l : List (BitVec 256)) : (setsU l).length = l.length * 4 := by
  induction l with
  | nil => rfl
  | cons s l ih => simp [setsU, setU, ih]; omega
theorem setsU_at (l : List (BitVec 256)) (i : Nat) (s : BitVec 256) (h : l[i]? = some s) (j : Nat) (hj : j < 4) : (setsU l)[i * 4 + j]? = (setU s)[j]? := by
  induction l generalizing i with
  | nil => simp at h
  | cons y l ih =>
    cases i with
    | zero => simp at h; subst h; simp [setsU]; rw [List.getElem?_append_left (by simpa [setU] using hj)]
    | succ i =>
      simp at h
      simp only [setsU]
      rw [List.getElem?_append_right (by simp [setU]; omega)]
      rw [show (i + 1) * 4 + j - (setU y).length = i * 4 + j by simp [setU]; omega]
      exact ih i h
theorem setsU_one (l : List (BitVec 256)) : ∀ u ∈ setsU l, u.oneCell' = true := by
  induction l with
  | nil => simp [setsU]
  | cons s l ih =>
    intro u hu
    simp only [setsU, List.mem_append] at hu
    rcases hu with hu | hu
    · simp [setU] at hu; rcases hu with rfl | rfl | rfl | rfl <;> rfl
    · exact ih u hu

abbrev RepSets (w : World) (S : Nat → Prop) (l : List (BitVec 256)) (v : Value) : Prop := Rep w S (.s l.length 4 ((setsU l).map .v)) v
abbrev RepLists (w : World) (S : Nat → Prop) (f : List (List Int)) (v : Value) : Prop := Rep w S (.s f.length 1 (f.map dI)) v

/-- four cells in memory -/
def SetAt (w : World) (b o : Nat) (s : BitVec 256) : Prop :=
  w.cell? ⟨b, o, none⟩ = some (.int .u64 (word s 0)) ∧ w.cell? ⟨b, o + 1, none⟩ = some (.int .u64 (word s 1)) ∧ w.cell? ⟨b, o + 2, none⟩ = some (.int .u64 (word s 2)) ∧ w.cell? ⟨b, o + 3, none⟩ = some (.int .u64 (word s 3))
theorem SetAt.move {w w' : World} {b o : Nat} {s : BitVec 256} (h : SetAt w b o s) (hb : w'.heap[b]? = w.heap[b]?) : SetAt w' b o s := by
  have e : ∀ j, w'.cell? ⟨b, j, none⟩ = w.cell? ⟨b, j, none⟩ := fun j => World.cell?_of_block (w := w) (a := ⟨b, j, none⟩) hb
  unfold SetAt
  simp only [e]
  exact h

theorem RepSets.at {w : World} {S : Nat → Prop} {l : List (BitVec 256)} {v : Value} (h : RepSets w S l v) :
    ∃ p cap, v = .slice p l.length cap ∧ l.length ≤ 140737488355328 ∧ l.length ≤ cap ∧ cap ≤ 9223372036854775807 ∧
      ∀ (i : Nat) (s : BitVec 256), l[i]? = some s → ∃ b off, p = some ⟨b, off, none⟩ ∧ S b ∧ b < w.heap.size ∧ SetAt w b (off + i * 4) s := by
  cases h with
  | s us hn hc hm hd hu hp hr =>
    rename_i p cap
    refine ⟨p, cap, rfl, hn, hc, hm, fun i x hx => ?_⟩
    have hlt : i < l.length := (List.getElem?_eq_some_iff.1 hx).1
    rw [List.length_map, setsU_length] at hu
    have hat : ∀ j, j < 4 → ∃ u, us[i * 4 + j]? = some u := fun j hj => ⟨us[i * 4 + j]'(by omega), by simp⟩
    obtain ⟨b, off, rfl, hS, hcell⟩ := hp (by intro h; obtain ⟨u, hu⟩ := hat 0 (by omega); simp [h] at hu)
    have key : ∀ j d u, j < 4 → (setU x)[j]? = some d → us[i * 4 + j]? = some u → u = d := fun j d u hj hd hu => by
      have := hr (i * 4 + j) (.v d) u (by rw [List.getElem?_map, setsU_at l i x hx j hj, hd]; rfl) hu
      cases this; rfl
    obtain ⟨u0, h0⟩ := hat 0 (by omega)
    obtain ⟨u1, h1⟩ := hat 1 (by omega)
    obtain ⟨u2, h2⟩ := hat 2 (by omega)
    obtain ⟨u3, h3⟩ := hat 3 (by omega)
    obtain rfl := key 0 _ u0 (by omega) rfl h0
    obtain rfl := key 1 _ u1 (by omega) rfl h1
    obtain rfl := key 2 _ u2 (by omega) rfl h2
    obtain rfl := key 3 _ u3 (by omega) rfl h3
    exact ⟨b, off, rfl, hS, World.block_lt_of_cell? w _ (hcell _ _ h0), hcell _ _ h0, hcell _ _ h1, hcell _ _ h2, hcell _ _ h3⟩

theorem RepLists.at {w : World} {S : Nat → Prop} {l : List (List Int)} {v : Value} (h : RepLists w S l v) :
    ∃ p cap, v = .slice p l.length cap ∧ l.length ≤ 140737488355328 ∧ l.length ≤ cap ∧ cap ≤ 9223372036854775807 ∧
      ∀ (i : Nat) (f : List Int), l[i]? = some f → ∃ b off, p = some ⟨b, off, none⟩ ∧ S b ∧ b < w.heap.size ∧ ∃ u, Rep w S (dI f) u ∧ w.cell? ⟨b, off + i, none⟩ = some u := by
  cases h with
  | s us hn hc hm hd hu hp hr =>
    rename_i p cap
    refine ⟨p, cap, rfl, hn, hc, hm, fun i x hx => ?_⟩
    have hlt : i < l.length := (List.getElem?_eq_some_iff.1 hx).1
    rw [List.length_map] at hu
    obtain ⟨u, hui⟩ : ∃ u, us[i]? = some u := ⟨us[i]'(by omega), by simp⟩
    obtain ⟨b, off, rfl, hS, hcell⟩ := hp (by intro h; simp [h] at hui)
    exact ⟨b, off, rfl, hS, World.block_lt_of_cell? w _ (hcell _ _ hui), u, hr i (dI x) u (by rw [List.getElem?_map, hx]; rfl) hui, hcell _ _ hui⟩

@[reducible] def autoC (a : Auto) (v0 v1 v2 v3 : Value) : Array Value := #[v0, v1, v2, v3, .bool a.empty]
structure RepA (w : World) (S : Nat → Prop) (a : Auto) (v0 v1 v2 v3 : Value) : Prop where
  sets : RepSets w S a.sets v0
  follow : RepLists w S a.follow v1
  first : Rep w S (dI a.first) v2
  last : Rep w S (dI a.last) v3
theorem RepA.grow {w w' : World} {S : Nat → Prop} {a : Auto} {v0 v1 v2 v3 : Value} (h : RepA w S a v0 v1 v2 v3) (hb : Below w.heap.size w w') : RepA w' S a v0 v1 v2 v3 :=
  ⟨h.sets.grow hb, h.follow.grow hb, h.first.grow hb, h.last.grow hb⟩
theorem RepA.move {w w' : World} {S S' : Nat → Prop} {a : Auto} {v0 v1 v2 v3 : Value} (h : RepA w S a v0 v1 v2 v3) (hw : ∀ b, S b → b < w.heap.size → w'.heap[b]? = w.heap[b]? ∧ S' b) : RepA w' S' a v0 v1 v2 v3 :=
  ⟨h.sets.move hw, h.follow.move hw, h.first.move hw, h.last.move hw⟩
theorem Rep.intsShape {w : World} {S : Nat → Prop} {l : List Int} {v : Value} (h : Rep w S (dI l) v) : ∃ p cap, v = .slice p l.length cap := by
  obtain ⟨p, cap, rfl, _⟩ := h.ints; exact ⟨_, _, rfl⟩

/-- a box of an automaton -/
def BoxA (w : World) (b : Nat) (a : Auto) (v0 v1 v2 v3 : Value) : Prop :=
  w.cell? ⟨b, 0, none⟩ = some v0 ∧ w.cell? ⟨b, 1, none⟩ = some v1 ∧ w.cell? ⟨b, 2, none⟩ = some v2 ∧ w.cell? ⟨b, 3, none⟩ = some v3 ∧ w.cell? ⟨b, 4, none⟩ = some (.bool a.empty)
theorem BoxA.move {w w' : World} {b : Nat} {a : Auto} {v0 v1 v2 v3 : Value} (h : BoxA w b a v0 v1 v2 v3) (hb : w'.heap[b]? = w.heap[b]?) : BoxA w' b a v0 v1 v2 v3 := by
  have e : ∀ j, w'.cell? ⟨b, j, none⟩ = w.cell? ⟨b, j, none⟩ := fun j => World.cell?_of_block (w := w) (a := ⟨b, j, none⟩) hb
  unfold BoxA
  simp only [e]
  exact h
theorem BoxA.lt {w : World} {b : Nat} {a : Auto} {v0 v1 v2 v3 : Value} (h : BoxA w b a v0 v1 v2 v3) : b < w.heap.size := World.block_lt_of_cell? w _ h.1
theorem BoxA.below {w w' : World} {b : Nat} {a : Auto} {v0 v1 v2 v3 : Value} (h : BoxA w b a v0 v1 v2 v3) (hb : Below w.heap.size w w') : BoxA w' b a v0 v1 v2 v3 := h.move (hb.block b h.lt)
theorem BoxA.of_row {w : World} {b : Nat} {a : Auto} {v0 v1 v2 v3 : Value} {t : TypeId} {fr : Nat × Nat} (h : w.heap[b]? = some (.cells (autoC a v0 v1 v2 v3) t fr)) : BoxA w b a v0 v1 v2 v3 := by
  have e : ∀ j, w.cell? ⟨b, j, none⟩ = (autoC a v0 v1 v2 v3)[j]? := fun j => by simp [World.cell?, h]
  unfold BoxA
  simp only [e]
  exact ⟨rfl, rfl, rfl, rfl, rfl⟩
theorem BoxA.new (w : World) (a : Auto) (v0 v1 v2 v3 : Value) (t : TypeId) : BoxA (w.alloc (.cells (autoC a v0 v1 v2 v3) t)) w.heap.size a v0 v1 v2 v3 := .of_row (heap_alloc_new w _)

def goodFrom (hi : Int) : List (List Int) → List (BitVec 256) → Bool
  | f :: fs, s :: ss => risesB (0 - 1) hi f && !(s == 0) && goodFrom hi fs ss
  | _, _ => true
def rightA (a : Auto) : Bool :=
  decide (a.sets.length ≤ 400) && decide (a.follow.length = a.sets.length) && risesB (0 - 1) (a.sets.length - 1) a.first && risesB (0 - 1) (a.sets.length - 1) a.last && goodFrom (a.sets.length - 1) a.follow a.sets

set_option maxRecDepth 100000 in
set_option maxHeartbeats 2000000 in
theorem rightA_any {S : Nat → Prop} (a : Auto) (v0 v1 v2 v3 : Value) (w : World) (hR : RepA w S a v0 v1 v2 v3) :
    Calls Try.prog 21 #[.agg (autoC a v0 v1 v2 v3)] w fun e w' => e = .returned (.bool (rightA a)) ∧ Below w.heap.size w w' := by
  obtain ⟨p0, q0, rfl, hm0, hc0, hx0, hat0⟩ := hR.sets.at
  obtain ⟨p1, q1, rfl, hm1, hc1, hx1, hat1⟩ := hR.follow.at
  obtain ⟨p2, q2, rfl⟩ := hR.first.intsShape
  obtain ⟨p3, q3, rfl⟩ := hR.last.intsShape
  have hbx := BoxA.new w a (.slice p0 a.sets.length q0) (.slice p1 a.follow.length q1) (.slice p2 a.first.length q2) (.slice p3 a.last.length q3) 26
  have hb0 : Below w.heap.size w (w.alloc (.cells (autoC a (.slice p0 a.sets.length q0) (.slice p1 a.follow.length q1) (.slice p2 a.first.length q2) (.slice p3 a.last.length q3)) 26)) := (Below.refl _ w).alloc (Nat.le_refl _) _
  have hr2 := hR.first.grow hb0
  have hr3 := hR.last.grow hb0
  have e0 : Hid (rightA a = (decide (a.sets.length ≤ 400) && decide (a.follow.length = a.sets.length) && risesB (0 - 1) (a.sets.length - 1) a.first && risesB (0 - 1) (a.sets.length - 1) a.last && goodFrom (a.sets.length - 1) a.follow a.sets)) := rfl
  by_cases h400 : a.sets.length ≤ 400
  · by_cases hfl : a.follow.length = a.sets.length
    · have g1 : ((a.follow.length : Int) == (a.sets.length : Int)) = true := by simp [hfl]
      have g2 : ((a.follow.length : Int) != (a.sets.length : Int)) = false := by simp [hfl]
      have g3 : (a.sets.length : Int) ≤ 400 := by omega
      have hfl2 := Lib.hid hfl
      have e2 : Hid (rightA a = (risesB (0 - 1) (a.sets.length - 1) a.first && risesB (0 - 1) (a.sets.length - 1) a.last && goodFrom (a.sets.length - 1) a.follow a.sets)) := by rw [Hid, e0.out]; simp [h400, hfl]
      clear h400 hfl e0
      have rs2 := rising_any a.first 0 (a.sets.length - 1) _ _ hr2 (by omega) (by omega)
      have rs3 := rising_any a.last 0 (a.sets.length - 1) _ _ hr3 (by omega) (by omega)
      cases hfi : risesB (0 - 1) (a.sets.length - 1) a.first
      · go_enter Try.func21, Try.ntmps21
        go_wp2_with (go_at_call 70; (with_reducible (refine rs2.mono ?_)); rintro e w1 ⟨rfl, rfl⟩; rw [hfi])
        go_ret
        exact ⟨ret_bool (by rw [e2.out, hfi]; simp), hb0⟩
      · cases hla : risesB (0 - 1) (a.sets.length - 1) a.last
        · go_enter Try.func21, Try.ntmps21
          go_wp2_with (first
            | (go_at_call 70; (with_reducible (refine rs2.mono ?_)); rintro e w1 ⟨rfl, rfl⟩; rw [hfi])
            | (go_at_call 70; (with_reducible (refine rs3.mono ?_)); rintro e w1 ⟨rfl, rfl⟩; rw [hla]))
          go_ret
          exact ⟨ret_bool (by rw [e2.out, hla]; simp), hb0⟩
        · have e1 : Hid (rightA a = goodFrom (a.sets.length - 1) a.follow a.sets) := by rw [Hid, e2.out, hfi, hla]; simp
          clear e2 hr2 hr3
          obtain ⟨b0, b1, b2, b3, b4⟩ := hbx
          go_enter Try.func21, Try.ntmps21
          go_wp2_with (first
            | (go_at_call 70; (with_reducible (refine rs2.mono ?_)); rintro e w1 ⟨rfl, rfl⟩; rw [hfi])
            | (go_at_call 70; (with_reducible (refine rs3.mono ?_)); rintro e w1 ⟨rfl, rfl⟩; rw [hla]))
          clear rs2 rs3 hfi hla
          go_loopw [37] (fun i W => ∃ k : Nat, k ≤ a.sets.length ∧ i = .int .i64 k ∧ Hid (rightA a = goodFrom (a.sets.length - 1) (a.follow.drop k) (a.sets.drop k)) ∧ BoxA W w.heap.size a (.slice p0 a.sets.length q0) (.slice p1 a.follow.length q1) (.slice p2 a.first.length q2) (.slice p3 a.last.length q3) ∧ Below w.heap.size w W) (fun i _ => a.sets.length - (intOf i).toNat)
          case atStart => exact ⟨0, by omega, rfl, e1, ⟨b0, b1, b2, b3, b4⟩, hb0⟩
          case round =>
            clear b0 b1 b2 b3 b4
            obtain ⟨k, hk, rfl, hrel, hbx, hb⟩ := hrel
            by_cases hlt : k < a.sets.length
            · obtain ⟨s, hs⟩ := some_at hlt
              obtain ⟨f, hf⟩ := some_at (show k < a.follow.length by rw [hfl2.out]; exact hlt)
              obtain ⟨bs, os, rfl, hSs, hbs, hA⟩ := hat0 k s hs
              obtain ⟨bf, of, rfl, hSf, hbf, u, hRf, hcu⟩ := hat1 k f hf
              obtain ⟨pu, cu, rfl⟩ := hRf.intsShape
              obtain ⟨s0, s1, s2, s3⟩ := hA.move (hb.block bs hbs)
              have hcu2 := (hb.cell (World.block_lt_of_cell? w _ hcu)).trans hcu
              obtain ⟨b0, b1, b2, b3, b4⟩ := hbx
              have rsf := rising_any f 0 (a.sets.length - 1) _ _ (hRf.grow hb) (by omega) (by omega)
              have hst : goodFrom (a.sets.length - 1) (a.follow.drop k) (a.sets.drop k) = (risesB (0 - 1) (a.sets.length - 1) f && !(s == 0) && goodFrom (a.sets.length - 1) (a.follow.drop (k + 1)) (a.sets.drop (k + 1))) := by rw [drop_cons hf, drop_cons hs, goodFrom]
              have HST := Lib.hid hst
              have hfk : (k : Int) < (a.follow.length : Int) := by rw [hfl2.out]; omega
              clear hst hs hf hat0 hat1 hcu hA
              cases hrf : risesB (0 - 1) (a.sets.length - 1) f
              · go_wp2_with (go_at_call 70; (with_reducible (refine rsf.mono ?_)); rintro e w1 ⟨rfl, rfl⟩; rw [hrf])
                go_ret
                exact ⟨ret_bool (by rw [hrel.out, HST.out, hrf]; simp), hb⟩
              · have hz := eq_zero s
                cases hzs : zeroB s
                · have hs0 := Lib.hid (show (s == 0) = false by have := zeroB_false hzs; simpa using this)
                  go_wp2_with (go_at_call 70; (with_reducible (refine rsf.mono ?_)); rintro e w1 ⟨rfl, rfl⟩; rw [hrf])
                  go_roundw
                  case rel => exact ⟨k + 1, by omega, by go_num, by rw [Hid, hrel.out, HST.out, hrf, hs0.out]; simp, ⟨b0, b1, b2, b3, b4⟩, hb⟩
                  case measure => simp [intOf]; omega
                · have hs0 := Lib.hid (show (s == 0) = true by have := zeroB_true hzs; simpa using this)
                  go_wp2_with (go_at_call 70; (with_reducible (refine rsf.mono ?_)); rintro e w1 ⟨rfl, rfl⟩; rw [hrf])
                  go_ret
                  exact ⟨ret_bool (by rw [hrel.out, HST.out, hrf, hs0.out]; simp), hb⟩
            · have hlf : ¬ (k : Int) < (a.follow.length : Int) := by rw [hfl2.out]; omega
              go_wp2
              go_ret
              exact ⟨ret_bool (by rw [hrel.out, List.drop_of_length_le (l := a.sets) (by omega)]; cases (a.follow.drop k) <;> rfl), hb⟩
    · have g1 : ((a.follow.length : Int) == (a.sets.length : Int)) = false := by simp; omega
      have g2 : ((a.follow.length : Int) != (a.sets.length : Int)) = true := by simp; omega
      have g3 : (a.sets.length : Int) ≤ 400 := by omega
      go_enter Try.func21, Try.ntmps21
      go_wp2_with fail
      go_ret
      exact ⟨ret_bool (by rw [e0.out]; simp [hfl]), hb0⟩
  · have h4 : 400 < (a.sets.length : Int) := by omega
    go_enter Try.func21, Try.ntmps21
    go_wp2_with fail
    go_ret
    exact ⟨ret_bool (by rw [e0.out]; simp [h400]), hb0⟩
end Go.Proofs.Ytlagablcopmhkaa
/- Lists that a call makes: rows of its own, which may be written; slices.Clone. -/
namespace Go.Proofs.Ytlagablcopmhkaa
open Go.RowKit

/-- As Rep, and all rows may be written. -/
inductive RepM (w : World) (S : Nat → Prop) : D → Value → Prop
  | v (x : Value) : RepM w S (.v x) x
  | s {n k : Nat} {ds : List D} {p : Option Addr} {cap : Nat} (us : List Value) (hn : n ≤ 140737488355328) (hc : n ≤ cap) (hm : cap ≤ 9223372036854775807) (hd : ds.length = n * k) (hu : us.length = ds.length)
      (hp : us ≠ [] → ∃ b off, p = some ⟨b, off, none⟩ ∧ S b ∧ (∀ j, w.frozen? ⟨b, j, none⟩ = false) ∧ ∀ (j : Nat) (u : Value), us[j]? = some u → w.cell? ⟨b, off + j, none⟩ = some u)
      (hr : ∀ (j : Nat) (d : D) (u : Value), ds[j]? = some d → us[j]? = some u → RepM w S d u) : RepM w S (.s n k ds) (.slice p n cap)

theorem RepM.rep {w : World} {S : Nat → Prop} {d : D} {v : Value} (h : RepM w S d v) : Rep w S d v := by
  induction h with
  | v x => exact .v x
  | s us hn hc hm hd hu hp _ ih =>
    refine .s us hn hc hm hd hu (fun hne => ?_) ih
    obtain ⟨b, off, rfl, hS, _, hcell⟩ := hp hne
    exact ⟨b, off, rfl, hS, hcell⟩

theorem RepM.move {w w' : World} {S S' : Nat → Prop} {d : D} {v : Value} (h : RepM w S d v) (hw : ∀ b, S b → b < w.heap.size → w'.heap[b]? = w.heap[b]? ∧ S' b) : RepM w' S' d v := by
  induction h with
  | v x => exact .v x
  | s us hn hc hm hd hu hp _ ih =>
    refine .s us hn hc hm hd hu (fun hne => ?_) ih
    obtain ⟨b, off, rfl, hS, hf, hcell⟩ := hp hne
    have hb : b < w.heap.size := by
      obtain ⟨u, hu0⟩ : ∃ u, us[0]? = some u := by cases us with | nil => exact absurd rfl hne | cons x l => exact ⟨x, rfl⟩
      exact World.block_lt_of_cell? w _ (hcell 0 u hu0)
    obtain ⟨h1, h2⟩ := hw b hS hb
    exact ⟨b, off, rfl, h2, fun j => (World.frozen?_of_block (w := w) h1).trans (hf j), fun j u hj => (World.cell?_of_block (w := w) h1).trans (hcell j u hj)⟩
theorem RepM.grow {w w' : World} {S : Nat → Prop} {d : D} {v : Value} (h : RepM w S d v) (hb : Below w.heap.size w w') : RepM w' S d v :=
  h.move fun b hs hlt => ⟨hb.block b hlt, hs⟩
theorem RepM.mono {w : World} {S S' : Nat → Prop} {d : D} {v : Value} (h : RepM w S d v) (hS : ∀ b, S b → b < w.heap.size → S' b) : RepM w S' d v :=
  h.move fun b hb hlt => ⟨rfl, hS b hb hlt⟩

/-- the type of a block -/
def tyOf (w : World) (b : Nat) : Option TypeId := match w.heap[b]? with | some (.cells _ t _) => some t | _ => none
/-- blocks from B on, of one type -/
def Ty (B : Nat) (w : World) (t : TypeId) (b : Nat) : Prop := B ≤ b ∧ tyOf w b = some t
theorem tyOf_same {w w' : World} {b : Nat} (h : w'.heap[b]? = w.heap[b]?) : tyOf w' b = tyOf w b := by unfold tyOf; rw [h]
theorem tyOf_row {w : World} {b : Nat} {cs : Array Value} {t : TypeId} {fr : Nat × Nat} (h : w.heap[b]? = some (.cells cs t fr)) : tyOf w b = some t := by unfold tyOf; rw [h]
theorem RepM.tyMove {w w' : World} {B : Nat} {t : TypeId} {d : D} {v : Value} (h : RepM w (Ty B w t) d v) (hw : ∀ b, B ≤ b → b < w.heap.size → tyOf w b = some t → w'.heap[b]? = w.heap[b]?) : RepM w' (Ty B w' t) d v :=
  h.move fun b hb hlt => have e := hw b hb.1 hlt hb.2; ⟨e, hb.1, (tyOf_same e).trans hb.2⟩
theorem RepM.tyGrow {w w' : World} {B : Nat} {t : TypeId} {d : D} {v : Value} (h : RepM w (Ty B w t) d v) (hb : Below w.heap.size w w') : RepM w' (Ty B w' t) d v := h.tyMove fun b _ hlt _ => hb.block b hlt
theorem RepM.tyBase {w : World} {B B' : Nat} {t : TypeId} {d : D} {v : Value} (h : RepM w (Ty B w t) d v) (hB : B' ≤ B) : RepM w (Ty B' w t) d v := h.mono fun _ hb _ => ⟨Nat.le_trans hB hb.1, hb.2⟩
theorem RepM.tyGrown {w w' : World} {B : Nat} {t : TypeId} {d : D} {v : Value} {row : Option Nat} (h : RepM w (Ty B w t) d v) (hg : w.grownBy w' row) (hr : ∀ b, row = some b → tyOf w b ≠ some t) : RepM w' (Ty B w' t) d v :=
  h.tyMove fun b _ hlt ht => hg.block b hlt fun e => hr b e.symm ht
theorem RepM.tySet {w : World} {B : Nat} {t : TypeId} {d : D} {v : Value} (h : RepM w (Ty B w t) d v) (a : Addr) (u : Value) (hr : tyOf w a.block ≠ some t) : RepM (w.setCell a u) (Ty B (w.setCell a u) t) d v :=
  h.tyMove fun b _ _ ht => Below.heap_setCell w a u b (by rintro rfl; exact hr ht)

/-- What a slice owns is held. -/
theorem RepM.of_owns {w : World} {S : Nat → Prop} {base n k : Nat} {e : TypeId} {v : Value} {us : List Value} {ds : List D} (h : w.ownsRow base e k v n us) (hn : n ≤ 140737488355328) (hd : ds.length = n * k)
    (hS : ∀ b, base ≤ b → tyOf w b = some e → S b) (hr : ∀ (j : Nat) (d : D) (u : Value), ds[j]? = some d → us[j]? = some u → RepM w S d u) : RepM w S (.s n k ds) v := by
  obtain ⟨hl, ⟨rfl, rfl⟩ | ⟨g, cap, cur, rfl, hb, hg, hc, hm, hsz, ht⟩⟩ := h
  · exact .s us (by omega) (by omega) (by omega) hd (by omega) (fun hne => absurd (List.length_eq_zero_iff.1 (by simpa using hl)) hne) hr
  · refine .s us hn hc (by simpa [maxLen] using hm) hd (by omega) (fun hne => ⟨g, 0, rfl, hS g hb (by unfold tyOf; rw [hg]), fun j => by simp [World.frozen?, hg], fun j u hj => ?_⟩) hr
    rw [cell_of_row _ _ _ _ _ _ hg, Nat.zero_add]
    rw [← ht, List.getElem?_take] at hj
    split at hj
    · simpa using hj
    · simp at hj

theorem Rep.flat {w : World} {S : Nat → Prop} {n k : Nat} {us : List Value} {v : Value} (h : Rep w S (.s n k (us.map .v)) v) :
    ∃ p cap, v = .slice p n cap ∧ n ≤ 140737488355328 ∧ n ≤ cap ∧ cap ≤ 9223372036854775807 ∧ us.length = n * k ∧ (us ≠ [] → ∃ b off, p = some ⟨b, off, none⟩ ∧ S b ∧ ∀ (j : Nat) (u : Value), us[j]? = some u → w.cell? ⟨b, off + j, none⟩ = some u) := by
  cases h with
  | s us' hn hc hm hd hu hp hr =>
    have e : us' = us := by
      apply List.ext_getElem? 
      intro j
      cases h1 : us'[j]? with
      | none => rw [List.getElem?_eq_none_iff] at h1; simp at hu; rw [eq_comm, List.getElem?_eq_none_iff]; omega
      | some u =>
        have hlt := (List.getElem?_eq_some_iff.1 h1).1
        obtain ⟨x, hx⟩ : ∃ x, us[j]? = some x := ⟨us[j]'(by simp at hu; omega), by simp⟩
        have := hr j (.v x) u (by simp [hx]) h1
        cases this
        exact hx.symm
    subst e
    exact ⟨_, _, rfl, hn, hc, hm, by simpa using hd, hp⟩

end Go.Proofs.Ytlagablcopmhkaa
