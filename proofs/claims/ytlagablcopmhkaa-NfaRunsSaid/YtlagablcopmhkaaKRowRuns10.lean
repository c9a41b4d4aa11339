/- Packed: Step, Api, Ref -/
import Derived.BigQuiet
import Derived.Test.YtlagablcopmhkaaKRowRuns8
import Derived.Test.YtlagablcopmhkaaKRowRuns9
set_option linter.unusedVariables false
set_option linter.unusedSimpArgs false
/- nfa: check, accepts, step. -/
namespace Go.Proofs.Ytlagablcopmhkaa
open Go.RowKit

theorem rises_bd {l : List Int} : ∀ {lo hi : Int}, risesB lo hi l = true → ∀ p ∈ l, lo < p ∧ p ≤ hi := by
  induction l with
  | nil => intro lo hi _ p hp; cases hp
  | cons x l ih =>
    intro lo hi h p hp
    rw [risesB] at h
    split at h
    · cases h
    · rcases List.mem_cons.1 hp with rfl | hp
      · omega
      · have := ih h p hp; omega
theorem goodFrom_bd {hi : Int} : ∀ {fs : List (List Int)} {ss : List (BitVec 256)}, fs.length = ss.length → goodFrom hi fs ss = true → ∀ f ∈ fs, ∀ q ∈ f, 0 ≤ q ∧ q ≤ hi := by
  intro fs
  induction fs with
  | nil => intro ss _ _ f hf; cases hf
  | cons g fs ih =>
    intro ss hl h f hf q hq
    cases ss with
    | nil => simp at hl
    | cons s ss =>
      rw [goodFrom] at h
      simp only [Bool.and_eq_true] at h
      rcases List.mem_cons.1 hf with rfl | hf
      · have := rises_bd h.1.1 q hq; omega
      · exact ih (by simpa using hl) h.2 f hf q hq

/-- what a right automaton has -/
structure RightP (a : Auto) : Prop where
  len : a.sets.length ≤ 400
  fol : a.follow.length = a.sets.length
  first : ∀ p ∈ a.first, 0 ≤ p ∧ p < a.sets.length
  last : ∀ p ∈ a.last, 0 ≤ p ∧ p < a.sets.length
  each : ∀ f ∈ a.follow, ∀ q ∈ f, 0 ≤ q ∧ q < a.sets.length
theorem rightP {a : Auto} (h : rightA a = true) : RightP a := by
  unfold rightA at h
  simp only [Bool.and_eq_true, decide_eq_true_eq] at h
  obtain ⟨⟨⟨⟨h1, h2⟩, h3⟩, h4⟩, h5⟩ := h
  exact ⟨h1, h2, fun p hp => by have := rises_bd h3 p hp; omega, fun p hp => by have := rises_bd h4 p hp; omega, fun f hf q hq => by have := goodFrom_bd h2 h5 f hf q hq; omega⟩

def checkA (a : Auto) (l : List Int) : Int := if rightA a = false then 171 else if risesB (-1 - 1) (a.sets.length - 1) l = false then 172 else 0

set_option maxRecDepth 100000 in
set_option maxHeartbeats 1000000 in
theorem checkA_any {S S' : Nat → Prop} (a : Auto) (v0 v1 v2 v3 : Value) (l : List Int) (v : Value) (w : World) (hR : RepA w S a v0 v1 v2 v3) (hl : Rep w S' (dI l) v) :
    Calls Try.prog 78 #[.agg (autoC a v0 v1 v2 v3), v] w fun e w' => e = .returned (.int .i64 (checkA a l)) ∧ Below w.heap.size w w' := by
  obtain ⟨p0, q0, rfl, hm0, _⟩ := hR.sets.at
  obtain ⟨p1, q1, rfl, _⟩ := hR.follow.at
  obtain ⟨p2, q2, rfl⟩ := hR.first.intsShape
  obtain ⟨p3, q3, rfl⟩ := hR.last.intsShape
  obtain ⟨p, q, rfl⟩ := hl.intsShape
  have hbx := BoxA.new w a (.slice p0 a.sets.length q0) (.slice p1 a.follow.length q1) (.slice p2 a.first.length q2) (.slice p3 a.last.length q3) 26
  have hb0 : Below w.heap.size w (w.alloc (.cells (autoC a (.slice p0 a.sets.length q0) (.slice p1 a.follow.length q1) (.slice p2 a.first.length q2) (.slice p3 a.last.length q3)) 26)) := (Below.refl _ w).alloc (Nat.le_refl _) _
  have hR0 := hR.grow hb0
  obtain ⟨c0, c1, c2, c3, c4⟩ := hbx
  have hcA : Hid (checkA a l = if rightA a = false then 171 else if risesB (-1 - 1) (a.sets.length - 1) l = false then 172 else 0) := rfl
  cases hr : rightA a
  · go_enter Try.func78, Try.ntmps78
    go_wp2_with (go_at_call 21; refine (rightA_any a _ _ _ _ _ hR0).mono ?_; rintro e w1 ⟨rfl, hb1⟩; rw [hr])
    go_ret
    exact ⟨ret_int (by rw [hcA.out, if_pos hr]), hb0.trans (hb1.mono (by simp))⟩
  · have hP := rightP hr
    have hlen := hP.len
    have hlen2 : (a.sets.length : Int) ≤ 400 := by omega
    clear hP hlen
    cases hri : risesB (-1 - 1) (a.sets.length - 1) l
    all_goals
      go_enter Try.func78, Try.ntmps78
      go_wp2_with (first
        | (go_at_call 21; refine (rightA_any a _ _ _ _ _ hR0).mono ?_; rintro e w1 ⟨rfl, hb1⟩; rw [hr]; obtain ⟨d0, d1, d2, d3, d4⟩ := (BoxA.new w a (.slice p0 a.sets.length q0) (.slice p1 a.follow.length q1) (.slice p2 a.first.length q2) (.slice p3 a.last.length q3) 26).below hb1)
        | (go_at_call 70; refine (rising_any l (-1) (a.sets.length - 1) _ _ ((hl.grow hb0).grow hb1) (by omega) (by omega)).mono ?_; rintro e w2 ⟨rfl, rfl⟩; rw [hri]))
      go_ret
      exact ⟨ret_int (by rw [hcA.out, hr, hri]; simp), hb0.trans (hb1.mono (by simp))⟩

/-- whether a state accepts -/
def acc1 (a : Auto) (m : Nat) (p : Int) : Bool := if p = -1 then a.empty else m.testBit p.toNat
def accFirst (a : Auto) (m : Nat) : List Int → Nat → Int
  | [], _ => -1
  | p :: l, i => if acc1 a m p then (i : Int) else accFirst a m l (i + 1)
def accA (a : Auto) (l : List Int) : Bool := l.any (acc1 a (setOf (a.last.map Int.toNat)))

set_option maxHeartbeats 1000000 in
theorem accepts1_any (a : Auto) (v0 v1 v2 v3 : Value) (m tA tB : Nat) (p : Int) (w : World) (hp : -1 ≤ p) (hp2 : p < 448) (hA : BoxA w tA a v0 v1 v2 v3) (hB : BitBox w tB m) :
    Calls Try.prog 114 #[.int .i64 p, .pointer (some ⟨tA, 0, none⟩), .pointer (some ⟨tB, 0, none⟩)] w fun e w' => e = .returned (.bool (acc1 a m p)) ∧ w = w' := by
  obtain ⟨c0, c1, c2, c3, c4⟩ := hA
  rcases eqb2 p (-1) with ⟨h1, h2, h3⟩ | ⟨h1, h2, h3⟩
  · have h4 : Hid (acc1 a m p = a.empty) := by rw [Hid, acc1, if_pos h3.out]
    cases he : a.empty
    all_goals
      rw [he] at c4 h4
      go_enter Try.func114, Try.ntmps114
      go_wp2
      go_ret
      exact ⟨ret_bool h4.out.symm, rfl⟩
  · obtain ⟨k, hk⟩ := Int.eq_ofNat_of_zero_le (show 0 ≤ p by have := h3.out; omega)
    have h4 : Hid (acc1 a m p = m.testBit k) := by rw [Hid, acc1, if_neg h3.out, hk]; rfl
    have hk4 : k < 448 := by omega
    have hb := bits_has k hk4 hB.at
    rw [← hk] at hb
    clear hk
    cases ht : m.testBit k
    all_goals
      rw [ht] at h4 hb
      go_enter Try.func114, Try.ntmps114
      go_wp2_with (go_at_call 115; refine hb.mono ?_; rintro e w1 ⟨rfl, rfl⟩)
      go_ret
      exact ⟨ret_bool h4.out.symm, rfl⟩

set_option maxHeartbeats 1000000 in
theorem accIndex_any {S : Nat → Prop} (a : Auto) (v0 v1 v2 v3 : Value) (m tA tB : Nat) (l : List Int) (hl : ∀ p ∈ l, -1 ≤ p ∧ p < 448) (v : Value) (w : World) (hR : Rep w S (dI l) v) (hA : BoxA w tA a v0 v1 v2 v3) (hB : BitBox w tB m) :
    Calls Try.prog 146 #[v, .func (.func 114) #[] #[.pointer (some ⟨tA, 0, none⟩), .pointer (some ⟨tB, 0, none⟩)]] w fun e w' => e = .returned (.int .i64 (accFirst a m l 0)) ∧ w = w' := by
  obtain ⟨p, cap, rfl, hm, hcap, hcm, hc⟩ := hR.ints
  go_enter Try.func146, Try.ntmps146
  go_wp2
  go_loop [8] (fun i => ∃ j : Nat, j ≤ l.length ∧ i = .int .i64 j ∧ Hid (accFirst a m l 0 = accFirst a m (l.drop j) j)) (fun i => l.length - (intOf i).toNat)
  case atStart => exact ⟨0, by omega, rfl, rfl⟩
  case round =>
    obtain ⟨j, hj, rfl, hi⟩ := hrel
    by_cases hlt : j < l.length
    · obtain ⟨x, hx⟩ := some_at hlt
      obtain ⟨b, off, rfl, hS, hck⟩ := hc j x hx
      have hxb := hl x (List.mem_of_getElem? hx)
      have hit : Hid (accFirst a m l 0 = if acc1 a m x then (j : Int) else accFirst a m (l.drop (j + 1)) (j + 1)) := by rw [Hid, hi.out, drop_cons hx, accFirst]
      have hac := accepts1_any a v0 v1 v2 v3 m tA tB x w hxb.1 hxb.2 hA hB
      clear hx hc
      cases hx1 : acc1 a m x
      · rw [hx1] at hac hit
        go_wp2_with (go_at_call 114; refine hac.mono ?_; rintro e w1 ⟨rfl, rfl⟩)
        go_round
        case rel => exact ⟨j + 1, by omega, by go_num, by rw [Hid, hit.out]; simp⟩
        case measure => simp [intOf]; omega
      · rw [hx1] at hac hit
        go_wp2_with (go_at_call 114; refine hac.mono ?_; rintro e w1 ⟨rfl, rfl⟩)
        go_ret
        exact ⟨ret_int (by rw [hit.out]; simp), rfl⟩
    · go_wp2
      go_ret
      exact ⟨ret_int (by rw [hi.out, List.drop_of_length_le (by omega), accFirst]), rfl⟩

theorem accFirst_ge (a : Auto) (m : Nat) (l : List Int) : ∀ i, decide (0 ≤ accFirst a m l i) = l.any (acc1 a m) := by
  induction l with
  | nil => intro i; rfl
  | cons y l ih =>
    intro i
    rw [accFirst]
    cases h : acc1 a m y
    · simp [h, ih (i + 1)]
    · simp [h]

theorem accContains_any {S : Nat → Prop} (a : Auto) (v0 v1 v2 v3 : Value) (m tA tB : Nat) (l : List Int) (hl : ∀ p ∈ l, -1 ≤ p ∧ p < 448) (v : Value) (w : World) (hR : Rep w S (dI l) v) (hA : BoxA w tA a v0 v1 v2 v3) (hB : BitBox w tB m) :
    Calls Try.prog 113 #[v, .func (.func 114) #[] #[.pointer (some ⟨tA, 0, none⟩), .pointer (some ⟨tB, 0, none⟩)]] w fun e w' => e = .returned (.bool (l.any (acc1 a m))) ∧ w = w' := by
  have hg := Lib.hid (accFirst_ge a m l 0)
  obtain ⟨p, cap, rfl⟩ := hR.intsShape
  go_enter Try.func113, Try.ntmps113
  go_wp2_with (go_at_call 146; refine (accIndex_any a v0 v1 v2 v3 m tA tB l hl _ w hR hA hB).mono ?_; rintro e w' ⟨rfl, rfl⟩)
  go_ret
  exact ⟨ret_bool (by rw [← hg.out]), rfl⟩

theorem ints_toNat {l : List Int} (h : ∀ p ∈ l, 0 ≤ p) : ints (l.map Int.toNat) = l := by
  unfold ints
  rw [List.map_map]
  conv => rhs; rw [← List.map_id l]
  exact List.map_congr_left fun p hp => Int.toNat_of_nonneg (h p hp)

set_option maxRecDepth 100000 in
set_option maxHeartbeats 1000000 in
theorem acceptsA_any {S S' : Nat → Prop} (a : Auto) (v0 v1 v2 v3 : Value) (l : List Int) (v : Value) (w : World) (hR : RepA w S a v0 v1 v2 v3) (hl : Rep w S' (dI l) v) (hP : RightP a) (hl2 : ∀ p ∈ l, -1 ≤ p ∧ p < 448) :
    Calls Try.prog 68 #[.agg (autoC a v0 v1 v2 v3), v] w fun e w' => e = .returned (.bool (accA a l)) ∧ Below w.heap.size w w' := by
  obtain ⟨p0, q0, rfl, hm0, _⟩ := hR.sets.at
  obtain ⟨p1, q1, rfl, _⟩ := hR.follow.at
  obtain ⟨p2, q2, rfl⟩ := hR.first.intsShape
  obtain ⟨p3, q3, rfl⟩ := hR.last.intsShape
  obtain ⟨p, q, rfl⟩ := hl.intsShape
  have hbx := BoxA.new w a (.slice p0 a.sets.length q0) (.slice p1 a.follow.length q1) (.slice p2 a.first.length q2) (.slice p3 a.last.length q3) 26
  have hb0 : Below w.heap.size w (w.alloc (.cells (autoC a (.slice p0 a.sets.length q0) (.slice p1 a.follow.length q1) (.slice p2 a.first.length q2) (.slice p3 a.last.length q3)) 26)) := (Below.refl _ w).alloc (Nat.le_refl _) _
  have hlast : ints (a.last.map Int.toNat) = a.last := ints_toNat fun p hp => (hP.last p hp).1
  have hl4 : ∀ k ∈ a.last.map Int.toNat, k < 448 := fun k hk => by
    obtain ⟨p, hp, rfl⟩ := List.mem_map.1 hk
    have := hP.last p hp
    have := hP.len
    omega
  have hset := fun w' (h : Rep w' S (dI (ints (a.last.map Int.toNat))) (.slice p3 a.last.length q3)) => set_any (a.last.map Int.toNat) hl4 _ w' h
  rw [hlast] at hset
  have hr3 := hR.last.grow hb0
  have hrl := hl.grow hb0
  clear hlast hl4 hP hR
  have hbx2 := hbx
  obtain ⟨c0, c1, c2, c3, c4⟩ := hbx
  have haA : Hid (accA a l = l.any (acc1 a (setOf (a.last.map Int.toNat)))) := rfl
  generalize setOf (a.last.map Int.toNat) = m at *
  go_enter Try.func68, Try.ntmps68
  go_wp2_with (first
    | (go_at_call 112; refine (hset _ hr3).mono ?_; rintro e w1 ⟨rfl, hb1⟩)
    | (go_at_call 113; refine (accContains_any a _ _ _ _ m w.heap.size w1.heap.size l hl2 _ _ ((hrl.grow hb1).grow ((Below.refl _ w1).alloc (Nat.le_refl _) _)) ((hbx2.below hb1).below ((Below.refl _ w1).alloc (Nat.le_refl _) _)) (heap_alloc_new w1 _)).mono ?_; rintro e w2 ⟨rfl, rfl⟩))
  go_ret
  have hb2 := hb0.trans (hb1.mono (by simp))
  exact ⟨ret_bool haA.out.symm, hb2.alloc hb2.size _⟩

/-- the sets of an automaton's step -/
def setAt (a : Auto) (q : Int) : BitVec 256 := a.sets.getD q.toNat 0
def fromA (a : Auto) (p : Int) : List Int := if p = -1 then a.first else a.follow.getD p.toNat []
def stepIn (a : Auto) (c : Nat) : List Int → Nat → Nat
  | [], m => m
  | q :: l, m => stepIn a c l (if inSet (setAt a q) c then m ||| 2 ^ q.toNat else m)
def stepOut (a : Auto) (c : Nat) : List Int → Nat → Nat
  | [], m => m
  | p :: l, m => stepOut a c l (stepIn a c (fromA a p) m)
def stepA (a : Auto) (l : List Int) (c : Nat) : List Int := ints (bitsL (stepOut a c l 0))

set_option maxRecDepth 100000 in
set_option maxHeartbeats 2000000 in
theorem stepA_any {S S' : Nat → Prop} (a : Auto) (v0 v1 v2 v3 : Value) (l : List Int) (v : Value) (c : Nat) (w : World) (hR : RepA w S a v0 v1 v2 v3) (hl : Rep w S' (dI l) v) (hP : RightP a) (hl2 : ∀ p ∈ l, -1 ≤ p ∧ p < a.sets.length) (hc256 : c < 256) :
    Calls Try.prog 79 #[.agg (autoC a v0 v1 v2 v3), v, .int .u8 c] w fun e w' => ∃ v', e = .returned v' ∧ RepM w' (Ty w.heap.size w' 3) (dI (stepA a l c)) v' ∧ Below w.heap.size w w' := by
  obtain ⟨p0, q0, rfl, hm0, hq0, hx0, hat0⟩ := hR.sets.at
  obtain ⟨p1, q1, rfl, hm1, hq1, hx1, hat1⟩ := hR.follow.at
  obtain ⟨p2, q2, rfl, hm2, hq2, hx2, hc2⟩ := hR.first.ints
  obtain ⟨p3, q3, rfl⟩ := hR.last.intsShape
  obtain ⟨p, q, rfl, hm, hq, hx, hcl⟩ := hl.ints
  have hbx := BoxA.new w a (.slice p0 a.sets.length q0) (.slice p1 a.follow.length q1) (.slice p2 a.first.length q2) (.slice p3 a.last.length q3) 26
  have hz : bitsC 0 = #[.int .u64 0, .int .u64 0, .int .u64 0, .int .u64 0, .int .u64 0, .int .u64 0, .int .u64 0] := by simp [bitsC, bw_zero]
  have hb0 : Below w.heap.size w ((w.alloc (.cells (autoC a (.slice p0 a.sets.length q0) (.slice p1 a.follow.length q1) (.slice p2 a.first.length q2) (.slice p3 a.last.length q3)) 26)).alloc (.cells (bitsC 0) 100)) := ((Below.refl _ w).alloc (Nat.le_refl _) _).alloc (by simp) _
  have hB0 : BitBox ((w.alloc (.cells (autoC a (.slice p0 a.sets.length q0) (.slice p1 a.follow.length q1) (.slice p2 a.first.length q2) (.slice p3 a.last.length q3)) 26)).alloc (.cells (bitsC 0) 100)) (w.heap.size + 1) 0 := heap_alloc2_new w _ _
  have hbx0 := hbx.below ((Below.refl _ _).alloc (Nat.le_refl _) (.cells (bitsC 0) 100))
  rw [hz] at hb0 hB0 hbx0
  clear hbx hR hl
  have hflen := hP.fol
  have hslen := hP.len
  have hfirst := hP.first
  have heach := hP.each
  clear hP
  have hflen2 : (a.follow.length : Int) = (a.sets.length : Int) := by omega
  have HF := Lib.hid hflen2
  clear hflen2
  have HL := Lib.hid hflen
  clear hflen
  obtain ⟨n2, hn2⟩ : ∃ n, a.first.length = n := ⟨_, rfl⟩
  rw [hn2] at hm2 hq2 hb0 hB0 hbx0 ⊢
  have HN := Lib.hid hn2
  clear hn2
  go_enter Try.func79, Try.ntmps79
  go_wp2
  go_loopw [15] (fun i W => ∃ (k m : Nat), k ≤ l.length ∧ i = .int .i64 k ∧ Hid (stepOut a c l 0 = stepOut a c (l.drop k) m) ∧ Hid (BitBox W (w.heap.size + 1) m) ∧ BoxA W w.heap.size a (.slice p0 a.sets.length q0) (.slice p1 a.follow.length q1) (.slice p2 n2 q2) (.slice p3 a.last.length q3) ∧ Below w.heap.size w W) (fun i _ => l.length - (intOf i).toNat)
  case atStart => exact ⟨0, 0, by omega, rfl, rfl, hB0, hbx0, hb0⟩
  case round =>
    clear hB0 hbx0 hb0
    obtain ⟨k, m, hk, rfl, hrelO, hB, hbx, hb⟩ := hrel
    by_cases hlt : k < l.length
    · obtain ⟨x, hx1⟩ := some_at hlt
      obtain ⟨bl, ol, rfl, _, hcx⟩ := hcl k x hx1
      have hcx2 := (hb.cell (World.block_lt_of_cell? w _ hcx)).trans hcx
      have hxb := hl2 x (List.mem_of_getElem? hx1)
      have HX := Lib.hid hx1
      obtain ⟨c0, c1, c2, c3, c4⟩ := hbx
      clear hx1 hcx hcl hl2
      have hmain : ∃ pf N qf, (∀ i y, (fromA a x)[i]? = some y → ∃ b off, pf = some ⟨b, off, none⟩ ∧ w.cell? ⟨b, off + i, none⟩ = some (.int .i64 y)) ∧ N ≤ 140737488355328 ∧ (fromA a x).length = N ∧ (∀ q ∈ fromA a x, 0 ≤ q ∧ q < a.sets.length) ∧
          ((((x == -1) = true ∧ (x != -1) = false) ∧ pf = p2 ∧ N = n2 ∧ qf = q2) ∨ (((x == -1) = false ∧ (x != -1) = true) ∧ ∃ (bf of j : Nat), p1 = some ⟨bf, of, none⟩ ∧ x = (j : Int) ∧ (j : Int) < a.follow.length ∧ w.cell? ⟨bf, of + j, none⟩ = some (.slice pf N qf))) := by
        by_cases hx1 : x = -1
        · have e : fromA a x = a.first := by rw [fromA, if_pos hx1]
          rw [e]
          exact ⟨p2, n2, q2, fun i y h => by obtain ⟨b, off, h1, _, h2⟩ := hc2 i y h; exact ⟨b, off, h1, h2⟩, hm2, HN.out, hfirst, .inl ⟨by simp [hx1], rfl, rfl, rfl⟩⟩
        · obtain ⟨j, hj⟩ := Int.eq_ofNat_of_zero_le (show 0 ≤ x by omega)
          have hjl : j < a.follow.length := by have := HL.out; omega
          obtain ⟨f, hf⟩ := some_at hjl
          have e : fromA a x = f := by rw [fromA, if_neg hx1, hj]; simp [hf]
          rw [e]
          obtain ⟨bf, of, h1, _, _, u, hRf, hcu⟩ := hat1 j f hf
          obtain ⟨pu, cu, rfl, hmu, _, _, hcu2⟩ := hRf.ints
          exact ⟨pu, f.length, cu, fun i y h => by obtain ⟨b, off, h1, _, h2⟩ := hcu2 i y h; exact ⟨b, off, h1, h2⟩, hmu, rfl, heach f (List.mem_of_getElem? hf), .inr ⟨by simp [hx1], bf, of, j, h1, hj, by omega, hcu⟩⟩
      obtain ⟨pf, N, qf, hcf, hNb, hNl, hfb, hcase⟩ := hmain
      have HNl := Lib.hid hNl
      clear hc2 hat1 heach hfirst hNl
      rcases hcase with ⟨⟨t1, t2⟩, rfl, rfl, rfl⟩ | ⟨⟨t1, t2⟩, bf, of, jx, rfl, rfl, hjx, hcell⟩
      · clear HN
        go_wp2
        go_loopw [30] (fun i W => ∃ (j m2 : Nat), j ≤ N ∧ i = .int .i64 j ∧ Hid (stepIn a c (fromA a x) m = stepIn a c ((fromA a x).drop j) m2) ∧ Hid (BitBox W (w.heap.size + 1) m2) ∧ BoxA W w.heap.size a (.slice p0 a.sets.length q0) (.slice p1 a.follow.length q1) (.slice pf N qf) (.slice p3 a.last.length q3) ∧ Below w.heap.size w W) (fun i _ => N - (intOf i).toNat)
        case atStart => exact ⟨0, m, by omega, rfl, rfl, hB, ⟨c0, c1, c2, c3, c4⟩, hb⟩
        case round =>
          obtain ⟨j, m2, hj, rfl, hrel2, hB2, hbx2, hb2⟩ := hrel
          clear hB c0 c1 c2 c3 c4 hb
          by_cases hlt2 : j < N
          · obtain ⟨y, hy⟩ := some_at (show j < (fromA a x).length by have := HNl.out; omega)
            obtain ⟨by_, oy, rfl, hcy⟩ := hcf j y hy
            have hcy2 := (hb2.cell (World.block_lt_of_cell? w _ hcy)).trans hcy
            have hyb := hfb y (List.mem_of_getElem? hy)
            obtain ⟨d0, d1, d2, d3, d4⟩ := hbx2
            obtain ⟨n, hn⟩ := Int.eq_ofNat_of_zero_le hyb.1
            obtain ⟨s, hs⟩ := some_at (show n < a.sets.length by omega)
            obtain ⟨bs, os, rfl, hSs, hbs, hA⟩ := hat0 n s hs
            obtain ⟨s0, s1, s2, s3⟩ := hA.move (hb2.block bs hbs)
            have hstp : stepIn a c ((fromA a x).drop j) m2 = stepIn a c ((fromA a x).drop (j + 1)) (if inSet s c then m2 ||| 2 ^ n else m2) := by
              have e1 : setAt a y = s := by rw [setAt, hn]; simp [hs]
              have e2 : y.toNat = n := by omega
              rw [drop_cons hy, stepIn, e1, e2]
            have HST := Lib.hid hstp
            have hn4 : n < 448 := by omega
            obtain rfl : y = (n : Int) := hn
            clear hstp hy hs hcy hA hcf hfb hat0
            have hput := fun (W : World) (h : BitBox W (w.heap.size + 1) m2) => bits_put n hn4 h
            cases hin : inSet s c
            · rw [hin] at HST
              go_wp2_with (first
                | (go_at_call 117; refine (sets_has _ s c hc256).mono ?_; rintro e w3 ⟨rfl, hb3⟩; rw [hin]))
              have hb4 := hb2.trans (hb3.mono hb2.size)
              go_roundw
              case rel => exact ⟨j + 1, m2, by omega, by go_num, by rw [Hid, hrel2.out, HST.out]; simp, hB2.out.move (hb3.block _ hB2.out.lt), BoxA.below ⟨d0, d1, d2, d3, d4⟩ hb3, hb4⟩
              case measure => simp [intOf]; omega
            · rw [hin] at HST
              go_wp2_with (first
                | (go_at_call 117; refine (sets_has _ s c hc256).mono ?_; rintro e w3 ⟨rfl, hb3⟩; rw [hin])
                | (go_at_call 116; refine (hput _ (hB2.out.move (hb3.block _ hB2.out.lt))).mono ?_; rintro e w4 ⟨rfl, ht⟩))
              have hb4 := hb2.trans (hb3.mono hb2.size)
              go_roundw
              case rel => exact ⟨j + 1, m2 ||| 2 ^ n, by omega, by go_num, by rw [Hid, hrel2.out, HST.out]; simp, ht.box, (BoxA.below ⟨d0, d1, d2, d3, d4⟩ hb3).move (ht.same _ (by omega)), hb4.trans (ht.below (by omega))⟩
              case measure => simp [intOf]; omega
          · obtain rfl : j = N := by omega
            go_wp2
            go_roundw
            case rel => exact ⟨k + 1, m2, by omega, by go_num, by rw [Hid, hrelO.out, drop_cons HX.out, stepOut, hrel2.out, List.drop_of_length_le (l := fromA a x) (by have := HNl.out; omega)]; rfl, hB2, hbx2, hb2⟩
            case measure => simp [intOf]; omega
      · have hcell2 := (hb.cell (World.block_lt_of_cell? w _ hcell)).trans hcell
        go_wp2
        go_loopw [30] (fun i W => ∃ (j m2 : Nat), j ≤ N ∧ i = .int .i64 j ∧ Hid (stepIn a c (fromA a (jx : Int)) m = stepIn a c ((fromA a (jx : Int)).drop j) m2) ∧ Hid (BitBox W (w.heap.size + 1) m2) ∧ BoxA W w.heap.size a (.slice p0 a.sets.length q0) (.slice (some ⟨bf, of, none⟩) a.follow.length q1) (.slice p2 n2 q2) (.slice p3 a.last.length q3) ∧ Below w.heap.size w W) (fun i _ => N - (intOf i).toNat)
        case atStart => exact ⟨0, m, by omega, rfl, rfl, hB, ⟨c0, c1, c2, c3, c4⟩, hb⟩
        case round =>
          obtain ⟨j, m2, hj, rfl, hrel2, hB2, hbx2, hb2⟩ := hrel
          clear hB c0 c1 c2 c3 c4 hb
          by_cases hlt2 : j < N
          · obtain ⟨y, hy⟩ := some_at (show j < (fromA a (jx : Int)).length by have := HNl.out; omega)
            obtain ⟨by_, oy, rfl, hcy⟩ := hcf j y hy
            have hcy2 := (hb2.cell (World.block_lt_of_cell? w _ hcy)).trans hcy
            have hyb := hfb y (List.mem_of_getElem? hy)
            obtain ⟨d0, d1, d2, d3, d4⟩ := hbx2
            obtain ⟨n, hn⟩ := Int.eq_ofNat_of_zero_le hyb.1
            obtain ⟨s, hs⟩ := some_at (show n < a.sets.length by omega)
            obtain ⟨bs, os, rfl, hSs, hbs, hA⟩ := hat0 n s hs
            obtain ⟨s0, s1, s2, s3⟩ := hA.move (hb2.block bs hbs)
            have hstp : stepIn a c ((fromA a (jx : Int)).drop j) m2 = stepIn a c ((fromA a (jx : Int)).drop (j + 1)) (if inSet s c then m2 ||| 2 ^ n else m2) := by
              have e1 : setAt a y = s := by rw [setAt, hn]; simp [hs]
              have e2 : y.toNat = n := by omega
              rw [drop_cons hy, stepIn, e1, e2]
            have HST := Lib.hid hstp
            have hn4 : n < 448 := by omega
            obtain rfl : y = (n : Int) := hn
            clear hstp hy hs hcy hA hcf hfb hat0
            have hput := fun (W : World) (h : BitBox W (w.heap.size + 1) m2) => bits_put n hn4 h
            cases hin : inSet s c
            · rw [hin] at HST
              go_wp2_with (first
                | (go_at_call 117; refine (sets_has _ s c hc256).mono ?_; rintro e w3 ⟨rfl, hb3⟩; rw [hin]))
              have hb4 := hb2.trans (hb3.mono hb2.size)
              go_roundw
              case rel => exact ⟨j + 1, m2, by omega, by go_num, by rw [Hid, hrel2.out, HST.out]; simp, hB2.out.move (hb3.block _ hB2.out.lt), BoxA.below ⟨d0, d1, d2, d3, d4⟩ hb3, hb4⟩
              case measure => simp [intOf]; omega
            · rw [hin] at HST
              go_wp2_with (first
                | (go_at_call 117; refine (sets_has _ s c hc256).mono ?_; rintro e w3 ⟨rfl, hb3⟩; rw [hin])
                | (go_at_call 116; refine (hput _ (hB2.out.move (hb3.block _ hB2.out.lt))).mono ?_; rintro e w4 ⟨rfl, ht⟩))
              have hb4 := hb2.trans (hb3.mono hb2.size)
              go_roundw
              case rel => exact ⟨j + 1, m2 ||| 2 ^ n, by omega, by go_num, by rw [Hid, hrel2.out, HST.out]; simp, ht.box, (BoxA.below ⟨d0, d1, d2, d3, d4⟩ hb3).move (ht.same _ (by omega)), hb4.trans (ht.below (by omega))⟩
              case measure => simp [intOf]; omega
          · obtain rfl : j = N := by omega
            go_wp2
            go_roundw
            case rel => exact ⟨k + 1, m2, by omega, by go_num, by rw [Hid, hrelO.out, drop_cons HX.out, stepOut, hrel2.out, List.drop_of_length_le (l := fromA a (jx : Int)) (by have := HNl.out; omega)]; rfl, hB2, hbx2, hb2⟩
            case measure => simp [intOf]; omega
    · obtain rfl : k = l.length := by omega
      have hlist := list_any m (w.heap.size + 1) 0 wr hB.out.at
      have hrel2 : Hid (stepA a l c = ints (bitsL m)) := by rw [Hid, stepA, hrelO.out, List.drop_length]; rfl
      clear hat0 hat1 hc2
      go_wp2_with (go_at_call 62; refine hlist.mono ?_; rintro e w2 ⟨v', rfl, hv, hb2⟩)
      go_ret
      exact ⟨_, rfl, by rw [hrel2.out]; exact hv.tyBase hb.size, hb.trans (hb2.mono hb.size)⟩
end Go.Proofs.Ytlagablcopmhkaa
/- nfa: Step, Accepts; slices.Equal; Same. -/
namespace Go.Proofs.Ytlagablcopmhkaa
open Go.RowKit

theorem RepM.nil (w : World) (S : Nat → Prop) : RepM w S (dI []) (.slice none 0 0) := .s [] (by simp) (by simp) (by simp) (by simp) (by simp) (fun h => absurd rfl h) (by simp)
theorem check_zero {a : Auto} {l : List Int} (h : checkA a l = 0) : RightP a ∧ ∀ p ∈ l, -1 ≤ p ∧ p < a.sets.length := by
  unfold checkA at h
  split at h
  · cases h
  · rename_i h1
    split at h
    · cases h
    · rename_i h2
      refine ⟨rightP (by simpa using h1), fun p hp => ?_⟩
      have := rises_bd (by simpa using h2) p hp
      omega
def stepR (a : Auto) (l : List Int) (c : Nat) : List Int := if checkA a l = 0 then stepA a l c else []
set_option maxRecDepth 100000 in
set_option maxHeartbeats 1000000 in
theorem Step_any {S S' : Nat → Prop} (a : Auto) (v0 v1 v2 v3 : Value) (l : List Int) (v : Value) (c : Nat) (w : World) (hR : RepA w S a v0 v1 v2 v3) (hl : Rep w S' (dI l) v) (hc256 : c < 256) :
    Calls Try.prog 27 #[.agg (autoC a v0 v1 v2 v3), v, .int .u8 c] w fun e w' => ∃ v', e = .returned (.tuple #[v', .int .i64 (checkA a l)]) ∧ RepM w' (Ty w.heap.size w' 3) (dI (stepR a l c)) v' ∧ Below w.heap.size w w' := by
  obtain ⟨p0, q0, rfl, _⟩ := hR.sets.at
  obtain ⟨p1, q1, rfl, _⟩ := hR.follow.at
  obtain ⟨p2, q2, rfl⟩ := hR.first.intsShape
  obtain ⟨p3, q3, rfl⟩ := hR.last.intsShape
  obtain ⟨p, q, rfl⟩ := hl.intsShape
  have hbx := BoxA.new w a (.slice p0 a.sets.length q0) (.slice p1 a.follow.length q1) (.slice p2 a.first.length q2) (.slice p3 a.last.length q3) 26
  have hb0 : Below w.heap.size w (w.alloc (.cells (autoC a (.slice p0 a.sets.length q0) (.slice p1 a.follow.length q1) (.slice p2 a.first.length q2) (.slice p3 a.last.length q3)) 26)) := (Below.refl _ w).alloc (Nat.le_refl _) _
  have hR0 := hR.grow hb0
  have hl0 := hl.grow hb0
  have hbx2 := hbx
  obtain ⟨c0, c1, c2, c3, c4⟩ := hbx
  rcases eqb2 (checkA a l) 0 with ⟨h1, h2, h3⟩ | ⟨h1, h2, h3⟩
  · obtain ⟨hP, hlb⟩ := check_zero h3.out
    have hlb2 := Lib.hid hlb
    have HP := Lib.hid hP
    have hs : Hid (stepR a l c = stepA a l c) := by rw [Hid, stepR, if_pos h3.out]
    clear hlb hP
    go_enter Try.func27, Try.ntmps27
    go_wp2_with (first
      | (go_at_call 78; refine (checkA_any a _ _ _ _ l _ _ hR0 hl0).mono ?_; rintro e w1 ⟨rfl, hb1⟩; obtain ⟨d0, d1, d2, d3, d4⟩ := hbx2.below hb1)
      | (go_at_call 79; refine (stepA_any a _ _ _ _ l _ c _ (hR0.grow hb1) (hl0.grow hb1) HP.out hlb2.out hc256).mono ?_; rintro e w2 ⟨v', rfl, hv, hb2⟩))
    go_ret2
    have hb3 := hb0.trans (hb1.mono (by simp))
    exact ⟨_, by rw [h3.out]; rfl, by rw [hs.out]; exact hv.tyBase hb3.size, hb3.trans (hb2.mono hb3.size)⟩
  · have hs : Hid (stepR a l c = []) := by rw [Hid, stepR, if_neg h3.out]
    go_enter Try.func27, Try.ntmps27
    go_wp2_with (first
      | (go_at_call 78; refine (checkA_any a _ _ _ _ l _ _ hR0 hl0).mono ?_; rintro e w1 ⟨rfl, hb1⟩; obtain ⟨d0, d1, d2, d3, d4⟩ := hbx2.below hb1))
    go_ret2
    exact ⟨_, rfl, by rw [hs.out]; exact RepM.nil _ _, hb0.trans (hb1.mono (by simp))⟩

set_option maxRecDepth 100000 in
set_option maxHeartbeats 1000000 in
theorem equalI_any {S S' : Nat → Prop} (l k : List Int) (v u : Value) (w : World) (hl : Rep w S (dI l) v) (hk : Rep w S' (dI k) u) :
    Calls Try.prog 23 #[v, u] w fun e w' => e = .returned (.bool (decide (l = k))) ∧ Below w.heap.size w w' := by
  obtain ⟨p, cap, rfl, hm, hcap, hcm, hc⟩ := hl.ints
  obtain ⟨p', cap', rfl, hm', hcap', hcm', hc'⟩ := hk.ints
  clear hl hk
  rcases eqb2 (l.length : Int) k.length with ⟨h1, h2, h3⟩ | ⟨h1, h2, h3⟩
  · have h3' := h3.out
    have HL := Lib.hid (show l.length = k.length by omega)
    clear h3'
    go_enter Try.func23, Try.ntmps23
    go_wp2
    go_loopw [13] (fun i W => ∃ j : Nat, j ≤ l.length ∧ i = .int .i64 j ∧ Hid (l.take j = k.take j) ∧ Below w.heap.size w W) (fun i _ => l.length - (intOf i).toNat)
    case atStart => exact ⟨0, by omega, rfl, rfl, Below.refl _ _⟩
    case round =>
      obtain ⟨j, hj, rfl, hi, hb⟩ := hrel
      by_cases hlt : j < l.length
      · obtain ⟨x, hx⟩ := some_at hlt
        obtain ⟨y, hy⟩ := some_at (show j < k.length by have := HL.out; omega)
        obtain ⟨b, off, rfl, hS, hck⟩ := hc j x hx
        obtain ⟨b', off', rfl, hS', hck'⟩ := hc' j y hy
        have hck2 := (hb.cell (World.block_lt_of_cell? w _ hck)).trans hck
        have hck2' := (hb.cell (World.block_lt_of_cell? w _ hck')).trans hck'
        have HX := Lib.hid hx
        have HY := Lib.hid hy
        have hjk : (j : Int) < k.length := by have := HL.out; omega
        clear hx hy hc hc' hck hck'
        rcases eqb2 x y with ⟨t1, t2, t3⟩ | ⟨t1, t2, t3⟩
        · go_wp2
          go_quiet (fail)
          go_wp2
          go_roundw
          case rel => exact ⟨j + 1, by omega, by go_num, by rw [Hid, take_succ_of HX.out, take_succ_of HY.out, hi.out, t3.out], ⟨hb.os, hb.tape, hb.output, hb.size, hb.block⟩⟩
          case measure => simp [intOf]; omega
        · go_wp2
          go_quiet (fail)
          go_wp2
          go_ret
          refine ⟨ret_bool ?_, ⟨hb.os, hb.tape, hb.output, hb.size, hb.block⟩⟩
          have hne : l ≠ k := by
            rintro rfl
            have h1 := HX.out
            rw [HY.out] at h1
            exact t3.out (by cases h1; rfl)
          simp [hne]
      · go_wp2
        go_ret
        refine ⟨ret_bool ?_, hb⟩
        have e := hi.out
        rw [List.take_of_length_le (by omega), List.take_of_length_le (by have := HL.out; omega)] at e
        simp [e]
  · go_enter Try.func23, Try.ntmps23
    go_wp2
    go_ret
    exact ⟨ret_bool (by simp; rintro rfl; exact h3.out rfl), Below.refl _ _⟩
end Go.Proofs.Ytlagablcopmhkaa
/- The reference of layer 17: Rising, has, Size of a set. -/
namespace Go.Proofs.Ytlagablcopmhkaa
open Go.RowKit

def sumW (s : BitVec 256) : Nat → Int
  | 0 => 0
  | k + 1 => sumW s k + wbit s k
theorem wbit_bd (s : BitVec 256) (c : Nat) : 0 ≤ wbit s c ∧ wbit s c ≤ 1 := by unfold wbit; split <;> omega
theorem sumW_bd (s : BitVec 256) (k : Nat) : 0 ≤ sumW s k ∧ sumW s k ≤ k := by
  induction k with
  | zero => simp [sumW]
  | succ k ih => have := wbit_bd s k; simp [sumW]; omega
theorem sumW_zero (s : BitVec 256) (k : Nat) : sumW s k = 0 ↔ ∀ c, c < k → inSet s c = false := by
  induction k with
  | zero => simp [sumW]
  | succ k ih =>
    have h1 := wbit_bd s k
    have h2 := sumW_bd s k
    constructor
    · intro h c hc
      simp only [sumW] at h
      by_cases e : c = k
      · subst e
        cases hi : inSet s c
        · rfl
        · have : wbit s c = 1 := by simp [wbit, hi]
          omega
      · exact ih.1 (by omega) c (by omega)
    · intro h
      have a := ih.2 fun c hc => h c (by omega)
      have b : wbit s k = 0 := by simp [wbit, h k (by omega)]
      simp [sumW, a, b]
theorem sum_zero (s : BitVec 256) : (sumW s 256 == 0) = zeroB s := by
  have key : sumW s 256 = 0 ↔ s = 0 := by
    rw [sumW_zero]
    constructor
    · intro h
      apply BitVec.eq_of_toNat_eq
      apply Nat.eq_of_testBit_eq
      intro i
      by_cases hi : i < 256
      · rw [show s.toNat.testBit i = false from h i hi]; simp
      · rw [Nat.testBit_lt_two_pow (Nat.lt_of_lt_of_le s.isLt (Nat.pow_le_pow_right (by decide) (by omega)))]; simp
    · rintro rfl c _
      simp [inSet]
  by_cases h : s = 0
  · rw [show sumW s 256 = 0 from key.2 h]; simp [zeroB, eqSet, h]
  · have : sumW s 256 ≠ 0 := fun e => h (key.1 e)
    have hz : zeroB s = false := by unfold zeroB eqSet; exact decide_eq_false h
    rw [hz]
    simpa using this

set_option maxRecDepth 100000 in
set_option maxHeartbeats 1000000 in
theorem size_ref (s : BitVec 256) (w : World) :
    Calls Try.prog 101 #[.agg (wordsC s)] w fun e w' => e = .returned (.int .i64 (sumW s 256)) ∧ Below w.heap.size w w' := by
  have hb0 : Below w.heap.size w (w.alloc (.cells (wordsC s) 141)) := (Below.refl _ w).alloc (Nat.le_refl _) _
  have hp0 : (w.alloc (.cells (wordsC s) 141)).heap[w.heap.size]? = some (.cells (wordsP s 256) 141 (0, 0)) := heap_alloc_new w _
  have hc : ∀ k, k < 256 → (w.alloc (.cells (wordsC s) 141)).cell? ⟨w.heap.size, k, none⟩ = some (.int .i64 (wbit s k)) := fun k hk => by
    rw [cell_of_row _ _ k _ _ _ hp0, wordsP_at s 256 k hk, if_pos hk]
  have hsz : (wordsC s).size = 256 := wordsP_size s 256
  generalize wordsC s = ws at *
  go_enter Try.func101, Try.ntmps101
  go_wp2
  go_loop [3, 4] (fun n i => ∃ (k : Nat) (m : Int), k ≤ 256 ∧ i = .int .i64 k ∧ n = .int .i64 m ∧ Hid (m = sumW s k) ∧ 0 ≤ m ∧ m ≤ k) (fun _ i => 256 - (intOf i).toNat)
  case atStart => exact ⟨0, 0, by omega, rfl, rfl, rfl, by omega, by omega⟩
  case round =>
    obtain ⟨k, m, hk, rfl, rfl, hm, m0, m1⟩ := hrel
    by_cases hlt : k < 256
    · have hck := hc k hlt
      have hbit := wbit_bd s k
      have hst : Hid (sumW s (k + 1) = sumW s k + wbit s k) := rfl
      generalize wbit s k = y at *
      clear hc
      go_wp2
      go_round
      case rel => exact ⟨k + 1, m + y, by omega, by go_num, rfl, by rw [Hid, hst.out, hm.out], by omega, by omega⟩
      case measure => simp [intOf]; omega
    · obtain rfl : k = 256 := by omega
      clear hc
      go_wp2
      go_ret
      exact ⟨ret_int hm.out, hb0⟩

theorem hasR_any {S : Nat → Prop} (l : List Int) (x : Int) (v : Value) (w : World) (hR : Rep w S (dI l) v) :
    Calls Try.prog 104 #[v, .int .i64 x] w fun e w' => e = .returned (.bool (decide (x ∈ l))) ∧ w = w' := by
  obtain ⟨p, cap, rfl, hm, hcap, hcm, hc⟩ := hR.ints
  clear hR
  go_enter Try.func104, Try.ntmps104
  go_wp2
  go_loop [5] (fun i => ∃ k : Nat, k ≤ l.length ∧ i = .int .i64 k ∧ Hid (x ∉ l.take k)) (fun i => l.length - (intOf i).toNat)
  case atStart => exact ⟨0, by omega, rfl, by simp [Hid]⟩
  case round =>
    obtain ⟨k, hk, rfl, hn⟩ := hrel
    by_cases hlt : k < l.length
    · obtain ⟨y, hy⟩ := some_at hlt
      obtain ⟨b, off, rfl, _, hck⟩ := hc k y hy
      have HY := Lib.hid hy
      clear hy hc
      rcases eqb2 y x with ⟨h1, h2, h3⟩ | ⟨h1, h2, h3⟩
      · go_wp2
        go_ret
        exact ⟨ret_bool (by have := List.mem_of_getElem? HY.out; rw [h3.out] at this; simp [this]), rfl⟩
      · go_wp2
        go_round
        case rel => exact ⟨k + 1, by omega, by go_num, by rw [Hid, take_succ_of HY.out]; have := hn.out; have := h3.out; simp [*]; omega⟩
        case measure => simp [intOf]; omega
    · go_wp2
      go_ret
      exact ⟨ret_bool (by have := hn.out; rw [List.take_of_length_le (by omega)] at this; simp [this]), rfl⟩

def lastOf (l : List Int) (k : Nat) (lo : Int) : Int := if k = 0 then lo - 1 else l.getD (k - 1) 0

set_option maxRecDepth 100000 in
set_option maxHeartbeats 2000000 in
theorem risingR_any {S : Nat → Prop} (l : List Int) (lo n : Int) (v : Value) (w : World) (hR : Rep w S (dI l) v) :
    Calls Try.prog 100 #[v, .int .i64 lo, .int .i64 n] w fun e w' => e = .returned (.bool (risesB (lo - 1) (n - 1) l)) ∧ Below w.heap.size w w' := by
  obtain ⟨p, cap, rfl, hm, hcap, hcm, hc⟩ := hR.ints
  clear hR
  go_enter Try.func100, Try.ntmps100
  go_wp2
  go_loopw [7] (fun i W => ∃ (k : Nat) (m : Int), k ≤ l.length ∧ i = .int .i64 k ∧ Hid (risesB (lo - 1) (n - 1) l = risesB m (n - 1) (l.drop k)) ∧ Hid (m = lastOf l k lo) ∧ lo - 1 ≤ m ∧ Below w.heap.size w W) (fun i _ => l.length - (intOf i).toNat)
  case atStart => exact ⟨0, lo - 1, by omega, rfl, rfl, rfl, by omega, Below.refl _ _⟩
  case round =>
    obtain ⟨k, m, hk, rfl, hrel, hm2, hlo, hb⟩ := hrel
    by_cases hlt : k < l.length
    · obtain ⟨x, hx⟩ := some_at hlt
      obtain ⟨b, off, rfl, _, hck⟩ := hc k x hx
      have hck2 := (hb.cell (World.block_lt_of_cell? w _ hck)).trans hck
      have HX := Lib.hid hx
      have hnext : Hid (x = lastOf l (k + 1) lo) := by rw [Hid, lastOf, if_neg (by omega)]; simp [hx]
      have hstep : Hid (risesB (lo - 1) (n - 1) l = if x ≤ m ∨ n - 1 < x then false else risesB x (n - 1) (l.drop (k + 1))) := by rw [Hid, hrel.out, drop_cons hx, risesB]
      by_cases h1 : x < lo
      · have d1 : decide (x < lo) = true := by simp [h1]
        clear hc hck
        go_wp2
        go_quiet (fail)
        go_wp2
        go_ret
        exact ⟨ret_bool (by rw [hstep.out, if_pos (by omega)]), ⟨hb.os, hb.tape, hb.output, hb.size, hb.block⟩⟩
      · have d1 : decide (x < lo) = false := by simp; omega
        by_cases h2 : n ≤ x
        · have d2 : decide (n ≤ x) = true := by simp [h2]
          clear hc hck
          go_wp2
          go_quiet (fail)
          go_wp2
          go_ret
          exact ⟨ret_bool (by rw [hstep.out, if_pos (by omega)]), ⟨hb.os, hb.tape, hb.output, hb.size, hb.block⟩⟩
        · have d2 : decide (n ≤ x) = false := by simp; omega
          by_cases h3 : k = 0
          · subst h3
            have hck3 : wr.cell? ⟨b, off, none⟩ = some (.int .i64 x) := by simpa using hck2
            have hl3 : (0 : Int) < l.length := by omega
            have hm3 := Lib.hid (show m = lo - 1 from hm2.out)
            clear hc hck hck2
            go_wp2
            go_quiet (fail)
            go_wp2
            go_roundw
            case rel => exact ⟨1, x, by omega, rfl, by have := hm3.out; rw [Hid, hstep.out, if_neg (by omega)], hnext, by omega, ⟨hb.os, hb.tape, hb.output, hb.size, hb.block⟩⟩
            case measure => simp [intOf]; omega
          · obtain ⟨j, rfl⟩ : ∃ j, k = j + 1 := ⟨k - 1, by omega⟩
            obtain ⟨y, hy⟩ := some_at (show j < l.length by omega)
            obtain ⟨b', off', e', _, hcj⟩ := hc j y hy
            cases e'
            have hcj2 := (hb.cell (World.block_lt_of_cell? w _ hcj)).trans hcj
            obtain rfl : y = m := by have := hm2.out; rw [lastOf, if_neg (by omega)] at this; simp [hy] at this; exact this.symm
            clear hc hck hcj hy
            by_cases h4 : x ≤ y
            · have d4 : decide (x ≤ y) = true := by simp [h4]
              go_wp2
              go_quiet (fail)
              go_wp2
              go_ret
              exact ⟨ret_bool (by rw [hstep.out, if_pos (by omega)]), ⟨hb.os, hb.tape, hb.output, hb.size, hb.block⟩⟩
            · have d4 : decide (x ≤ y) = false := by simp; omega
              go_wp2
              go_quiet (fail)
              go_wp2
              go_roundw
              case rel => exact ⟨j + 2, x, by omega, by go_num, by rw [Hid, hstep.out, if_neg (by omega)], hnext, by omega, ⟨hb.os, hb.tape, hb.output, hb.size, hb.block⟩⟩
              case measure => simp [intOf]; omega
    · go_wp2
      go_ret
      exact ⟨ret_bool (by rw [hrel.out, List.drop_of_length_le (by omega), risesB]), hb⟩
end Go.Proofs.Ytlagablcopmhkaa
