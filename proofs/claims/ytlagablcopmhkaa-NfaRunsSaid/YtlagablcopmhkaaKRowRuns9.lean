/- Packed: Clone, BitsSeq, Collect, BitsList, Words -/
import Derived.Maps.AppendAt
import Derived.Test.YtlagablcopmhkaaKRowRuns1
import Derived.Test.YtlagablcopmhkaaKRowRuns2
import Derived.Test.YtlagablcopmhkaaKRowRuns8
set_option linter.unusedVariables false
set_option linter.unusedSimpArgs false
/- slices.Clone at lists that have no slices inside. -/
namespace Go.Proofs.Ytlagablcopmhkaa
open Go.RowKit

theorem info_of {P : Program} {t : TypeId} {z : Option Value} {k b : Nat} (h : (P.info? t).map (fun i => (i.zero, i.size, i.bytes)) = some (z, k, b)) : ∃ i, P.info? t = some i ∧ i.zero = z ∧ i.size = k ∧ i.bytes = b := by
  cases hi : P.info? t with
  | none => rw [hi] at h; cases h
  | some i => rw [hi] at h; cases h; exact ⟨i, rfl, rfl, rfl, rfl⟩
theorem RepM.vals {w : World} {S : Nat → Prop} (us : List Value) (j : Nat) (d : D) (u : Value) (h : (us.map D.v)[j]? = some d) (h2 : us[j]? = some u) : RepM w S d u := by
  rw [List.getElem?_map, h2] at h; cases h; exact .v u

theorem Try.infoI : ∃ i, Try.prog.info? 3 = some i ∧ i.zero = some (.int .i64 0) ∧ i.size = 1 ∧ i.bytes = 8 := info_of (by kernel_rfl)

set_option maxRecDepth 100000 in
set_option maxHeartbeats 1000000 in
theorem cloneI_any {S : Nat → Prop} (n : Nat) (us : List Value) (v : Value) (w : World) (hR : Rep w S (.s n 1 (us.map .v)) v) (h1 : ∀ u ∈ us, u.oneCell' = true) (hn : n ≤ 1000000) :
    Calls Try.prog 44 #[v] w fun e w' => ∃ v', e = .returned v' ∧ RepM w' (Ty w.heap.size w' 3) (.s n 1 (us.map .v)) v' ∧ Below w.heap.size w w' := by
  obtain ⟨p, cap, rfl, hm, hcap, hcm, hl, hp⟩ := hR.flat
  have hne := @Lib.run_eql_slice_nil
  clear hR
  cases p with
  | none =>
    have hz : us = [] := by
      cases us with
      | nil => rfl
      | cons x l => obtain ⟨b, off, h, _⟩ := hp (by simp); cases h
    subst hz
    obtain rfl : n = 0 := by simp at hl; omega
    go_enter Try.func44, Try.ntmps44
    go_wp2_with fail
    go_ret
    exact ⟨_, rfl, .s [] (by omega) (by omega) (by omega) (by simp) (by simp) (fun h => absurd rfl h) (by simp), Below.refl _ _⟩
  | some a =>
    have hc : ∀ (j : Nat) (u : Value), us[j]? = some u → w.cell? (a.add j) = some u := by
      intro j u hj
      obtain ⟨b, off, h, _, hc⟩ := hp (by rintro rfl; simp at hj)
      cases h
      have := hc j u hj
      cases j <;> simpa [Addr.add] using this
    clear hp
    obtain ⟨i0, hi, hz, hi1, hi2⟩ := Try.infoI
    go_enter Try.func44, Try.ntmps44
    go_wp2_with (at_builtin; refine wpList_append_own _ rfl _ _ 24 rfl w.heap.size 3 i0 (.int .i64 0) 1 8 Try.underlying24 hi hz hi1 hi2 rfl (by decide) _ 0 [] rfl (World.ownsRow_made (base := w.heap.size) w #[] 0 (Nat.le_refl _) (by decide) rfl) a n cap us rfl hl (fun j u h => ((((Below.refl _ w).alloc (Nat.le_refl _) _).cell (World.block_lt_of_cell? w _ (hc j u h))).trans (hc j u h))) h1 (by unfold maxLen; omega) (by omega) (by simp) ?_; intro v' w3 hown hgr hnil; rw [List.nil_append, Nat.zero_add] at hown)
    go_ret
    have hb := Below.grown ((Below.refl _ w).alloc (Nat.le_refl _) _) hgr (by simp) (fun k hk => by cases hk; exact Nat.le_refl _)
    exact ⟨_, rfl, RepM.of_owns hown hm (by simpa using hl) (fun b h1 h2 => ⟨h1, h2⟩) (RepM.vals us), hb⟩

theorem Try.infoS : ∃ i, Try.prog.info? 38 = some i ∧ i.zero = some (.agg #[.int .u64 0, .int .u64 0, .int .u64 0, .int .u64 0]) ∧ i.size = 4 ∧ i.bytes = 32 := info_of (by kernel_rfl)

set_option maxRecDepth 100000 in
set_option maxHeartbeats 1000000 in
theorem cloneS_any {S : Nat → Prop} (n : Nat) (us : List Value) (v : Value) (w : World) (hR : Rep w S (.s n 4 (us.map .v)) v) (h1 : ∀ u ∈ us, u.oneCell' = true) (hn : n ≤ 1000000) :
    Calls Try.prog 77 #[v] w fun e w' => ∃ v', e = .returned v' ∧ RepM w' (Ty w.heap.size w' 38) (.s n 4 (us.map .v)) v' ∧ Below w.heap.size w w' := by
  obtain ⟨p, cap, rfl, hm, hcap, hcm, hl, hp⟩ := hR.flat
  have hne := @Lib.run_eql_slice_nil
  clear hR
  cases p with
  | none =>
    have hz : us = [] := by
      cases us with
      | nil => rfl
      | cons x l => obtain ⟨b, off, h, _⟩ := hp (by simp); cases h
    subst hz
    obtain rfl : n = 0 := by simp at hl; omega
    go_enter Try.func77, Try.ntmps77
    go_wp2_with fail
    go_ret
    exact ⟨_, rfl, .s [] (by omega) (by omega) (by omega) (by simp) (by simp) (fun h => absurd rfl h) (by simp), Below.refl _ _⟩
  | some a =>
    have hc : ∀ (j : Nat) (u : Value), us[j]? = some u → w.cell? (a.add j) = some u := by
      intro j u hj
      obtain ⟨b, off, h, _, hc⟩ := hp (by rintro rfl; simp at hj)
      cases h
      have := hc j u hj
      cases j <;> simpa [Addr.add] using this
    clear hp
    obtain ⟨i0, hi, hz, hi1, hi2⟩ := Try.infoS
    go_enter Try.func77, Try.ntmps77
    go_wp2_with (at_builtin; refine wpList_append_own _ rfl _ _ 22 rfl w.heap.size 38 i0 (.agg #[.int .u64 0, .int .u64 0, .int .u64 0, .int .u64 0]) 4 32 Try.underlying22 hi hz hi1 hi2 rfl (by decide) _ 0 [] rfl (World.ownsRow_made (base := w.heap.size) w #[] 0 (Nat.le_refl _) (by decide) rfl) a n cap us rfl hl (fun j u h => ((((Below.refl _ w).alloc (Nat.le_refl _) _).cell (World.block_lt_of_cell? w _ (hc j u h))).trans (hc j u h))) h1 (by unfold maxLen; omega) (by omega) (by simp) ?_; intro v' w3 hown hgr hnil; rw [List.nil_append, Nat.zero_add] at hown)
    go_ret
    have hb := Below.grown ((Below.refl _ w).alloc (Nat.le_refl _) _) hgr (by simp) (fun k hk => by cases hk; exact Nat.le_refl _)
    exact ⟨_, rfl, RepM.of_owns hown hm (by simpa using hl) (fun b h1 h2 => ⟨h1, h2⟩) (RepM.vals us), hb⟩

theorem Try.infoB : ∃ i, Try.prog.info? 5 = some i ∧ i.zero = some (.int .u8 0) ∧ i.size = 1 ∧ i.bytes = 1 := info_of (by kernel_rfl)

set_option maxRecDepth 100000 in
set_option maxHeartbeats 1000000 in
theorem cloneB_any {S : Nat → Prop} (n : Nat) (us : List Value) (v : Value) (w : World) (hR : Rep w S (.s n 1 (us.map .v)) v) (h1 : ∀ u ∈ us, u.oneCell' = true) (hn : n ≤ 1000000) :
    Calls Try.prog 17 #[v] w fun e w' => ∃ v', e = .returned v' ∧ RepM w' (Ty w.heap.size w' 5) (.s n 1 (us.map .v)) v' ∧ Below w.heap.size w w' := by
  obtain ⟨p, cap, rfl, hm, hcap, hcm, hl, hp⟩ := hR.flat
  have hne := @Lib.run_eql_slice_nil
  clear hR
  cases p with
  | none =>
    have hz : us = [] := by
      cases us with
      | nil => rfl
      | cons x l => obtain ⟨b, off, h, _⟩ := hp (by simp); cases h
    subst hz
    obtain rfl : n = 0 := by simp at hl; omega
    go_enter Try.func17, Try.ntmps17
    go_wp2_with fail
    go_ret
    exact ⟨_, rfl, .s [] (by omega) (by omega) (by omega) (by simp) (by simp) (fun h => absurd rfl h) (by simp), Below.refl _ _⟩
  | some a =>
    have hc : ∀ (j : Nat) (u : Value), us[j]? = some u → w.cell? (a.add j) = some u := by
      intro j u hj
      obtain ⟨b, off, h, _, hc⟩ := hp (by rintro rfl; simp at hj)
      cases h
      have := hc j u hj
      cases j <;> simpa [Addr.add] using this
    clear hp
    obtain ⟨i0, hi, hz, hi1, hi2⟩ := Try.infoB
    go_enter Try.func17, Try.ntmps17
    go_wp2_with (at_builtin; refine wpList_append_own _ rfl _ _ 30 rfl w.heap.size 5 i0 (.int .u8 0) 1 1 Try.underlying30 hi hz hi1 hi2 rfl (by decide) _ 0 [] rfl (World.ownsRow_made (base := w.heap.size) w #[] 0 (Nat.le_refl _) (by decide) rfl) a n cap us rfl hl (fun j u h => ((((Below.refl _ w).alloc (Nat.le_refl _) _).cell (World.block_lt_of_cell? w _ (hc j u h))).trans (hc j u h))) h1 (by unfold maxLen; omega) (by omega) (by simp) ?_; intro v' w3 hown hgr hnil; rw [List.nil_append, Nat.zero_add] at hown)
    go_ret
    have hb := Below.grown ((Below.refl _ w).alloc (Nat.le_refl _) _) hgr (by simp) (fun k hk => by cases hk; exact Nat.le_refl _)
    exact ⟨_, rfl, RepM.of_owns hown hm (by simpa using hl) (fun b h1 h2 => ⟨h1, h2⟩) (RepM.vals us), hb⟩

end Go.Proofs.Ytlagablcopmhkaa
/- nfa: the positions of a set, in order, as an iterator; list. -/
namespace Go.Proofs.Ytlagablcopmhkaa
open Go.RowKit
attribute [local go_sem] Oper.semAt_some wide_fn wide_depth

theorem bits_all (b o : Nat) (w : World) :
    Calls Try.prog 111 #[.pointer (some ⟨b, o, none⟩)] w fun e w' => e = .returned (.func (.func 145) #[] #[.pointer (some ⟨w.heap.size, 0, none⟩)]) ∧ Below w.heap.size w w' ∧ w'.heap[w.heap.size]? = some (.cells #[.pointer (some ⟨b, o, none⟩)] 150 (0, 0)) := by
  go_enter Try.func111, Try.ntmps111
  go_wp2
  go_ret
  exact ⟨rfl, (Below.refl _ _).alloc (Nat.le_refl _) _, heap_alloc_new w _⟩

/-- the positions up to p -/
def upTo (m p : Nat) : List Nat := (List.range p).filter fun k => m.testBit k
def bitsL (m : Nat) : List Nat := upTo m 448
theorem upTo_succ (m p : Nat) : upTo m (p + 1) = upTo m p ++ (if m.testBit p then [p] else []) := by
  unfold upTo
  rw [List.range_succ, List.filter_append]
  cases h : m.testBit p <;> simp [h]
theorem upTo_prefix (m p d : Nat) : ∃ t, upTo m (p + d) = upTo m p ++ t := by
  induction d with
  | zero => exact ⟨[], by simp⟩
  | succ d ih =>
    obtain ⟨t, ht⟩ := ih
    rw [← Nat.add_assoc, upTo_succ, ht]
    exact ⟨t ++ _, by rw [List.append_assoc]⟩
theorem bitsL_at (m p : Nat) (hp : p < 448) (h : m.testBit p = true) : (bitsL m)[(upTo m p).length]? = some p ∧ (upTo m p).length < (bitsL m).length := by
  obtain ⟨t, ht⟩ := upTo_prefix m (p + 1) (448 - (p + 1))
  rw [show p + 1 + (448 - (p + 1)) = 448 by omega] at ht
  have e : bitsL m = upTo m p ++ (p :: t) := by
    unfold bitsL; rw [ht, upTo_succ, h]; simp
  rw [e]
  simp
/-- a list's elements, as what an iterator hands on -/
def intsV (l : List Int) (k : Nat) : Array Value := match l[k]? with | some x => #[.int .i64 x] | none => #[.int .i64 0]
theorem intsV_at {l : List Int} {k : Nat} {x : Int} (h : l[k]? = some x) : intsV l k = #[.int .i64 x] := by unfold intsV; rw [h]
def ints (l : List Nat) : List Int := l.map Int.ofNat

set_option maxRecDepth 100000 in
set_option maxHeartbeats 2000000 in
theorem all_seq (m b o t1 : Nat) (w0 : World) (hbox : w0.heap[t1]? = some (.cells #[.pointer (some ⟨b, o, none⟩)] 150 (0, 0))) (hbits : BitAt w0 b o m) :
    Seq Try.prog 145 #[.pointer (some ⟨t1, 0, none⟩)] (bitsL m).length (intsV (ints (bitsL m))) w0 (fun k => k = t1 ∨ k = b) := by
  intro l I X W G hsz hRel hGR hI hX hlt hY h0
  have ht1 : t1 < w0.heap.size := (Array.getElem?_eq_some_iff.1 hbox).1
  have hb1 : b < w0.heap.size := hbits.lt
  refine (callsIn_wide (n := 0)).1 (callsIn_of_wp_marks Try.func145 rfl trivial ?_)
  simp only [Try.ntmps145, List.size_toArray, List.length_cons, List.length_nil, Nat.reduceAdd, Nat.reduceSub, Array.replicate_succ, Array.replicate_zero, List.push_toArray, List.append_toArray, List.nil_append, List.cons_append]
  gi_wp2
  refine wpIn_loop (fun a' W' => ∃ (p : Nat) (G' : Nat → Prop) (u3 u5 u6 u7 u8 u9 u10 u11 u12 u13 u14 u15 u16 : Value),
      (p ≤ 448 ∧ I (upTo m p).length G' W' ∧ KeptAt (fun k => k = t1 ∨ k = b) w0 W' ∧ Apart G' (fun k => k = t1 ∨ k = b) ∧ W.heap.size ≤ W'.heap.size) ∧
      a' = { tmps := #[.func (.yield l) #[] #[], .pointer (some ⟨t1, 0, none⟩), undef, u3, .int .i64 p, u5, u6, u7, u8, u9, u10, u11, u12, u13, u14, u15, u16], defers := [] })
      (fun a' _ => 448 - (intOf (a'.tmps.getD 4 undef)).toNat) ?start ?round
  case start => exact ⟨0, G, _, _, _, _, _, _, _, _, _, _, _, _, _, ⟨Nat.zero_le _, by simpa [upTo] using h0, hRel, hGR, Nat.le_refl _⟩, rfl⟩
  case round =>
    rintro _ W' ⟨p, G', u3, u5, u6, u7, u8, u9, u10, u11, u12, u13, u14, u15, u16, ⟨hp, hi, hKD, hGR', hszW⟩, rfl⟩
    by_cases hpl : p < 448
    · have hB : BitAt W' b o m := hbits.move (hKD b (.inr rfl))
      have hT : W'.heap[t1]? = some (.cells #[.pointer (some ⟨b, o, none⟩)] 150 (0, 0)) := (hKD t1 (.inl rfl)).trans hbox
      have hTc := cell_of_row W' t1 0 _ _ _ hT
      have hsc := upTo_succ m p
      have hat := bitsL_at m p hpl
      cases htb : m.testBit p
      · have HS := Lib.hid hsc
        have hq : (p : Int) < 448 := by omega
        clear hsc hat
        gi_wp2_with (gi_at_call 115; refine (callsIn_wide.2 (bits_has p hpl hB)).mono ?_; rintro e w' ⟨rfl, rfl⟩; rw [htb])
        refine ⟨⟨p + 1, G', _, _, _, _, _, _, _, _, _, _, _, _, _, ⟨by omega, ?_, hKD, hGR', hszW⟩, rfl⟩, ?_⟩
        · rw [HS.out, htb]; simpa using hi
        · simp [intOf]; omega
      · obtain ⟨hat1, hat2⟩ := hat htb
        have hv : intsV (ints (bitsL m)) (upTo m p).length = #[.int .i64 p] := intsV_at (by simp [ints, hat1])
        obtain ⟨fn, tmps, assign, body, hy, hR0⟩ := hY _ G' W' hat2 hi
        rw [hv] at hy
        have HS := Lib.hid hsc
        have hq : (p : Int) < 448 := by omega
        have hGlt := hlt _ _ _ hi
        clear hsc hat1 hat2 hv
        gi_wp2_with (first
          | (gi_at_call 115; refine (callsIn_wide.2 (bits_has p hpl hB)).mono ?_; rintro e w' ⟨rfl, rfl⟩; rw [htb]))
        refine hR0.mono ?_
        clear hR0 hy
        rintro e W4 (⟨rfl, G4, ho, hi4⟩ | ⟨rfl, G4, ho, hx4⟩)
        · have hKD4 : KeptAt (fun k => k = t1 ∨ k = b) w0 W4 := fun k hk => (ho.same k (by rcases hk with hk | hk <;> omega) (fun h => hGR' k h hk)).trans (hKD k hk)
          have hGR4 : Apart G4 (fun k => k = t1 ∨ k = b) := fun k hk hr => by
            rcases ho.new k hk with h | h
            · exact hGR' k h hr
            · rcases hr with hr | hr <;> omega
          have hs4 := ho.size
          gi_wp2
          refine ⟨⟨p + 1, G4, _, _, _, _, _, _, _, _, _, _, _, _, _, ⟨by omega, ?_, hKD4, hGR4, by omega⟩, rfl⟩, ?_⟩
          · rw [HS.out, htb]; simpa using hi4
          · simp [intOf]; omega
        · gi_wp2
          exact ⟨_, results_none rfl _ _ _, ⟨_, rfl⟩, G4, .inr hx4⟩
    · obtain rfl : p = 448 := by omega
      gi_wp2
      exact ⟨_, results_none rfl _ _ _, ⟨_, rfl⟩, G', .inl hi⟩
end Go.Proofs.Ytlagablcopmhkaa
/- slices.AppendSeq, Collect over an iterator of whole numbers; nfa: list. -/
namespace Go.Proofs.Ytlagablcopmhkaa
open Go.RowKit
attribute [local go_sem] Oper.semAt_some wide_fn wide_depth

theorem wpListIn_append_at {F : Fence} {n : Nat} {P : Program} (w : World) {ops : Array Oper} {rest : List Oper} {o : Oper} {a : Act} {Q : Exit → Act → World → Prop}
    (hg : o.guard = none) (s x : Operand) (t : TypeId) (hop : o.op = Op.call { callee := Callee.builtin Builtin.append, args := #[s, x], argTypes := #[t, t] })
    (base : Nat) (e : TypeId) (i : TypeInfo) (z : Value) (size bytes : Nat) (h1 : P.underlying t = some (.slice e)) (h2 : P.info? e = some i) (h3 : i.zero = some z) (h4 : i.size = size) (h5 : i.bytes = bytes) (h6 : z.cells.size = size) (h7 : 0 < size)
    (v : Value) (k : Nat) (xs : List Value) (hs : a.eval s = v) (hown : w.ownsRow base e size v k xs) (ad : Addr) (m c : Nat) (news : List Value) (hx : a.eval x = .slice (some ad) m c) (hn : news.length = m * size)
    (hc : ∀ j u, news[j]? = some u → w.cell? (ad.add j) = some u) (h1c : ∀ u ∈ news, u.oneCell' = true) (b1 : k + m ≤ maxLen) (b2 : (k + m) * bytes ≤ 140737488355328) (b3 : base ≤ w.heap.size)
    (hK : ∀ v' w', w'.ownsRow base e size v' (k + m) (xs ++ news) → w.grownBy w' v.ownBlock → (v'.ownBlock = v.ownBlock ∨ v'.ownBlock = some w.heap.size) → wpListIn F n P ops Q rest (a.put o.dst v') w') :
    wpListIn F n P ops Q (o :: rest) a w := by
  refine wpListIn_plain hg fun K hK' => ?_
  obtain ⟨v', w', hrun, r1, r2, _, r3⟩ := run_append_own_at (P := P) (w := w) base t o.type e i z size bytes h1 h2 h3 h4 h5 h6 h7 v k xs hown ad m c news hn hc h1c b1 b2 b3
  unfold Oper.wpIn
  refine ⟨?_, ?_⟩
  · simp [Oper.about, hop, resolve, Target.leads, Sem.run_pure]
  · rw [Oper.semAt_plain F _ _ (by rw [hop]; intro c hc'; cases hc')]
    simp [execOp, hop, resolve, invoke, builtin, hs, hx, hrun, Result.andThen]
    exact hK' _ _ (hK v' w' r1 r2 r3)

/-- a box that holds a list of the call's own -/
def RowBox (n0 : Nat) (w : World) (c0 : Nat) (t e : TypeId) (sz : Nat) (us : List Value) (k : Nat) (G : Nat → Prop) (W : World) : Prop :=
  ∃ p cap, W.heap[c0]? = some (.cells #[.slice p k cap] t (0, 0)) ∧ W.ownsRow n0 e sz (.slice p k cap) k us ∧ (G c0 ∧ (∀ b, some b = (Value.slice p k cap).ownBlock → G b) ∧ ∀ b, G b → n0 ≤ b ∧ b < W.heap.size) ∧ Below n0 w W

theorem ownsRow_form {W : World} {base : Nat} {e : TypeId} {size : Nat} {v : Value} {k : Nat} {xs : List Value} (h : W.ownsRow base e size v k xs) : ∃ p cap, v = .slice p k cap := by
  rcases h.2 with ⟨rfl, rfl⟩ | ⟨g, cap, _, rfl, _⟩
  · exact ⟨_, _, rfl⟩
  · exact ⟨_, _, rfl⟩
theorem ownsRow_block {W W' : World} {base : Nat} {e : TypeId} {size : Nat} {v : Value} {k : Nat} {xs : List Value} (h : W.ownsRow base e size v k xs) (hb : ∀ b, v.ownBlock = some b → W'.heap[b]? = W.heap[b]?) : W'.ownsRow base e size v k xs := by
  refine ⟨h.1, ?_⟩
  rcases h.2 with hn | ⟨g, cap, cur, rfl, hbg, hg, rest⟩
  · exact .inl hn
  · exact .inr ⟨g, cap, cur, rfl, hbg, (hb g rfl).trans hg, rest⟩

theorem RowBox.stable {n0 : Nat} {w : World} {c0 : Nat} {t e : TypeId} {sz : Nat} {us : List Value} {k B : Nat} (h1 : n0 ≤ B) (h2 : n0 ≤ w.heap.size) : Stable B (RowBox n0 w c0 t e sz us k) := by
  rintro G A C ⟨p, cap, hc, ho, hG, hb⟩ hk
  have hlt := (Array.getElem?_eq_some_iff.1 hc).1
  refine ⟨p, cap, (hk.same c0 hlt (.inr hG.1)).trans hc, ownsRow_block ho fun b hbl => hk.same b (ho.lt b hbl).2 (.inr (hG.2.1 b hbl.symm)), ⟨hG.1, hG.2.1, fun b hb => ⟨(hG.2.2 b hb).1, Nat.lt_of_lt_of_le (hG.2.2 b hb).2 hk.size⟩⟩, ?_⟩
  exact ⟨hk.os.trans hb.os, hk.tape.trans hb.tape, hk.output.trans hb.output, Nat.le_trans hb.size hk.size, fun b hbl => (hk.same b (by have := hb.size; omega) (.inl (by omega))).trans (hb.block b hbl)⟩
theorem RowBox.lt {n0 : Nat} {w : World} {c0 : Nat} {t e : TypeId} {sz : Nat} {us : List Value} {k : Nat} {G : Nat → Prop} {W : World} (h : RowBox n0 w c0 t e sz us k G W) : ∀ b, G b → b < W.heap.size := by
  obtain ⟨p, cap, hc, ho, hG, _⟩ := h
  exact fun b hb => (hG.2.2 b hb).2

theorem RowBox.mid {n0 : Nat} {w : World} {c0 : Nat} {t e : TypeId} {sz : Nat} {us : List Value} {k : Nat} {G : Nat → Prop} {W W1 W2 : World} {l : Nat} (h : RowBox n0 w c0 t e sz us k G W) (hb : Below W.heap.size W W1) (e1 : W2.os = W1.os) (e2 : W2.tape = W1.tape) (e3 : W2.output = W1.output)
    (e4 : W2.heap.size = W1.heap.size) (e5 : ∀ b, b ≠ l → W2.heap[b]? = W1.heap[b]?) (hl : ¬ G l) (hl2 : n0 ≤ l) (hn : n0 ≤ w.heap.size) : RowBox n0 w c0 t e sz us k G W2 := by
  refine RowBox.stable (B := n0) (Nat.le_refl _) hn G W W2 h ⟨e1.trans hb.os, e2.trans hb.tape, e3.trans hb.output, by have := hb.size; omega, fun b hbl hc => ?_⟩
  rw [e5 b (by rintro rfl; rcases hc with hc | hc; omega; exact hl hc)]
  exact hb.block b hbl

theorem row_succ {W : World} {base : Nat} {e : TypeId} {size : Nat} {v : Value} {k : Nat} {xs : List Value} (h : W.ownsRow base e size v (k + 1) xs) : ∃ g cap, v = .slice (some ⟨g, 0, none⟩) (k + 1) cap := by
  rcases h.2 with ⟨_, h0⟩ | ⟨g, cap, _, rfl, _⟩
  · omega
  · exact ⟨g, cap, rfl⟩
theorem box_ne_row {W : World} {B : Nat} {t e : TypeId} {u : Value} {base size k : Nat} {v : Value} {xs : List Value} (h : W.heap[B]? = some (.cells #[u] t (0, 0))) (hte : t ≠ e) (hr : W.ownsRow base e size v k xs) : some B ≠ v.ownBlock := by
  rcases hr.2 with ⟨rfl, _⟩ | ⟨g, cap, cur, rfl, _, hgb, _⟩
  · simp [Value.ownBlock]
  · intro e'
    obtain rfl : B = g := by simpa [Value.ownBlock] using e'
    have := h.symm.trans hgb
    simp at this
    exact hte this.2

set_option maxRecDepth 100000 in
set_option maxHeartbeats 2000000 in
theorem appendSeq_any (l : List Int) (hl : l.length ≤ 1000000) (gf : Nat) (lb : Array Value) (w : World) (Rel : Nat → Prop) (eg : ∀ args w, (callFunc gf args).run Try.prog w = .ok (.enter gf args) w)
    (hseq : Seq Try.prog gf lb l.length (intsV l) w Rel) (hRb : ∀ b, Rel b → b < w.heap.size) :
    Calls Try.prog 144 #[.slice none 0 0, .func (.func gf) #[] lb] w fun e w' => ∃ v, e = .returned v ∧ RepM w' (Ty w.heap.size w' 3) (dI l) v ∧ Below w.heap.size w w' := by
  obtain ⟨i0, hi, hz, hi1, hi2⟩ := Try.infoI
  refine (callsIn_wide (n := 0)).1 (callsIn_of_wp_marks Try.func144 rfl trivial ?_)
  simp only [Try.ntmps144, List.size_toArray, List.length_cons, List.length_nil, Nat.reduceAdd, Nat.reduceSub, Array.replicate_succ, Array.replicate_zero, List.push_toArray, List.append_toArray, List.nil_append, List.cons_append]
  gi_wp2
  have hb0 : Below w.heap.size w (w.alloc (.cells #[.slice none 0 0] 24)) := (Below.refl _ w).alloc (Nat.le_refl _) _
  refine wpIn_range (gf := gf) (lb := lb) (w0 := w) (Rel := Rel) rfl eg hseq hb0.size hRb (fun b hb => hb0.block b (hRb b hb)) (fun k => by unfold intsV; split <;> rfl)
    (fun k G W => RowBox w.heap.size w w.heap.size 24 3 1 ((l.take k).map (Value.int .i64)) k G W) (fun _ _ _ => False) (fun b => b = w.heap.size) (fun b hb hr => by have := hRb b hr; omega)
    (fun k => RowBox.stable (by rw [World.size_alloc]; omega) (Nat.le_refl _)) (fun c G A C h => h.elim) (fun k G A h => h.lt) ?h0 ?ground ?gdone ?gstop
  case h0 =>
    exact ⟨none, 0, heap_alloc_new w _, World.ownsRow_nil _ _ _ _, ⟨rfl, fun b h => by simp [Value.ownBlock] at h, fun b h => by simp [h]⟩, hb0⟩
  case ground =>
    rintro l' k G W hl' hll hGl hk hrb
    obtain ⟨x, hx⟩ := some_at hk
    rw [intsV_at hx]
    have hus : (l.take (k + 1)).map (Value.int .i64) = (l.take k).map (Value.int .i64) ++ [.int .i64 x] := by rw [take_succ_of hx]; simp
    have hkl : k ≤ 1000000 := by omega
    have hz : ∀ (t : Array Value), ((#[7] : Array Tmp).zip #[Value.int .i64 x]).foldl (fun t (p, v) => t.setIfInBounds p v) t = t.setIfInBounds 7 (.int .i64 x) := fun t => by simp
    rw [hz]
    simp only [List.setIfInBounds_toArray, List.set_cons_succ, List.set_cons_zero]
    clear hz
    gi_wp2
    refine ⟨Below.refl _ _, fun W2 e1 e2 e3 e4 e5 => ?_⟩
    have hrb2 := hrb.mid (Below.refl _ _) e1 e2 e3 e4 e5 hGl (by rw [World.size_alloc] at hl'; omega) (Nat.le_refl _)
    clear hrb e1 e2 e3 e5
    obtain ⟨p, cap, hc, ho, hG, hb⟩ := hrb2
    have hcc := cell_of_row _ _ 0 _ _ _ hc
    have hff := frozen_of_row _ _ 0 _ _ hc
    have hc0 := (Array.getElem?_eq_some_iff.1 hc).1
    have hne : some w.heap.size ≠ (Value.slice p k cap).ownBlock := box_ne_row hc (by decide) ho
    rw [← e4]
    clear e4
    gi_wp2_with (gi_at_builtin; refine wpListIn_append_at _ rfl _ _ 24 rfl w.heap.size 3 i0 (.int .i64 0) 1 8 Try.underlying24 hi hz hi1 hi2 rfl (by decide) _ k _ rfl (ownsRow_block ho (fun b hbl => Below.heap_alloc W2 _ b (ho.lt b hbl).2)) ⟨W2.heap.size, 0, none⟩ 1 1 [.int .i64 x] rfl rfl (cell_one_new _ _ _) (fun x hx => by simp at hx; subst hx; rfl) (by unfold maxLen; omega) (by omega) (by rw [World.size_alloc]; omega) ?_; intro v' w3 hown hgr hblk; obtain ⟨g, cap', rfl⟩ := row_succ hown; have hc3 := (hgr.block w.heap.size (by rw [World.size_alloc]; omega) hne).trans ((Below.heap_alloc W2 _ _ hc0).trans hc); have hcc3 := cell_of_row _ _ 0 _ _ _ hc3; have hff3 := frozen_of_row _ _ 0 _ _ hc3)
    have hgne : g ≠ w.heap.size := by
      rcases hblk with h | h
      · intro e; rw [e] at h; exact hne h
      · simp [Value.ownBlock, World.size_alloc] at h; omega
    have hbl : Below w.heap.size w w3 := by
      refine (hb.alloc (by omega) _).grown hgr (by rw [World.size_alloc]; omega) fun b hb => ?_
      exact (ho.lt b hb).1
    have hgr2 := hgr.size
    rw [World.size_alloc] at hgr2
    have hgw : g = W2.heap.size + 1 ∨ G g := by
      rcases hblk with h | h
      · exact .inr (hG.2.1 g h)
      · simp [Value.ownBlock, World.size_alloc] at h; exact .inl h
    have hgl : g < w3.heap.size := (hown.lt g rfl).2
    refine ⟨fun b => G b ∨ b = g, ?_, some ⟨g, 0, none⟩, cap', heap_setCell_same _ _ _ _ _ _ hc3, ?_, ⟨.inl hG.1, fun b h => ?_, fun b h => ?_⟩, hbl.setCell (p := ⟨w.heap.size, 0, none⟩) (Nat.le_refl _) _⟩
    · refine (((Own.refl W2.heap.size G W2).alloc (Nat.le_refl _) _).grown (by rw [World.size_alloc]; omega) hgr (fun r hr => .inl (hG.2.1 r hr.symm))).setCell _ (.inl hG.1) _ |>.widen (fun b h => .inl h) (fun b h => ?_)
      rcases h with h | rfl
      · exact .inl h
      · rcases hgw with h | h
        · exact .inr (by omega)
        · exact .inl h
    · rw [hus]
      exact ownsRow_block hown fun b hb => Below.heap_setCell _ _ _ b (by cases hb; exact hgne)
    · simp [Value.ownBlock] at h; exact .inr h
    · rw [World.size_setCell]
      rcases h with h | rfl
      · have := hG.2.2 b h; omega
      · exact ⟨(hown.lt b rfl).1, hgl⟩
  case gdone =>
    rintro D G W hD hD2 hDG hrb hk
    rw [List.take_length] at hrb
    obtain ⟨p, cap, hc, ho, hG, hb⟩ := hrb
    have hcc := cell_of_row _ _ 0 _ _ _ hc
    gi_wp2
    refine leaves_marks (by simp) [mark D] W.heap.size W ⟨D, rfl, hD2, hk, trivial⟩ ?_
    intro W' e1 e2 e3 e4 e5
    have hD3 : ∀ b, b ≠ D → W'.heap[b]? = W.heap[b]? := fun b hb => e5 b (fun hm => by
      simp only [List.mem_singleton, mark, Deferred.mk.injEq, Target.collected.injEq, and_true] at hm
      exact hb hm)
    rw [World.size_alloc] at hD
    refine ⟨_, results_tmp rfl _ _ _, _, rfl, RepM.of_owns (ownsRow_block ho fun b hb => hD3 b ?_) (by omega) (by simp) (fun b h1 h2 => ⟨h1, h2⟩) ?_, ⟨e1.trans hb.os, e2.trans hb.tape, e3.trans hb.output, by have := hb.size; omega, fun b hbl => (hD3 b (by omega)).trans (hb.block b hbl)⟩⟩
    · rintro rfl
      exact hDG (hG.2.1 b hb.symm)
    · intro j d u h1 h2
      rw [List.getElem?_map] at h1 h2
      cases hx : l[j]? with
      | none => rw [hx] at h1; cases h1
      | some x => rw [hx] at h1 h2; cases h1; cases h2; exact .v _
  case gstop =>
    rintro D c G W _ _ _ h
    exact h.elim
end Go.Proofs.Ytlagablcopmhkaa
/- nfa: list, set, rising, check. -/
namespace Go.Proofs.Ytlagablcopmhkaa
open Go.RowKit

theorem collect_any (l : List Int) (hl : l.length ≤ 1000000) (gf : Nat) (lb : Array Value) (w : World) (Rel : Nat → Prop) (eg : ∀ args w, (callFunc gf args).run Try.prog w = .ok (.enter gf args) w)
    (hseq : Seq Try.prog gf lb l.length (intsV l) w Rel) (hRb : ∀ b, Rel b → b < w.heap.size) :
    Calls Try.prog 110 #[.func (.func gf) #[] lb] w fun e w' => ∃ v, e = .returned v ∧ RepM w' (Ty w.heap.size w' 3) (dI l) v ∧ Below w.heap.size w w' := by
  go_enter Try.func110, Try.ntmps110
  go_wp2_with (go_at_call 144; refine (appendSeq_any l hl gf lb w Rel eg hseq hRb).mono ?_; rintro e w' ⟨v, rfl, hR, hb⟩)
  go_ret
  exact ⟨_, rfl, hR, hb⟩

theorem upTo_length (m p : Nat) : (upTo m p).length ≤ p := by
  have := List.length_filter_le (fun k => m.testBit k) (List.range p)
  simpa [upTo] using this

theorem list_any (m b o : Nat) (w : World) (hB : BitAt w b o m) :
    Calls Try.prog 62 #[.pointer (some ⟨b, o, none⟩)] w fun e w' => ∃ v, e = .returned v ∧ RepM w' (Ty w.heap.size w' 3) (dI (ints (bitsL m))) v ∧ Below w.heap.size w w' := by
  have hlen : (ints (bitsL m)).length = (bitsL m).length := by simp [ints]
  have hle := upTo_length m 448
  have hle2 : (ints (bitsL m)).length ≤ 1000000 := by rw [hlen]; unfold bitsL; omega
  have hbl := hB.lt
  go_enter Try.func62, Try.ntmps62
  go_wp2_with (first
    | (go_at_call 111; refine (bits_all b o w).mono ?_; rintro e w1 ⟨rfl, hb1, ht1⟩)
    | (go_at_call 110; refine (collect_any (ints (bitsL m)) hle2 145 #[.pointer (some ⟨w.heap.size, 0, none⟩)] w1 (fun k => k = w.heap.size ∨ k = b) (fun _ _ => by kernel_rfl) (by rw [hlen]; exact all_seq m b o w.heap.size w1 ht1 (hB.move (hb1.block b hbl))) (fun k hk => by have := (Array.getElem?_eq_some_iff.1 ht1).1; have := hb1.size; omega)).mono ?_; rintro e w2 ⟨v, rfl, hR, hb2⟩))
  go_ret
  exact ⟨_, rfl, hR.tyBase hb1.size, hb1.trans (hb2.mono hb1.size)⟩

/-- a list as a set -/
def setOf : List Nat → Nat := fun l => l.foldl (fun m p => m ||| 2 ^ p) 0
theorem setOf_take {l : List Nat} {k p : Nat} (h : l[k]? = some p) : setOf (l.take (k + 1)) = setOf (l.take k) ||| 2 ^ p := by
  unfold setOf; rw [take_succ_of h, List.foldl_append]; rfl
theorem foldl_or (l : List Nat) : ∀ m j, (l.foldl (fun m p => m ||| 2 ^ p) m).testBit j = (m.testBit j || decide (j ∈ l)) := by
  induction l with
  | nil => intro m j; simp
  | cons p l ih =>
    intro m j
    rw [List.foldl_cons, ih, Nat.testBit_or, Nat.testBit_two_pow]
    by_cases h : p = j <;> by_cases h2 : j ∈ l <;> simp [h, h2, eq_comm]
theorem setOf_bit (l : List Nat) (j : Nat) : (setOf l).testBit j = decide (j ∈ l) := by
  unfold setOf; rw [foldl_or]; simp

theorem bitsC_one (m : Nat) : (bitsC m).all (·.oneCell') = true := by simp [bitsC, Value.oneCell']
theorem below_setRow {B : Nat} {w W : World} (h : Below B w W) {g : Nat} (hg : B ≤ g) (cs : Array Value) : Below B w (W.setRow g cs) :=
  ⟨h.os, h.tape, h.output, by have := h.size; simpa [World.setRow] using this, fun b hb => by
    rw [← h.block b hb]
    show (W.heap.modify g _)[b]? = _
    rw [Array.getElem?_modify, if_neg (by omega)]⟩

set_option maxRecDepth 100000 in
set_option maxHeartbeats 1000000 in
/-- positions below 448 as a set -/
theorem set_any {S : Nat → Prop} (l : List Nat) (hl : ∀ p ∈ l, p < 448) (v : Value) (w : World) (hR : Rep w S (dI (ints l)) v) :
    Calls Try.prog 112 #[v] w fun e w' => e = .returned (.agg (bitsC (setOf l))) ∧ Below w.heap.size w w' := by
  obtain ⟨p, cap, rfl, hm, hcap, hcm, hc⟩ := hR.ints
  have hlen : (ints l).length = l.length := by simp [ints]
  rw [hlen] at hm hcap ⊢
  clear hR
  have hB0 : BitBox ((w.alloc (.cells (bitsC 0) 100)).alloc (.cells (bitsC 0) 100)) (w.heap.size + 1) 0 := heap_alloc2_new w _ _
  have hT0 : BitBox ((w.alloc (.cells (bitsC 0) 100)).alloc (.cells (bitsC 0) 100)) w.heap.size 0 := (Below.heap_alloc _ _ _ (by simp)).trans (heap_alloc_new w _)
  have hb0 : Below w.heap.size w ((w.alloc (.cells (bitsC 0) 100)).alloc (.cells (bitsC 0) 100)) := ((Below.refl _ w).alloc (Nat.le_refl _) _).alloc (by simp) _
  have hz : bitsC 0 = #[.int .u64 0, .int .u64 0, .int .u64 0, .int .u64 0, .int .u64 0, .int .u64 0, .int .u64 0] := by simp [bitsC, bw_zero]
  rw [hz] at hB0 hT0 hb0
  go_enter Try.func112, Try.ntmps112
  go_wp2
  go_loopw [8] (fun i W => ∃ k : Nat, k ≤ l.length ∧ i = .int .i64 k ∧ Hid (BitBox W (w.heap.size + 1) (setOf (l.take k))) ∧ Hid (BitBox W w.heap.size 0) ∧ Below w.heap.size w W) (fun i _ => l.length - (intOf i).toNat)
  case atStart => exact ⟨0, by omega, rfl, hB0, hT0, hb0⟩
  case round =>
    obtain ⟨k, hk, rfl, hB, hT, hb⟩ := hrel
    by_cases hlt : k < l.length
    · obtain ⟨x, hx⟩ := some_at hlt
      obtain ⟨b, off, rfl, hS, hck⟩ := hc k x (by simp [ints, hx])
      have hck2 := (hb.cell (World.block_lt_of_cell? w _ hck)).trans hck
      have hx4 := hl x (List.mem_of_getElem? hx)
      have HX := Lib.hid hx; clear hx hc
      go_wp2_with (go_at_call 116; refine (bits_put x hx4 hB.out).mono ?_; rintro e w' ⟨rfl, ht⟩)
      go_roundw
      case rel => exact ⟨k + 1, by omega, by go_num, by rw [setOf_take HX.out]; exact ht.box, hT.out.move (ht.same _ (by omega)), hb.trans (ht.below (by omega))⟩
      case measure => simp [intOf]; omega
    · obtain rfl : k = l.length := by omega
      rw [List.take_length] at hB
      go_wp2_with (first
        | (refine wpList_load_row rfl 100 _ rfl (w.heap.size + 1) rfl 100 (bitsC (setOf l)) (0, 0) _ hB.out Try.underlying100 rfl (by kernel_rfl) ?_)
        | (refine wpList_store_row rfl 100 _ _ rfl w.heap.size (bitsC (setOf l)) rfl rfl 100 (bitsC 0) hT.out (by kernel_rfl) rfl (bitsC_one _) ?_))
      have hrow := setRow_heap wr w.heap.size _ (bitsC (setOf l)) _ _ hT.out
      (try simp only [Exit.inBlock, Exit.then])
      refine bodyPost_ret (results_cell_row rfl _ _ w.heap.size 100 (bitsC (setOf l)) (0, 0) _ rfl hrow Try.underlying100 rfl (by kernel_rfl)) rfl ?_
      exact ⟨rfl, below_setRow hb (Nat.le_refl _) _⟩
end Go.Proofs.Ytlagablcopmhkaa
/- The reference's sets: Words, Size, Equal. -/
namespace Go.Proofs.Ytlagablcopmhkaa
open Go.RowKit

def wbit (s : BitVec 256) (c : Nat) : Int := if inSet s c then 1 else 0
/-- the reference's set, behind k bytes -/
def wordsL (s : BitVec 256) (k : Nat) : List Value := (List.range 256).map fun c => .int .i64 (if c < k then wbit s c else 0)
def wordsP (s : BitVec 256) (k : Nat) : Array Value := (wordsL s k).toArray
def wordsC (s : BitVec 256) : Array Value := wordsP s 256
theorem wordsP_size (s : BitVec 256) (k : Nat) : (wordsP s k).size = 256 := by simp [wordsP, wordsL]
theorem wordsP_at (s : BitVec 256) (k c : Nat) (hc : c < 256) : (wordsP s k)[c]? = some (.int .i64 (if c < k then wbit s c else 0)) := by
  simp [wordsP, wordsL, hc]
theorem wordsP_step (s : BitVec 256) (k : Nat) (hk : k < 256) : (wordsP s k).setIfInBounds k (.int .i64 (wbit s k)) = wordsP s (k + 1) := by
  apply Array.ext_getElem?
  intro c
  by_cases hc : c < 256
  · rw [wordsP_at s (k + 1) c hc]
    by_cases h : c = k
    · subst h; rw [Array.getElem?_setIfInBounds]; simp [wordsP_size, hc]
    · rw [Array.getElem?_setIfInBounds_ne (Ne.symm h), wordsP_at s k c hc]
      by_cases h2 : c < k
      · rw [if_pos h2, if_pos (by omega)]
      · rw [if_neg h2, if_neg (by omega)]
  · rw [Array.getElem?_eq_none (by simp [wordsP_size]; omega), Array.getElem?_eq_none (by simp [wordsP_size]; omega)]
theorem wordsP_one (s : BitVec 256) (k : Nat) : (wordsP s k).all (·.oneCell') = true := by
  rw [Array.all_eq_true_iff_forall_mem]
  intro v hv
  simp [wordsP, wordsL] at hv
  obtain ⟨c, _, rfl⟩ := hv
  rfl
theorem Try.zeroWords (s : BitVec 256) : Try.zeroCells141 = wordsP s 0 := by
  have e : Try.zeroCells141 = Array.replicate 256 (.int .i64 0) := by kernel_rfl
  rw [e]
  apply Array.ext_getElem?
  intro c
  by_cases hc : c < 256
  · rw [wordsP_at s 0 c hc, if_neg (by omega)]
    simp [hc]
  · rw [Array.getElem?_eq_none (by simp; omega), Array.getElem?_eq_none (by rw [wordsP_size]; omega)]

theorem wbit_bw (s : BitVec 256) (c : Nat) : bw s.toNat (c / 64) / 2 ^ (c % 64) % 2 = wbit s c := by
  have h := bw_has s.toNat (c / 64) (c % 64) (Nat.mod_lt _ (by decide))
  rw [show 64 * (c / 64) + c % 64 = c by omega] at h
  have hb := bw_bd s.toNat (c / 64)
  obtain ⟨n, hn⟩ := Int.eq_ofNat_of_zero_le (show 0 ≤ bw s.toNat (c / 64) / 2 ^ (c % 64) from Int.ediv_nonneg hb.1 (by exact_mod_cast Nat.zero_le _))
  have hlt : n < 2 ^ 64 := by
    have : bw s.toNat (c / 64) / 2 ^ (c % 64) ≤ bw s.toNat (c / 64) := Int.ediv_le_self _ hb.1
    omega
  rw [hn] at h ⊢
  have e : bits .and .u64 (n : Int) ((1 : Nat) : Int) = ((n &&& 1 : Nat) : Int) := bits_and_nat n 1 hlt (by decide)
  rw [show (1 : Int) = ((1 : Nat) : Int) from rfl, e, Nat.and_one_is_mod] at h
  unfold wbit inSet
  rw [← h]
  rcases Nat.mod_two_eq_zero_or_one n with h2 | h2
  · rw [h2]; simp; omega
  · rw [h2]; simp; omega

set_option maxRecDepth 100000 in
set_option maxHeartbeats 1000000 in
theorem words_any (s : BitVec 256) (w : World) :
    Calls Try.prog 99 #[.agg (setC s)] w fun e w' => e = .returned (.agg (wordsC s)) ∧ Below w.heap.size w w' := by
  have hb0 : Below w.heap.size w (((w.alloc (.cells (setC s) 37)).alloc (.cells Try.zeroCells141 141)).alloc (.cells Try.zeroCells141 141)) := (((Below.refl _ w).alloc (Nat.le_refl _) _).alloc (by simp) _).alloc (by simp; omega) _
  have hp0 : (((w.alloc (.cells (setC s) 37)).alloc (.cells Try.zeroCells141 141)).alloc (.cells Try.zeroCells141 141)).heap[w.heap.size]? = some (.cells (setC s) 37 (0, 0)) :=
    (Below.heap_alloc _ _ _ (by simp; omega)).trans ((Below.heap_alloc _ _ _ (by simp)).trans (heap_alloc_new w _))
  have hp1 : (((w.alloc (.cells (setC s) 37)).alloc (.cells Try.zeroCells141 141)).alloc (.cells Try.zeroCells141 141)).heap[w.heap.size + 1]? = some (.cells (wordsP s 0) 141 (0, 0)) :=
    (Below.heap_alloc _ _ _ (by simp)).trans ((heap_alloc2_new w _ _).trans (by rw [Try.zeroWords s]))
  have hp2 : (((w.alloc (.cells (setC s) 37)).alloc (.cells Try.zeroCells141 141)).alloc (.cells Try.zeroCells141 141)).heap[w.heap.size + 2]? = some (.cells (wordsP s 0) 141 (0, 0)) := by
    have := heap_alloc2_new (w.alloc (.cells (setC s) 37)) (.cells Try.zeroCells141 141) (.cells Try.zeroCells141 141)
    rw [World.size_alloc] at this
    rw [this, Try.zeroWords s]
  go_enter Try.func99, Try.ntmps99
  go_wp2
  go_loopw [4] (fun i W => ∃ k : Nat, k ≤ 256 ∧ i = .int .i64 k ∧ Hid (W.heap[w.heap.size]? = some (.cells (setC s) 37 (0, 0))) ∧ Hid (W.heap[w.heap.size + 1]? = some (.cells (wordsP s 0) 141 (0, 0))) ∧ Hid (W.heap[w.heap.size + 2]? = some (.cells (wordsP s k) 141 (0, 0))) ∧ Below w.heap.size w W) (fun i _ => 256 - (intOf i).toNat)
  case atStart => exact ⟨0, by omega, rfl, hp0, hp1, hp2, hb0⟩
  case round =>
    clear hb0 hp0 hp1 hp2
    obtain ⟨k, hk, rfl, h0, h1, h2, hb⟩ := hrel
    by_cases hlt : k < 256
    · obtain ⟨i, hi⟩ : ∃ i, i = k / 64 := ⟨_, rfl⟩
      have hki : (k : Int) / 64 = (i : Int) := by omega
      have hi4 : i < 4 := by omega
      have hci : wr.cell? ⟨w.heap.size, i, none⟩ = some (.int .u64 (bw s.toNat i)) := by rw [cell_of_row _ _ i _ _ _ h0.out, setC_at s i hi4]
      have hbd := bw_bd s.toNat i
      have hwb : Hid (bw s.toNat i / 2 ^ (k % 64) % 2 = wbit s k) := by rw [Hid, hi]; exact wbit_bw s k
      obtain ⟨x, hx⟩ : ∃ x, x = bw s.toNat i := ⟨_, rfl⟩
      rw [← hx] at hci hbd hwb
      obtain ⟨x0, x1⟩ := hbd
      have hj64 : (k : Int) % 64 = ((k % 64 : Nat) : Int) := by omega
      obtain ⟨j, hj⟩ : ∃ j, j = k % 64 := ⟨_, rfl⟩
      rw [← hj] at hj64 hwb
      have hj4 : j < 64 := by omega
      clear hx hi hj
      go_wp2
      go_loopw [5, 6] (fun y t W => ∃ (n : Nat) (m : Int), n ≤ j ∧ t = .int .i64 n ∧ y = .int .u64 m ∧ Hid (m = x / 2 ^ n) ∧ 0 ≤ m ∧ m < 18446744073709551616 ∧ W = wr) (fun _ t _ => j - (intOf t).toNat)
      case atStart => exact ⟨0, x, by omega, rfl, rfl, by simp [Hid], x0, x1, rfl⟩
      case round =>
        obtain ⟨n, m, hn, rfl, rfl, hm, m0, m1, rfl⟩ := hrel
        by_cases hnj : n < j
        · go_wp2
          go_roundw
          case rel => exact ⟨n + 1, m / 2, by omega, by go_num, rfl, by rw [Hid, hm.out, Int.pow_succ, Int.ediv_ediv_of_nonneg (Int.pow_nonneg (by decide))], by omega, by omega, by trivial⟩
          case measure => simp [intOf]; omega
        · obtain rfl : n = j := by omega
          have hc3 : wr.cell? ⟨w.heap.size + 1 + 1, k, none⟩ = some (.int .i64 (if k < k then wbit s k else 0)) := by
            rw [cell_of_row _ _ k _ _ _ h2.out, wordsP_at s k k hlt]
          have hf3 : wr.frozen? ⟨w.heap.size + 1 + 1, k, none⟩ = false := frozen_of_row _ _ k _ _ h2.out
          have hmm : Hid (m % 2 = wbit s k) := by rw [Hid, hm.out]; exact hwb.out
          clear hm hwb
          go_wp2
          go_roundw
          case rel =>
            refine ⟨k + 1, by omega, by go_num, ?_, ?_, ?_, hb.setCell (p := ⟨w.heap.size + 1 + 1, k, none⟩) (by show w.heap.size ≤ w.heap.size + 1 + 1; omega) _⟩
            · exact (Below.heap_setCell _ _ _ _ (by show w.heap.size ≠ w.heap.size + 1 + 1; omega)).trans h0.out
            · exact (Below.heap_setCell _ _ _ _ (by show w.heap.size + 1 ≠ w.heap.size + 1 + 1; omega)).trans h1.out
            · rw [hmm.out, ← wordsP_step s k hlt]
              exact heap_setCell_same wr (w.heap.size + 1 + 1) k _ _ _ h2.out
          case measure => simp [intOf]; omega
    · obtain rfl : k = 256 := by omega
      go_wp2_with (first
        | (refine wpList_load_row rfl 141 _ rfl (w.heap.size + 2) rfl 141 (wordsP s 256) (0, 0) _ h2.out Try.underlying141 rfl (by rw [wordsP_size]; kernel_rfl) ?_)
        | (refine wpList_store_row rfl 141 _ _ rfl (w.heap.size + 1) (wordsP s 256) rfl rfl 141 _ h1.out (by rw [wordsP_size]; kernel_rfl) (by simp [wordsP_size]) (wordsP_one _ _) ?_))
      have hrow := setRow_heap wr (w.heap.size + 1) _ (wordsP s 256) _ _ h1.out
      (try simp only [Exit.inBlock, Exit.then])
      refine bodyPost_ret (results_cell_row rfl _ _ (w.heap.size + 1) 141 (wordsP s 256) (0, 0) _ rfl hrow Try.underlying141 rfl (by rw [wordsP_size]; kernel_rfl)) rfl ?_
      exact ⟨rfl, below_setRow hb (by omega) _⟩
end Go.Proofs.Ytlagablcopmhkaa
