/- Packed: AlBits, AlLoop, AlPart -/
import Derived.Test.YtlagablcopmhkaaKRowRuns7
import Derived.Test.YtlagablcopmhkaaKRowRuns9
import Derived.Test.YtlagablcopmhkaaKRowRuns12
set_option linter.unusedVariables false
set_option linter.unusedSimpArgs false
/- Walking with descriptions: sets of positions. -/
namespace Go.Proofs.Ytlagablcopmhkaa
open Go.RowKit

section
variable {P : Program} {n : Nat} {o : Oper} {sl : Sl} {L : List Ch} {K : Sl → List Ch → Prop}
theorem aop_quo {t t' : TypeId} {x y : Operand} {p q : Int} (i : Int) (ho : o.op = .binOp .quo t x y t') (hd : dstOk n o.dst = true) (hx : ev sl x = .i p) (hy : ev sl y = .i q) (hq : q ≠ 0) (hr : IntKind.i64.wrap (p.tdiv q) = i) (hK : K (put sl o.dst (.i i)) L) : AOp P n o sl L K :=
  aop_bini ho hd _ hx hy (fun w => by simp [binOp, Op.intDiv, hq, hr]) hK
theorem aop_rem {t t' : TypeId} {x y : Operand} {p q : Int} (i : Int) (ho : o.op = .binOp .rem t x y t') (hd : dstOk n o.dst = true) (hx : ev sl x = .i p) (hy : ev sl y = .i q) (hq : q ≠ 0) (hr : p.tmod q = i) (hK : K (put sl o.dst (.i i)) L) : AOp P n o sl L K :=
  aop_bini ho hd _ hx hy (fun w => by simp [binOp, Op.intDiv, hq, hr]) hK
theorem aop_shl {t t' : TypeId} {x y : Operand} {k k' : IntKind} {p : Int} (j : Nat) {q : Int} (ho : o.op = .binOp .shl t x y t') (hd : dstOk n o.dst = true) (hx : ev sl x = .v (.int k p)) (hy : ev sl y = .v (.int k' q)) (hq : q = (j : Int)) (hj : j ≤ k.bits) (hK : K (put sl o.dst (.v (.int k (k.wrap (p * 2 ^ j))))) L) : AOp P n o sl L K :=
  aop_bini ho hd _ hx hy (fun w => by
    subst hq
    have : ¬ ((j : Int) < 0) := by omega
    have h2 : min j k.bits = j := by omega
    simp [binOp, Op.shift, this, h2]) hK
theorem aop_or {t t' : TypeId} {x y : Operand} {k : IntKind} {p q : Int} (ho : o.op = .binOp .or t x y t') (hd : dstOk n o.dst = true) (hx : ev sl x = .v (.int k p)) (hy : ev sl y = .v (.int k q)) (hK : K (put sl o.dst (.v (.int k (bits .or k p q)))) L) : AOp P n o sl L K :=
  aop_bini ho hd _ hx hy (fun w => by simp [binOp, go_sem]) hK
theorem aop_and {t t' : TypeId} {x y : Operand} {k : IntKind} {p q : Int} (ho : o.op = .binOp .and t x y t') (hd : dstOk n o.dst = true) (hx : ev sl x = .v (.int k p)) (hy : ev sl y = .v (.int k q)) (hK : K (put sl o.dst (.v (.int k (bits .and k p q)))) L) : AOp P n o sl L K :=
  aop_bini ho hd _ hx hy (fun w => by simp [binOp, go_sem]) hK
end

def bitsV (m : Nat) : List V := (bitsC m).toList.map V.v
theorem bitsV_length (m : Nat) : (bitsV m).length = 7 := rfl
theorem bitsV_at (pre post : List V) (m i : Nat) (hi : i < 7) : (pre ++ bitsV m ++ post)[pre.length + i]? = some (V.v (.int .u64 (bw m i))) := by
  rw [List.append_assoc, List.getElem?_append_right (by omega), Nat.add_sub_cancel_left, List.getElem?_append_left (by rw [bitsV_length]; exact hi)]
  have := bitsC_at m i hi
  rw [bitsV, List.getElem?_map, ← Array.getElem?_toList] at *
  rw [this]; rfl
theorem bitsV_set (pre post : List V) (m m' i : Nat) (x : Value) (hi : i < 7) (h : bitsC m' = (bitsC m).setIfInBounds i x) : (pre ++ bitsV m ++ post).set (pre.length + i) (V.v x) = pre ++ bitsV m' ++ post := by
  rw [List.append_assoc, List.set_append_right _ _ (by omega), Nat.add_sub_cancel_left, List.set_append_left _ _ (by rw [bitsV_length]; exact hi), List.append_assoc]
  congr 2
  unfold bitsV
  rw [h, Array.toList_setIfInBounds, List.map_set]

set_option maxRecDepth 100000 in
set_option maxHeartbeats 1000000 in
theorem put_a {b m p : Nat} {ty : TypeId} (pre post : List V) (o : Nat) (hp : p < 448) (ho : pre.length = o) : AC Try.prog 116 [.ptr b o, .i p] [.box b ty (pre ++ bitsV m ++ post)] fun r L' => r = .t [] ∧ L' = [.box b ty (pre ++ bitsV (m ||| 2 ^ p) ++ post)] := by
  subst ho
  obtain ⟨i, hi⟩ : ∃ i, i = p / 64 := ⟨_, rfl⟩
  obtain ⟨j, hj⟩ : ∃ j, j = p % 64 := ⟨_, rfl⟩
  have hi7 : i < 7 := by omega
  have hj64 : j < 64 := by omega
  have e : p = 64 * i + j := by omega
  have e1 : IntKind.i64.wrap ((p : Int).tdiv 64) = (i : Int) := by
    rw [Int.tdiv_eq_ediv_of_nonneg (by omega), IntKind.wrap_i64]; omega
  have e2 : (p : Int).tmod 64 = (j : Int) := by rw [Int.tmod_eq_emod_of_nonneg (by omega)]; omega
  have hload : (pre ++ bitsV m ++ post)[pre.length + i * 1]? = some (V.v (.int .u64 (bw m i))) := by rw [Nat.mul_one]; exact bitsV_at pre post m i hi7
  have hlt : Nat.blt (pre.length + i * 1) (pre ++ bitsV m ++ post).length = true := by simp [bitsV_length]; omega
  have hset := bitsV_set pre post m (m ||| 2 ^ p) i _ hi7 (by rw [e]; exact put_row m i j hi7 hj64)
  have hj6 : j ≤ IntKind.u64.bits := by show j ≤ 64; omega
  clear hi hj
  refine ac_body _ Try.func116 rfl Try.ntmps116 Try.results116 rfl ?_
  refine aw_drawH 12 [4, 5, 6, 7, 8, 9, 10, 11, 12, 13, 14, 15] (by kernel_rfl) (by kernel_rfl) rfl (by kernel_rfl) ?_; refine drawh_q [] rfl rfl rfl (by kernel_rfl) (aq_plain rfl (by exact qd rfl rfl ⟨rfl, rfl⟩)) ?_; refine drawh_q [] rfl rfl rfl (by kernel_rfl) (aq_plain rfl (by exact qd rfl rfl ⟨rfl, rfl⟩)) ?_; refine drawh_q [5] rfl rfl rfl (by kernel_rfl) (aq_plain rfl (by exact aop_quo i rfl rfl rfl rfl (by decide) e1 ⟨rfl, rfl⟩)) ?_; refine drawh_q [4] rfl rfl rfl (by kernel_rfl) (aq_plain rfl (by exact qd rfl rfl ⟨rfl, rfl⟩)) ?_; refine drawh_q [6, 7] rfl rfl rfl (by kernel_rfl) (aq_plain rfl (by exact aop_index_arr rfl rfl rfl rfl i rfl hi7 ⟨rfl, rfl⟩)) ?_; refine drawh_q [8] rfl rfl rfl (by kernel_rfl) (aq_plain rfl (by exact aop_load (i := 0) rfl rfl rfl rfl ⟨rfl, rfl⟩ hload ⟨rfl, rfl⟩)) ?_; refine drawh_q [] rfl rfl rfl (by kernel_rfl) (aq_plain rfl (by exact qd rfl rfl ⟨rfl, rfl⟩)) ?_; refine drawh_q [10] rfl rfl rfl (by kernel_rfl) (aq_plain rfl (by exact aop_rem j rfl rfl rfl rfl (by decide) e2 ⟨rfl, rfl⟩)) ?_; refine drawh_q [11] rfl rfl rfl (by kernel_rfl) (aq_plain rfl (by exact aop_shl j rfl rfl rfl rfl rfl hj6 ⟨rfl, rfl⟩)) ?_; refine drawh_q [9, 12] rfl rfl rfl (by kernel_rfl) (aq_plain rfl (by exact aop_or rfl rfl rfl rfl ⟨rfl, rfl⟩)) ?_; refine drawh_q [4] rfl rfl rfl (by kernel_rfl) (aq_plain rfl (by exact qd rfl rfl ⟨rfl, rfl⟩)) ?_; refine drawh_q [4, 5, 6, 7, 8, 9, 10, 11, 12, 13, 14] rfl rfl rfl (by kernel_rfl) (aq_plain rfl (by exact aop_index_arr rfl rfl rfl rfl i rfl hi7 ⟨rfl, rfl⟩)) ?_; refine drawh_nil (.refl _) ?_; intro β
  refine aos_cons rfl (aop_store1 (i := 0) rfl rfl rfl rfl rfl hlt rfl ?_)
  (repeat (refine aos_nil ?_))
  refine fpost (.inl rfl) (.t []) (.refl _ _) res_none (.refl _) ⟨rfl, ?_⟩
  show [Ch.box b ty ((pre ++ bitsV m ++ post).set (pre.length + i * 1) (V.v (.int .u64 (bits .or .u64 (bw m i) (IntKind.u64.wrap (1 * 2 ^ j))))))] = _
  rw [Int.one_mul, Nat.mul_one, hset]

/-- the set in a chunk -/
def Ch.bitsAt (ch : Ch) (b o m : Nat) : Prop := ∃ pre post, pre.length = o ∧ ch.has b (pre ++ bitsV m ++ post)
theorem all_a (b o : Nat) : AC Try.prog 111 [.ptr b o] [] fun r L' => ∃ bb, r = .f (.func 145) [] [.ptr bb 0] ∧ L' = [.box bb 150 [.ptr b o]] := by
  refine ac_body _ Try.func111 rfl Try.ntmps111 Try.results111 rfl ?_
  (repeat (first | refine aw_seq ?_ | refine aw_region ?_))
  refine aos_cons rfl (aop_box_d rfl rfl rfl rfl ?_)
  intro bb
  (repeat (first | refine aos_nil ?_ | ((refine aos_cons rfl ?_); (first | refine qd rfl rfl ?_ | refine qf rfl rfl ?_); show AOs _ _ _ _ ((_, _) :: _) _ _) | refine aw_seq ?_ | refine aw_region ?_ | refine aw_ret ?_))
  exact fpost (.inr rfl) _ (.refl _ _) (res_tmp 2) (.refl _) ⟨bb, rfl, rfl⟩

theorem bitsAt_of {w : World} {S : Nat → Prop} {ch : Ch} {b o m : Nat} (h : ch.ok w S) (hb : ch.bitsAt b o m) : BitAt w b o m := fun i hi => by
  obtain ⟨pre, post, rfl, hh⟩ := hb
  obtain ⟨us, h1, _, h3⟩ := h.at hh
  obtain ⟨u, hu, hr⟩ := h1.at (bitsV_at pre post m i hi)
  rw [h3 _ u hu, hr.unv]
/-- a call that leaves memory as it is, and looks at memory of its caller's own -/
theorem ac_realL {P : Program} {f : FuncId} {args : List V} {L : List Ch} {c : V} (h : ∀ (w : World) (S : Nat → Prop) (vs : List Value), Hp w S L → RL w S args vs → Calls P f vs.toArray w fun e w' => ∃ v, e = .returned v ∧ R w' (Snew S w w') c v ∧ Below w.heap.size w w') :
    AC P f args L fun r L' => r = c ∧ L' = L := fun w S vs hp hr => by
  refine (h w S vs hp hr).mono ?_
  rintro e w' ⟨v, rfl, hv, hb⟩
  have hk : Kept w S w' (Snew S w w') := kept_same (fun b _ hlt => hb.block b hlt) fun _ h => .inl h
  exact ⟨v, c, Snew S w w', L, rfl, ⟨rfl, rfl⟩, hv, ⟨fun x hx => (hp.ok x hx).move (fun b hx' => hb.block b ((hp.ok x hx).lt hx')) hk, hp.ap, fun b hL hS => hS.elim (hp.out b hL) (fun h => by have := hp.blt hL; omega), fun b hb' => hb'.elim (fun h => Nat.lt_of_lt_of_le (hp.lt b h) hb.size) (·.2)⟩,
    ⟨hb.os, hb.tape, hb.output, hb.size, fun b hlt _ => hb.block b hlt, fun _ h => .inl h, fun b h hlt => .inl (h.elim id fun h => by omega), fun b h _ => h⟩⟩
theorem RL.ptr {w : World} {S : Nat → Prop} {b o : Nat} {us : List Value} (h : RL w S [.ptr b o] us) : us = [.pointer (some ⟨b, o, none⟩)] := by
  obtain ⟨v, rfl, h1⟩ := h.one
  rw [h1.unv]
theorem list_a {b o m : Nat} {ch : Ch} (hb : ch.bitsAt b o m) : AC Try.prog 62 [.ptr b o] [ch] fun r L' => r = .d (dI (ints (bitsL m))) ∧ L' = [ch] :=
  ac_realL fun w S vs hp hr => by
    obtain rfl := hr.ptr
    refine (list_any m b o w (bitsAt_of (hp.ok ch (by simp)) hb)).mono ?_
    rintro e w' ⟨v, rfl, h1, h2⟩
    exact ⟨v, rfl, h1.toR, h2⟩

theorem box_bits {b : Nat} {ty : TypeId} (pre post : List V) (o m : Nat) (ho : pre.length = o) : (Ch.box b ty (pre ++ bitsV m ++ post)).bitsAt b o m := ⟨pre, post, ho, rfl, rfl⟩
/-- a chunk with other cells -/
def Ch.withC (cs : List V) : Ch → Ch
  | .box b ty _ => .box b ty cs
  | .row v e k m _ => .row v e k m cs
  | c => c
theorem Ch.has.withC {ch : Ch} {b : Nat} {cs : List V} (h : ch.has b cs) (cs' : List V) : (ch.withC cs').has b cs' := by
  cases ch with
  | box b' ty c => exact ⟨h.1, rfl⟩
  | row v e k m c => exact ⟨h.1, rfl⟩
  | emp => exact h.elim
  | reg A Φ => exact h.elim
theorem Ch.withC_withC (ch : Ch) (cs cs' : List V) : (ch.withC cs).withC cs' = ch.withC cs' := by cases ch <;> rfl
theorem Ch.has.self {ch : Ch} {b : Nat} {cs : List V} (h : ch.has b cs) : ch.withC cs = ch := by
  cases ch with
  | box b' ty c => obtain ⟨_, rfl⟩ := h; rfl
  | row v e k m c => obtain ⟨_, rfl⟩ := h; rfl
  | emp => rfl
  | reg A Φ => rfl
theorem aop_store1_ch {P : Program} {n : Nat} {oo : Oper} {sl : Sl} {L : List Ch} {K : Sl → List Ch → Prop} {ty : TypeId} {x y : Operand} {b o' i : Nat} {ch : Ch} {cs : List V} {c : D} [ht : TyS P ty 1 false] (ho : oo.op = .store ty x y) (hd : dstOk n oo.dst = true) (hx : ev sl x = .ptr b o') (hi : L[i]? = some ch) (hh : ch.has b cs) (hy : ev sl y = .d c) (hl : o' < cs.length) (h1 : c.one = true)
    (hK : K (put sl oo.dst (.v undef)) (L.set i (ch.withC (cs.set o' (.d c))))) : AOp P n oo sl L K :=
  aop_store (xs := [.d c]) ho hd hx hi hh (by rw [hy]; rfl) rfl (Nat.succ_le_of_lt hl) (by simpa [V.one] using h1) (by
    have : ch.splice o' [.d c] = ch.withC (cs.set o' (.d c)) := by
      cases ch with
      | box b' ty c' => obtain ⟨_, rfl⟩ := hh; simp only [Ch.splice, Ch.withC, List.length_singleton]; rw [splice_one _ hl]
      | row v e k m c' => obtain ⟨_, rfl⟩ := hh; simp only [Ch.splice, Ch.withC, List.length_singleton]; rw [splice_one _ hl]
      | emp => rfl
      | reg A Φ => rfl
    rw [this]; exact hK)
/-- a half-way or: words below k of m' , the others of m -/
def bitsH (m m' k : Nat) : List V := (List.range 7).map fun i => V.v (.int .u64 (bw (if i < k then m' else m) i))
theorem bitsH_zero (m m' : Nat) : bitsH m m' 0 = bitsV m := by simp [bitsH, bitsV, List.range, List.range.loop]
theorem bitsH_full (m m' : Nat) : bitsH m m' 7 = bitsV m' := by simp [bitsH, bitsV, List.range, List.range.loop]
theorem bitsH_length (m m' k : Nat) : (bitsH m m' k).length = 7 := by simp [bitsH]
theorem bitsH_at (m m' k i : Nat) (hi : i < 7) : (bitsH m m' k)[i]? = some (V.v (.int .u64 (bw (if i < k then m' else m) i))) := by simp [bitsH, hi]
theorem bitsH_set (m m' k : Nat) (hk : k < 7) : (bitsH m m' k).set k (V.v (.int .u64 (bw m' k))) = bitsH m m' (k + 1) := by
  apply List.ext_getElem?
  intro i
  rw [List.getElem?_set]
  by_cases hi : i < 7
  · rw [bitsH_at _ _ _ _ hi, bitsH_at _ _ _ _ hi]
    by_cases e : k = i
    · subst e; simp [bitsH_length, hk]
    · simp only [e, if_false]
      by_cases h1 : i < k
      · rw [if_pos h1, if_pos (by omega)]
      · rw [if_neg h1, if_neg (by omega)]
  · have e : ∀ m m' k, (bitsH m m' k)[i]? = none := fun m m' k => by rw [List.getElem?_eq_none_iff, bitsH_length]; omega
    rw [e, e, if_neg (by omega)]

theorem bitsH_in (pre post : List V) (m m' k i : Nat) (hi : i < 7) : (pre ++ bitsH m m' k ++ post)[pre.length + i]? = some (V.v (.int .u64 (bw (if i < k then m' else m) i))) := by
  rw [List.append_assoc, List.getElem?_append_right (by omega), Nat.add_sub_cancel_left, List.getElem?_append_left (by rw [bitsH_length]; exact hi), bitsH_at _ _ _ _ hi]
theorem bitsH_put (pre post : List V) (m m' k : Nat) (hk : k < 7) : (pre ++ bitsH m m' k ++ post).set (pre.length + k) (V.v (.int .u64 (bw m' k))) = pre ++ bitsH m m' (k + 1) ++ post := by
  rw [List.append_assoc, List.set_append_right _ _ (by omega), Nat.add_sub_cancel_left, List.set_append_left _ _ (by rw [bitsH_length]; exact hk), bitsH_set _ _ _ hk, List.append_assoc]
theorem bitsV_own (c i : Nat) (hi : i < 7) : (bitsV c)[i]? = some (V.v (.int .u64 (bw c i))) := by have := bitsV_at [] [] c i hi; simpa using this

set_option maxRecDepth 100000 in
set_option maxHeartbeats 1000000 in
theorem or_a {b m c : Nat} {ch : Ch} (pre post : List V) (o : Nat) (ho : pre.length = o) (hh : ch.has b (pre ++ bitsV m ++ post)) : AC Try.prog 141 [.ptr b o, .a (bitsV c)] [ch] fun r L' => r = .t [] ∧ L' = [ch.withC (pre ++ bitsV (m ||| c) ++ post)] := by
  subst ho
  refine ac_body _ Try.func141 rfl Try.ntmps141 Try.results141 rfl ?_
  refine aw_seq (aw_region ?_)
  refine aos_cons rfl (aop_box_a rfl rfl rfl rfl ?_)
  intro b3
  (repeat (first | refine aos_nil ?_ | ((refine aos_cons rfl ?_); (refine qd rfl rfl ?_); show AOs _ _ _ _ ((_, _) :: _) _ _) | refine aw_seq ?_ | refine aw_region ?_ | refine aw_block ?_))
  refine aw_for (ι := Nat) (fun k => [(0, V.ptr b pre.length), (3, V.ptr b3 0), (5, V.i k)]) (fun k => [.box b3 100 (bitsV c), ch.withC (pre ++ bitsH m (m ||| c) k ++ post)])
    (fun k => k ≤ 7) (fun k => 7 - k) 0 (Nat.zero_le _) (.eqs' rfl (by rw [bitsH_zero, hh.self])) ?_
  intro k hk
  by_cases hlt : k < 7
  · have hd : decide ((k : Int) < 7) = true := by simp; omega
    have hhk := hh.withC (pre ++ bitsH m (m ||| c) k ++ post)
    have l1 : (pre ++ bitsH m (m ||| c) k ++ post)[pre.length + k * 1]? = some (V.v (.int .u64 (bw m k))) := by
      rw [Nat.mul_one, bitsH_in _ _ _ _ _ _ hlt, if_neg (Nat.lt_irrefl _)]
    have l2 : (bitsV c)[0 + k * 1]? = some (V.v (.int .u64 (bw c k))) := by rw [Nat.mul_one, Nat.zero_add]; exact bitsV_own c k hlt
    (repeat (first | refine aos_nil ?_ | ((refine aos_cons rfl ?_); (first | refine qd rfl rfl ?_ | refine gc rfl rfl rfl rfl rfl _ (by assumption) ?_); show AOs _ _ _ _ ((_, _) :: _) _ _) | refine aw_seq ?_ | refine aw_region ?_ | refine aw_block ?_ | refine aw_skip ?_ | refine aw_cond true rfl ?_))
    refine aw_drawH 11 [8, 9, 10, 11, 12, 13, 14, 15, 16, 17, 18] (by kernel_rfl) (by kernel_rfl) rfl (by kernel_rfl) ?_; refine drawh_q [] rfl rfl rfl (by kernel_rfl) (aq_plain rfl (by exact qd rfl rfl ⟨rfl, rfl⟩)) ?_; refine drawh_q [] rfl rfl rfl (by kernel_rfl) (aq_plain rfl (by exact qd rfl rfl ⟨rfl, rfl⟩)) ?_; refine drawh_q [8] rfl rfl rfl (by kernel_rfl) (aq_plain rfl (by exact qd rfl rfl ⟨rfl, rfl⟩)) ?_; refine drawh_q [9, 10] rfl rfl rfl (by kernel_rfl) (aq_plain rfl (by exact aop_index_arr rfl rfl rfl rfl k rfl hlt ⟨rfl, rfl⟩)) ?_; refine drawh_q [11] rfl rfl rfl (by kernel_rfl) (aq_plain rfl (by exact aop_load (i := 1) rfl rfl rfl rfl hhk l1 ⟨rfl, rfl⟩)) ?_; refine drawh_q [] rfl rfl rfl (by kernel_rfl) (aq_plain rfl (by exact qd rfl rfl ⟨rfl, rfl⟩)) ?_; refine drawh_q [13] rfl rfl rfl (by kernel_rfl) (aq_plain rfl (by exact aop_index_arr rfl rfl rfl rfl k rfl hlt ⟨rfl, rfl⟩)) ?_; refine drawh_q [14] rfl rfl rfl (by kernel_rfl) (aq_plain rfl (by exact aop_load (i := 0) rfl rfl rfl rfl ⟨rfl, rfl⟩ l2 ⟨rfl, rfl⟩)) ?_; refine drawh_q [12, 15] rfl rfl rfl (by kernel_rfl) (aq_plain rfl (by exact aop_or rfl rfl rfl rfl ⟨rfl, rfl⟩)) ?_; refine drawh_q [8] rfl rfl rfl (by kernel_rfl) (aq_plain rfl (by exact qd rfl rfl ⟨rfl, rfl⟩)) ?_; refine drawh_q [8, 9, 10, 11, 12, 13, 14, 15, 16, 17] rfl rfl rfl (by kernel_rfl) (aq_plain rfl (by exact aop_index_arr rfl rfl rfl rfl k rfl hlt ⟨rfl, rfl⟩)) ?_; refine drawh_nil (.refl _) ?_; intro β
    refine aos_cons rfl (aop_store1_ch (i := 1) rfl rfl rfl rfl hhk rfl (by simp [bitsH_length]; omega) rfl ?_)
    (repeat (first | refine aos_nil ?_ | ((refine aos_cons rfl ?_); (first | refine qd rfl rfl ?_ | refine ga rfl rfl rfl rfl rfl (by omega) (by omega) ?_); show AOs _ _ _ _ ((_, _) :: _) _ _) | refine aw_region ?_))
    refine ⟨k + 1, by omega, by omega, .eqs' rfl ?_⟩
    show [Ch.box b3 100 (bitsV c), (ch.withC _).withC ((pre ++ bitsH m (m ||| c) k ++ post).set (pre.length + k * 1) (V.v (.int .u64 (bits .or .u64 (bw m k) (bw c k)))))] = _
    rw [bw_or, Nat.mul_one, bitsH_put _ _ _ _ _ hlt, Ch.withC_withC]
  · have hd : decide ((k : Int) < 7) = false := by simp; omega
    obtain rfl : k = 7 := by omega
    (repeat (first | refine aos_nil ?_ | ((refine aos_cons rfl ?_); (refine gc rfl rfl rfl rfl rfl _ (by assumption) ?_); show AOs _ _ _ _ ((_, _) :: _) _ _) | refine aw_seq ?_ | refine aw_region ?_ | refine aw_exit ?_ | refine aw_cond false rfl ?_))
    exact fpost (.inl rfl) (.t []) (.refl _ _) res_none (List.sublist_cons_self _ _) ⟨rfl, by rw [bitsH_full]⟩
end Go.Proofs.Ytlagablcopmhkaa
/- nfa: loop, by descriptions. -/
namespace Go.Proofs.Ytlagablcopmhkaa
open Go.RowKit

section
variable {P : Program} {n : Nat} {ro : Option Nat} {sl : Sl} {L : List Ch} {Q : Exit → Sl → List Ch → Prop}
/-- a row that is not empty has a block -/
theorem aw_rowBlock {c : Code} {v : Value} {e : TypeId} {k m : Nat} {cs : List V} (j : Nat) (hj : L[j]? = some (.row v e k m cs)) (hm : 0 < m) (h : ∀ g, v.ownBlock = some g → AW P n ro c sl L Q) : AW P n ro c sl L Q := fun w S a B hs hb Qr hQr => by
  obtain ⟨us, hown, _⟩ := (hs.hp.mem hj).1
  rcases hown.2 with ⟨_, h0⟩ | ⟨g, cap, cur, rfl, _⟩
  · omega
  · exact h g rfl w S a B hs hb Qr hQr
theorem aop_index_rowg {o : Oper} {K : Sl → List Ch → Prop} {t e : TypeId} {x y : Operand} {m k bytes j g : Nat} {kk : IntKind} {q : Int} {v : Value} {cs : List V} [ht : TyL P t e k bytes] (ho : o.op = .indexAddr t x y) (hd : dstOk n o.dst = true) (hx : ev sl x = .v v) (hj : L[j]? = some (.row v e k m cs)) (hg : v.ownBlock = some g) (hy : ev sl y = .v (.int kk q)) (i : Nat) (hq : q = (i : Int)) (hi : i < m)
    (hK : K (put sl o.dst (.ptr g (i * k))) L) : AOp P n o sl L K :=
  aop_index_row ho hd hx hj hy i hq hi fun g' hg' => by rw [hg] at hg'; cases hg'; exact hK
end

/-- sets of positions, one behind the other -/
def folV (l : List Nat) : List V := l.flatMap bitsV
theorem folV_length (l : List Nat) : (folV l).length = l.length * 7 := by
  induction l with
  | nil => rfl
  | cons m l ih => rw [folV, List.flatMap_cons, List.length_append, bitsV_length]; rw [folV] at ih; rw [ih, List.length_cons]; omega
theorem folV_split {l : List Nat} {p m : Nat} (h : l[p]? = some m) (m' : Nat) : folV (l.set p m') = folV (l.take p) ++ bitsV m' ++ folV (l.drop (p + 1)) := by
  have hp := (List.getElem?_eq_some_iff.1 h).1
  rw [List.set_eq_take_append_cons_drop, if_pos hp, folV, List.flatMap_append, List.flatMap_cons, List.append_assoc]
  rfl
theorem folV_at {l : List Nat} {p m : Nat} (h : l[p]? = some m) : folV l = folV (l.take p) ++ bitsV m ++ folV (l.drop (p + 1)) := by
  rw [← folV_split h m]
  congr 1
  apply List.ext_getElem?
  intro i
  rw [List.getElem?_set]
  split
  · rename_i e; subst e; rw [if_pos (List.getElem?_eq_some_iff.1 h).1, h]
  · rfl
/-- first behind all of these -/
def orAll (fol : List Nat) (first : Nat) (l : List Nat) : List Nat := l.foldl (fun f p => f.set p (f.getD p 0 ||| first)) fol
theorem orAll_length (fol : List Nat) (first : Nat) (l : List Nat) : (orAll fol first l).length = fol.length := by
  unfold orAll
  induction l generalizing fol with
  | nil => rfl
  | cons p l ih => rw [List.foldl_cons, ih]; simp
theorem orAll_take {fol : List Nat} {first : Nat} {l : List Nat} {k p : Nat} (h : l[k]? = some p) : orAll fol first (l.take (k + 1)) = (orAll fol first (l.take k)).set p ((orAll fol first (l.take k)).getD p 0 ||| first) := by
  unfold orAll; rw [take_succ_of h, List.foldl_append]; rfl

set_option maxRecDepth 100000 in
set_option maxHeartbeats 1000000 in
theorem loop_a {bm : Nat} {ty : TypeId} {sv : V} {fv : Value} {fol : List Nat} {last first : Nat} (hin : ∀ p ∈ bitsL last, p < fol.length) :
    AC Try.prog 164 [.ptr bm 0, .a (bitsV last), .a (bitsV first)] [.box bm ty [sv, .v fv], .row fv 100 7 fol.length (folV fol)] fun r L' => r = .t [] ∧ L' = [.box bm ty [sv, .v fv], .row fv 100 7 fol.length (folV (orAll fol first (bitsL last)))] := by
  refine ac_body _ Try.func164 rfl Try.ntmps164 Try.results164 rfl ?_
  refine aw_seq (aw_region ?_)
  refine aos_cons rfl (aop_box_d rfl rfl rfl rfl ?_)
  intro b3
  refine aos_cons rfl (aop_box_a rfl rfl rfl rfl ?_)
  intro b4
  refine aos_cons rfl (aop_box_a rfl rfl rfl rfl ?_)
  intro b5
  (repeat (first | refine aos_nil ?_ | refine aw_seq ?_ | refine aw_region ?_))
  refine aos_cons rfl (aop_call (L1 := []) rfl rfl rfl (fun _ _ => by kernel_rfl) (.refl _) (all_a b4 0) (.refl _) ?_)
  rintro r L' ⟨bb, rfl, rfl⟩
  show AOs _ _ _ _ ((_, _) :: _) (_ :: _) _
  (repeat (first | refine aos_nil ?_ | refine aw_block ?_))
  refine aw_le (sl' := [(7, V.f (.func 145) [] [V.ptr bb 0]), (3, V.ptr b3 0), (5, V.ptr b5 0)]) (.eqs rfl) ?_
  refine aw_range (C := [.box bb 150 [.ptr b4 0], .box b4 100 (bitsV last)]) (O := [.box b5 100 (bitsV first), .box b3 95 [.ptr bm 0], .box bm ty [sv, .v fv], .row fv 100 7 fol.length (folV fol)])
    (N := (bitsL last).length) (intsV (ints (bitsL last))) (fun k O' => O'.Perm [.box b5 100 (bitsV first), .box b3 95 [.ptr bm 0], .box bm ty [sv, .v fv], .row fv 100 7 fol.length (folV (orAll fol first ((bitsL last).take k)))]) (fun _ _ => False)
    rfl (fun _ _ => by kernel_rfl) (.cons _ (.swap _ _ _)) ?_ (fun k => by unfold intsV; split <;> rfl) rfl (.refl _) ?_ ?_ (fun _ _ h => h.elim)
  · intro w S lb hp hr
    obtain rfl := hr.ptr
    obtain ⟨us, h1, h2, _⟩ := hp.ok (.box bb 150 [.ptr b4 0]) (by simp)
    obtain rfl := h2.ptr
    have hb4 := bitsAt_of (hp.ok (.box b4 100 (bitsV last)) (by simp)) (box_bits [] [] 0 last rfl |> fun h => by simpa using h)
    have hq := all_seq last b4 0 bb w h1 hb4
    refine ⟨_, by simpa [ints] using hq, ?_⟩
    rintro b (rfl | rfl)
    · exact ⟨(Array.getElem?_eq_some_iff.1 h1).1, .inr ⟨_, List.mem_cons_self, rfl⟩⟩
    · exact ⟨hb4.lt, .inr ⟨_, List.mem_cons_of_mem _ List.mem_cons_self, rfl⟩⟩
  · intro l k O' hk hO
    obtain ⟨p, hp⟩ := some_at hk
    have hv : intsV (ints (bitsL last)) k = #[.int .i64 (p : Int)] := intsV_at (by simp [ints, hp])
    rw [hv]
    have hpl := hin p (List.mem_of_getElem? hp)
    have hfl := orAll_length fol first ((bitsL last).take k)
    have htk := orAll_take (fol := fol) (first := first) hp
    generalize orAll fol first ((bitsL last).take k) = f at hO hfl htk
    obtain ⟨m, hm⟩ := some_at (show p < f.length by omega)
    have hgd : f.getD p 0 = m := by simp [hm]
    rw [hgd] at htk
    rw [htk, ← hfl]
    rw [← hfl] at hO hpl
    show AW _ _ _ _ ((8, V.i p) :: _) _ _
    (repeat (first | refine aos_nil ?_ | ((refine aos_cons rfl ?_); (refine qd rfl rfl ?_); show AOs _ _ _ _ ((_, _) :: _) _ _) | refine aw_region ?_))
    refine ⟨rfl, rfl, ?_⟩
    refine aw_le (.perm hO) (aw_rowBlock 3 rfl (by omega) fun g hg => ?_)
    refine aw_block ?_
    refine aw_drawH 7 [9, 10, 11, 12, 13, 14, 15] (by kernel_rfl) (by kernel_rfl) rfl (by kernel_rfl) ?_; refine drawh_q [] rfl rfl rfl (by kernel_rfl) (aq_plain rfl (by exact gl rfl rfl rfl (by repeat first | exact .z | apply At.s) (by rfl) ⟨rfl, rfl⟩)) ?_; refine drawh_q [9] rfl rfl rfl (by kernel_rfl) (aq_plain rfl (by exact qd rfl rfl ⟨rfl, rfl⟩)) ?_; refine drawh_q [10] rfl rfl rfl (by kernel_rfl) (aq_plain rfl (by exact aop_fieldAddr rfl rfl rfl ⟨rfl, rfl⟩)) ?_; refine drawh_q [11] rfl rfl rfl (by kernel_rfl) (aq_plain rfl (by exact gl rfl rfl rfl (by repeat first | exact .z | apply At.s) (by rfl) ⟨rfl, rfl⟩)) ?_; refine drawh_q [] rfl rfl rfl (by kernel_rfl) (aq_plain rfl (by exact qd rfl rfl ⟨rfl, rfl⟩)) ?_; refine drawh_q [12, 13] rfl rfl rfl (by kernel_rfl) (aq_plain rfl (by exact aop_index_rowg (j := 3) rfl rfl rfl rfl hg rfl p rfl hpl ⟨rfl, rfl⟩)) ?_; refine drawh_q [] rfl rfl rfl (by kernel_rfl) (aq_plain rfl (by exact gla rfl rfl rfl (by repeat first | exact .z | apply At.s) (by rfl) ⟨rfl, rfl⟩)) ?_; refine drawh_nil (.refl _) ?_; intro β
    refine aos_cons rfl (aop_call rfl rfl rfl (fun _ _ => by kernel_rfl) (perm_at (i := 3) rfl .emp).1 (or_a (ch := .row fv 100 7 f.length (folV f)) (folV (f.take p)) (folV (f.drop (p + 1))) (p * 7) (by rw [folV_length, List.length_take]; omega) ⟨hg, (folV_at hm).symm⟩) (.refl _) ?_)
    rintro r L' ⟨rfl, rfl⟩
    refine aos_nil ?_
    show List.Perm _ _
    rw [folV_split hm]
    exact (perm_at (L := [Ch.box b5 100 (bitsV first), Ch.box b3 95 [.ptr bm 0], Ch.box bm ty [sv, .v fv], Ch.row fv 100 7 f.length (folV (f.take p) ++ bitsV (m ||| first) ++ folV (f.drop (p + 1)))]) (i := 3) rfl .emp).1.symm
  · intro O' hO
    rw [List.take_length] at hO
    refine fpost (.inl rfl) (.t []) (.perm (.append (.refl _) hO)) res_none (L2 := [.box bm ty [sv, .v fv], .row fv 100 7 fol.length (folV (orAll fol first (bitsL last)))]) ?_ ⟨rfl, rfl⟩
    exact .cons _ (.cons _ (.cons _ (.cons _ (.refl _))))
end Go.Proofs.Ytlagablcopmhkaa
/- nfa: then, by descriptions. -/
namespace Go.Proofs.Ytlagablcopmhkaa
open Go.RowKit

/-- a part of a tree -/
def partV (f l : Nat) (e : Bool) : List V := bitsV f ++ bitsV l ++ [V.b e]
/-- what the maker holds of positions -/
abbrev mkL (bm : Nat) (sv : V) (fv : Value) (fol : List Nat) : List Ch := [.box bm 98 [sv, .v fv], .row fv 100 7 fol.length (folV fol)]
theorem mkL_or (bm : Nat) (sv : V) (fv : Value) (fol : List Nat) (first : Nat) (l : List Nat) : [Ch.box bm 98 [sv, .v fv], .row fv 100 7 fol.length (folV (orAll fol first l))] = mkL bm sv fv (orAll fol first l) := by
  unfold mkL; rw [orAll_length]
theorem aop_load_bits {P : Program} {n : Nat} {o : Oper} {sl : Sl} {L : List Ch} {K : Sl → List Ch → Prop} {ty : TypeId} {x : Operand} {b o' m i : Nat} {ch : Ch} (pre post : List V) [ht : TyS P ty 7 true] (ho : o.op = .load ty x) (hd : dstOk n o.dst = true) (hx : ev sl x = .ptr b o') (hi : L[i]? = some ch) (hh : ch.has b (pre ++ bitsV m ++ post)) (hp : pre.length = o')
    (hK : K (put sl o.dst (.a (bitsV m))) L) : AOp P n o sl L K :=
  aop_load_agg ho hd hx hi hh (by simp [bitsV_length, hp]) (by
    subst hp
    rw [List.append_assoc, List.drop_left, List.take_left' (bitsV_length m)]; exact hK)
def pFirst (fa : Nat) (ea : Bool) (fb : Nat) : Nat := if ea then fa ||| fb else fa
def pLast (la lb : Nat) (eb : Bool) : Nat := if eb then lb ||| la else lb

set_option maxRecDepth 100000 in
set_option maxHeartbeats 2000000 in
theorem then_a {bm : Nat} {sv : V} {fv : Value} {fol : List Nat} {fa la fb lb : Nat} {ea eb : Bool} (hin : ∀ p ∈ bitsL la, p < fol.length) :
    AC Try.prog 139 [.ptr bm 0, .a (partV fa la ea), .a (partV fb lb eb)] (mkL bm sv fv fol) fun r L' => r = .a (partV (pFirst fa ea fb) (pLast la lb eb) (ea && eb)) ∧ L' = mkL bm sv fv (orAll fol fb (bitsL la)) := by
  refine ac_body _ Try.func139 rfl Try.ntmps139 Try.results139 rfl ?_
  refine aw_seq (aw_region ?_)
  refine aos_cons rfl (aop_box_a rfl rfl rfl rfl ?_)
  intro b4
  refine aos_cons rfl (aop_box_a rfl rfl rfl rfl ?_)
  intro b5
  refine aos_cons rfl (aop_alloc rfl rfl ?_)
  intro b6
  (repeat (first | ((refine aos_cons rfl ?_); refine aop_load_bits (i := 2) (m := la) (bitsV fa) [V.b ea] rfl rfl rfl rfl ⟨rfl, rfl⟩ rfl ?_; show AOs _ _ _ _ ((_, _) :: _) _ _) | ((refine aos_cons rfl ?_); refine aop_load_bits (i := 1) (m := fb) [] (bitsV lb ++ [V.b eb]) rfl rfl rfl rfl ⟨rfl, rfl⟩ rfl ?_; show AOs _ _ _ _ ((_, _) :: _) _ _) | refine aos_nil ?_ | ((refine aos_cons rfl ?_); (first | refine qd rfl rfl ?_ | refine aop_fieldAddr rfl rfl rfl ?_); show AOs _ _ _ _ ((_, _) :: _) _ _) | refine aw_seq ?_ | refine aw_region ?_))
  refine aos_cons rfl (aop_call rfl rfl rfl (fun _ _ => by kernel_rfl) (List.perm_append_comm (l₁ := [_, _, _])) (loop_a (ty := 98) (sv := sv) (last := la) (first := fb) hin) (.refl _) ?_)
  rintro r L' ⟨rfl, rfl⟩
  rw [mkL_or]
  have hl := orAll_length fol fb (bitsL la)
  generalize orAll fol fb (bitsL la) = f
  show AOs _ _ _ _ ((_, _) :: _) (_ :: _) _
  cases ea <;> cases eb
  · (repeat (first | refine aos_nil ?_ | ((refine aos_cons rfl ?_); (refine aop_fieldAddr rfl rfl rfl ?_); show AOs _ _ _ _ ((_, _) :: _) _ _) | refine aw_seq ?_ | refine aw_region ?_))
    (repeat (first | ((refine aos_cons rfl ?_); refine aop_load_bits (i := 4) (m := fa) [] (bitsV la ++ [V.b _]) rfl rfl rfl rfl ⟨rfl, rfl⟩ rfl ?_; show AOs _ _ _ _ ((_, _) :: _) _ _) | ((refine aos_cons rfl ?_); refine aop_load_bits (i := 3) (m := lb) (bitsV fb) [V.b _] rfl rfl rfl rfl ⟨rfl, rfl⟩ rfl ?_; show AOs _ _ _ _ ((_, _) :: _) _ _) | ((refine aos_cons rfl ?_); refine aop_build rfl rfl (partV fa lb false) rfl ?_; show AOs _ _ _ _ ((_, _) :: _) _ _) | refine aos_no rfl rfl rfl rfl rfl ?_ | ((refine aos_cons rfl ?_); (first | refine qd rfl rfl ?_ | refine gl rfl rfl rfl (by repeat first | exact .z | apply At.s) (by rfl) ?_ | refine aop_fieldAddr rfl rfl rfl ?_); show AOs _ _ _ _ ((_, _) :: _) _ _)))
    refine aos_cons rfl (aop_alloc rfl rfl ?_)
    intro b7
    show AOs _ _ _ _ ((_, _) :: _) (_ :: _) _
    (repeat (first | ((refine aos_cons rfl ?_); refine aop_load_all (i := 0) rfl rfl rfl rfl ⟨rfl, rfl⟩ rfl ?_; show AOs _ _ _ _ ((_, _) :: _) _ _) | refine aos_nil ?_ | ((refine aos_cons rfl ?_); (first | refine gl rfl rfl rfl (by repeat first | exact .z | apply At.s) (by rfl) ?_ | refine aop_fieldAddr rfl rfl rfl ?_ | refine gsa rfl rfl rfl rfl (by repeat first | exact .z | apply At.s) rfl (by rfl) rfl ?_); show AOs _ _ _ _ ((_, _) :: _) _ _) | refine aw_seq ?_ | refine aw_region ?_ | refine aw_skip ?_ | refine aw_ret ?_ | refine aw_cond false rfl ?_))
    exact fpost (.inr rfl) (.a (partV (fa) (lb) false)) (.refl _ _) (res_cell (i := 3) rfl rfl rfl) (.cons _ (.cons_cons _ (.cons_cons _ (List.nil_sublist _)))) ⟨rfl, rfl⟩
  · (repeat (first | refine aos_nil ?_ | ((refine aos_cons rfl ?_); (refine aop_fieldAddr rfl rfl rfl ?_); show AOs _ _ _ _ ((_, _) :: _) _ _) | refine aw_seq ?_ | refine aw_region ?_))
    (repeat (first | ((refine aos_cons rfl ?_); refine aop_load_bits (i := 4) (m := fa) [] (bitsV la ++ [V.b _]) rfl rfl rfl rfl ⟨rfl, rfl⟩ rfl ?_; show AOs _ _ _ _ ((_, _) :: _) _ _) | ((refine aos_cons rfl ?_); refine aop_load_bits (i := 3) (m := lb) (bitsV fb) [V.b _] rfl rfl rfl rfl ⟨rfl, rfl⟩ rfl ?_; show AOs _ _ _ _ ((_, _) :: _) _ _) | ((refine aos_cons rfl ?_); refine aop_build rfl rfl (partV fa lb false) rfl ?_; show AOs _ _ _ _ ((_, _) :: _) _ _) | refine aos_no rfl rfl rfl rfl rfl ?_ | ((refine aos_cons rfl ?_); (first | refine qd rfl rfl ?_ | refine gl rfl rfl rfl (by repeat first | exact .z | apply At.s) (by rfl) ?_ | refine aop_fieldAddr rfl rfl rfl ?_); show AOs _ _ _ _ ((_, _) :: _) _ _)))
    refine aos_cons rfl (aop_alloc rfl rfl ?_)
    intro b7
    show AOs _ _ _ _ ((_, _) :: _) (_ :: _) _
    (repeat (first | refine aos_nil ?_ | ((refine aos_cons rfl ?_); (first | refine gl rfl rfl rfl (by repeat first | exact .z | apply At.s) (by rfl) ?_ | refine aop_fieldAddr rfl rfl rfl ?_ | refine gsa rfl rfl rfl rfl (by repeat first | exact .z | apply At.s) rfl (by rfl) rfl ?_); show AOs _ _ _ _ ((_, _) :: _) _ _) | refine aw_seq ?_ | refine aw_region ?_ | refine aw_skip ?_ | refine aw_cond true rfl ?_ | refine aw_cond false rfl ?_))
    (refine aos_cons rfl ?_); refine aop_load_bits (i := 5) (m := la) (bitsV fa) [V.b _] rfl rfl rfl rfl ⟨rfl, rfl⟩ rfl ?_; show AOs _ _ _ _ ((_, _) :: _) _ _
    refine aos_cons rfl (aop_call rfl rfl rfl (fun _ _ => by kernel_rfl) (perm_at (i := 0) rfl .emp).1 (or_a (ch := .box b7 102 (partV (fa) lb false)) (bitsV (fa)) [V.b false] 7 rfl ⟨rfl, rfl⟩) (.refl _) ?_)
    rintro r L' ⟨rfl, rfl⟩
    show AOs _ _ _ _ ((_, _) :: _) (Ch.box b7 102 (partV (fa) (lb ||| la) false) :: _) _
    (repeat (first | ((refine aos_cons rfl ?_); refine aop_load_all (i := 0) rfl rfl rfl rfl ⟨rfl, rfl⟩ rfl ?_; show AOs _ _ _ _ ((_, _) :: _) _ _) | refine aos_nil ?_ | ((refine aos_cons rfl ?_); (refine gsa rfl rfl rfl rfl (by repeat first | exact .z | apply At.s) rfl (by rfl) rfl ?_); show AOs _ _ _ _ ((_, _) :: _) _ _) | refine aw_seq ?_ | refine aw_region ?_ | refine aw_ret ?_))
    exact fpost (.inr rfl) (.a (partV (fa) (lb ||| la) false)) (.refl _ _) (res_cell (i := 3) rfl rfl rfl) (.cons _ (.cons_cons _ (.cons_cons _ (List.nil_sublist _)))) ⟨rfl, rfl⟩
  · (repeat (first | refine aos_nil ?_ | ((refine aos_cons rfl ?_); (refine aop_fieldAddr rfl rfl rfl ?_); show AOs _ _ _ _ ((_, _) :: _) _ _) | refine aw_seq ?_ | refine aw_region ?_))
    (repeat (first | ((first | refine aos_cons rfl ?_ | refine aos_yes rfl rfl rfl ?_); refine aop_load_bits (i := 4) (m := fa) [] (bitsV la ++ [V.b _]) rfl rfl rfl rfl ⟨rfl, rfl⟩ rfl ?_; show AOs _ _ _ _ ((_, _) :: _) _ _) | ((first | refine aos_cons rfl ?_ | refine aos_yes rfl rfl rfl ?_); refine aop_load_bits (i := 3) (m := lb) (bitsV fb) [V.b _] rfl rfl rfl rfl ⟨rfl, rfl⟩ rfl ?_; show AOs _ _ _ _ ((_, _) :: _) _ _) | ((first | refine aos_cons rfl ?_ | refine aos_yes rfl rfl rfl ?_); refine aop_build rfl rfl (partV fa lb false) rfl ?_; show AOs _ _ _ _ ((_, _) :: _) _ _) | ((first | refine aos_cons rfl ?_ | refine aos_yes rfl rfl rfl ?_); (first | refine qd rfl rfl ?_ | refine gl rfl rfl rfl (by repeat first | exact .z | apply At.s) (by rfl) ?_ | refine aop_fieldAddr rfl rfl rfl ?_); show AOs _ _ _ _ ((_, _) :: _) _ _)))
    refine aos_cons rfl (aop_alloc rfl rfl ?_)
    intro b7
    show AOs _ _ _ _ ((_, _) :: _) (_ :: _) _
    (repeat (first | refine aos_nil ?_ | ((refine aos_cons rfl ?_); (first | refine gl rfl rfl rfl (by repeat first | exact .z | apply At.s) (by rfl) ?_ | refine aop_fieldAddr rfl rfl rfl ?_ | refine gsa rfl rfl rfl rfl (by repeat first | exact .z | apply At.s) rfl (by rfl) rfl ?_); show AOs _ _ _ _ ((_, _) :: _) _ _) | refine aw_seq ?_ | refine aw_region ?_ | refine aw_cond true rfl ?_))
    (refine aos_cons rfl ?_); refine aop_load_bits (i := 4) (m := fb) [] (bitsV lb ++ [V.b _]) rfl rfl rfl rfl ⟨rfl, rfl⟩ rfl ?_; show AOs _ _ _ _ ((_, _) :: _) _ _
    refine aos_cons rfl (aop_call rfl rfl rfl (fun _ _ => by kernel_rfl) (perm_at (i := 0) rfl .emp).1 (or_a (ch := .box b7 102 (partV fa lb false)) [] (bitsV lb ++ [V.b false]) 0 rfl ⟨rfl, rfl⟩) (.refl _) ?_)
    rintro r L' ⟨rfl, rfl⟩
    show AOs _ _ _ _ ((_, _) :: _) (Ch.box b7 102 (partV (fa ||| fb) lb false) :: _) _
    (repeat (first | ((refine aos_cons rfl ?_); refine aop_load_all (i := 0) rfl rfl rfl rfl ⟨rfl, rfl⟩ rfl ?_; show AOs _ _ _ _ ((_, _) :: _) _ _) | refine aos_nil ?_ | ((refine aos_cons rfl ?_); (first | refine gl rfl rfl rfl (by repeat first | exact .z | apply At.s) (by rfl) ?_ | refine aop_fieldAddr rfl rfl rfl ?_ | refine gsa rfl rfl rfl rfl (by repeat first | exact .z | apply At.s) rfl (by rfl) rfl ?_); show AOs _ _ _ _ ((_, _) :: _) _ _) | refine aw_seq ?_ | refine aw_region ?_ | refine aw_skip ?_ | refine aw_ret ?_ | refine aw_cond false rfl ?_))
    exact fpost (.inr rfl) (.a (partV (fa ||| fb) (lb) false)) (.refl _ _) (res_cell (i := 3) rfl rfl rfl) (.cons _ (.cons_cons _ (.cons_cons _ (List.nil_sublist _)))) ⟨rfl, rfl⟩
  · (repeat (first | refine aos_nil ?_ | ((refine aos_cons rfl ?_); (refine aop_fieldAddr rfl rfl rfl ?_); show AOs _ _ _ _ ((_, _) :: _) _ _) | refine aw_seq ?_ | refine aw_region ?_))
    (repeat (first | ((first | refine aos_cons rfl ?_ | refine aos_yes rfl rfl rfl ?_); refine aop_load_bits (i := 4) (m := fa) [] (bitsV la ++ [V.b _]) rfl rfl rfl rfl ⟨rfl, rfl⟩ rfl ?_; show AOs _ _ _ _ ((_, _) :: _) _ _) | ((first | refine aos_cons rfl ?_ | refine aos_yes rfl rfl rfl ?_); refine aop_load_bits (i := 3) (m := lb) (bitsV fb) [V.b _] rfl rfl rfl rfl ⟨rfl, rfl⟩ rfl ?_; show AOs _ _ _ _ ((_, _) :: _) _ _) | ((first | refine aos_cons rfl ?_ | refine aos_yes rfl rfl rfl ?_); refine aop_build rfl rfl (partV fa lb true) rfl ?_; show AOs _ _ _ _ ((_, _) :: _) _ _) | ((first | refine aos_cons rfl ?_ | refine aos_yes rfl rfl rfl ?_); (first | refine qd rfl rfl ?_ | refine gl rfl rfl rfl (by repeat first | exact .z | apply At.s) (by rfl) ?_ | refine aop_fieldAddr rfl rfl rfl ?_); show AOs _ _ _ _ ((_, _) :: _) _ _)))
    refine aos_cons rfl (aop_alloc rfl rfl ?_)
    intro b7
    show AOs _ _ _ _ ((_, _) :: _) (_ :: _) _
    (repeat (first | refine aos_nil ?_ | ((refine aos_cons rfl ?_); (first | refine gl rfl rfl rfl (by repeat first | exact .z | apply At.s) (by rfl) ?_ | refine aop_fieldAddr rfl rfl rfl ?_ | refine gsa rfl rfl rfl rfl (by repeat first | exact .z | apply At.s) rfl (by rfl) rfl ?_); show AOs _ _ _ _ ((_, _) :: _) _ _) | refine aw_seq ?_ | refine aw_region ?_ | refine aw_cond true rfl ?_))
    (refine aos_cons rfl ?_); refine aop_load_bits (i := 4) (m := fb) [] (bitsV lb ++ [V.b _]) rfl rfl rfl rfl ⟨rfl, rfl⟩ rfl ?_; show AOs _ _ _ _ ((_, _) :: _) _ _
    refine aos_cons rfl (aop_call rfl rfl rfl (fun _ _ => by kernel_rfl) (perm_at (i := 0) rfl .emp).1 (or_a (ch := .box b7 102 (partV fa lb true)) [] (bitsV lb ++ [V.b true]) 0 rfl ⟨rfl, rfl⟩) (.refl _) ?_)
    rintro r L' ⟨rfl, rfl⟩
    show AOs _ _ _ _ ((_, _) :: _) (Ch.box b7 102 (partV (fa ||| fb) lb true) :: _) _
    (repeat (first | refine aos_nil ?_ | ((refine aos_cons rfl ?_); (first | refine gl rfl rfl rfl (by repeat first | exact .z | apply At.s) (by rfl) ?_ | refine aop_fieldAddr rfl rfl rfl ?_); show AOs _ _ _ _ ((_, _) :: _) _ _) | refine aw_seq ?_ | refine aw_region ?_ | refine aw_cond true rfl ?_))
    (refine aos_cons rfl ?_); refine aop_load_bits (i := 5) (m := la) (bitsV fa) [V.b _] rfl rfl rfl rfl ⟨rfl, rfl⟩ rfl ?_; show AOs _ _ _ _ ((_, _) :: _) _ _
    refine aos_cons rfl (aop_call rfl rfl rfl (fun _ _ => by kernel_rfl) (perm_at (i := 0) rfl .emp).1 (or_a (ch := .box b7 102 (partV (fa ||| fb) lb true)) (bitsV (fa ||| fb)) [V.b true] 7 rfl ⟨rfl, rfl⟩) (.refl _) ?_)
    rintro r L' ⟨rfl, rfl⟩
    show AOs _ _ _ _ ((_, _) :: _) (Ch.box b7 102 (partV (fa ||| fb) (lb ||| la) true) :: _) _
    (repeat (first | ((refine aos_cons rfl ?_); refine aop_load_all (i := 0) rfl rfl rfl rfl ⟨rfl, rfl⟩ rfl ?_; show AOs _ _ _ _ ((_, _) :: _) _ _) | refine aos_nil ?_ | ((refine aos_cons rfl ?_); (refine gsa rfl rfl rfl rfl (by repeat first | exact .z | apply At.s) rfl (by rfl) rfl ?_); show AOs _ _ _ _ ((_, _) :: _) _ _) | refine aw_seq ?_ | refine aw_region ?_ | refine aw_ret ?_))
    exact fpost (.inr rfl) (.a (partV (fa ||| fb) (lb ||| la) true)) (.refl _ _) (res_cell (i := 3) rfl rfl rfl) (.cons _ (.cons_cons _ (.cons_cons _ (List.nil_sublist _)))) ⟨rfl, rfl⟩
end Go.Proofs.Ytlagablcopmhkaa
